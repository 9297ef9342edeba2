/- Part 13 of the proof: texts of the proof. -/
import Derived.Test.YtjoakhpdajlhiaaDoorQP12
import Derived.Shelf.Strings.Count
import Derived.Shelf.Strings.Search3
import Derived.Shelf.Strings.Repeat
import Derived.Shelf.Strings.LastIndexAll
import Derived.Shelf.SlIter.Nil
import Derived.Shelf.SortM.Plain
import Derived.Shelf.SortM.SortNone
import Derived.Shelf.Strings.Prefix
import Derived.Test.YtjoakhpdajlhiaaDoorChecked
import Derived.Maps.AppendAt
namespace Go.Proofs.YtjoakhpdajlhiaaDoor.V2.S
open Go
theorem keeps_s {O : Oz} (hO : O = zO) (Φ : Phi) (HR : RunR (Phi.fn Φ 7)) (HF : FewL (Phi.fn Φ 8)) (HB : BytesS (Phi.fn Φ 10)) (HE : EqBS (Phi.fn Φ 17)) (HA : AbsS (Phi.fn Φ 12)) (HC : CwdS (Phi.fn Φ 11)) (HWr : WriteS (Phi.fn Φ 13)) (HM : MakeS (Phi.fn Φ 14)) (HRm : RemoveS (Phi.fn Φ 15)) (HCd : CdS (Phi.fn Φ 16)) (HK : KindES (Phi.fn Φ 19)) (HD : ReadS (Phi.fn Φ 20)) (HT : TellsS (Phi.fn Φ 18)) (H : ∀ y Y, WalkN (Phi.fn (Phi.up Φ y Y) 9) y Y) : KeepsS (p3 O Φ) := fun {l a n m v} hRA hm ham => by
  by_cases hA : a.w = 0 ∨ a.w = 1 ∨ a.w = 2
  · exact keeps_A hO Φ HR HF HB HE HA HC HWr HM HRm HCd HK HD HT H hA hRA hm ham
  by_cases hB : a.w = 3
  · exact keeps_B hO Φ HR HF HB HE HA HC HWr HM HRm HCd HK HD HT H hB hRA hm ham
  by_cases hC2 : a.w = 4 ∨ a.w = 5 ∨ a.w = 6
  · exact keeps_C hO Φ HR HF HB HE HA HC HWr HM HRm HCd HK HD HT H hC2 hRA hm ham
  refine keeps_E hO Φ HR HF HB HE HA HC HWr HM HRm HCd HK HD HT H ?_ hRA hm ham
  cases hw : a.w with
  | ofNat x =>
    refine .inl ⟨x - 7, ?_⟩
    rw [hw] at hA hB hC2
    have e : x = x - 7 + 7 := by
      have h0 : (x : Int) ≠ 0 := fun h => hA (.inl h)
      have h1 : (x : Int) ≠ 1 := fun h => hA (.inr (.inl h))
      have h2 : (x : Int) ≠ 2 := fun h => hA (.inr (.inr h))
      have h3 : (x : Int) ≠ 3 := hB
      have h4 : (x : Int) ≠ 4 := fun h => hC2 (.inl h)
      have h5 : (x : Int) ≠ 5 := fun h => hC2 (.inr (.inl h))
      have h6 : (x : Int) ≠ 6 := fun h => hC2 (.inr (.inr h))
      omega
    exact congrArg Int.ofNat e
  | negSucc x => exact .inr ⟨x, rfl⟩
end Go.Proofs.YtjoakhpdajlhiaaDoor.V2.S
namespace Go.Proofs.YtjoakhpdajlhiaaDoor.V2
open Go Go.Shelf Go.Proofs Go.RowKit
def count241_lay_ren : Go.Shelf.Ren := ⟨fun | 138 => 88 | 195 => 106 | 218 => 108 | 143 => 89 | 219 => 109 | 217 => 119 | 225 => 120 | 224 => 121 | 267 => 122 | 266 => 124 | 314 => 125 | n => n, fun | 9 => 9 | 3 => 3 | 4 => 4 | 5 => 5 | 0 => 0 | 46 => 97 | 146 => 118 | 51 => 117 | n => n, fun | 1 => 0 | n => n⟩
theorem count241_lay : Go.Proofs.Lays.n138 Tryd.prog count241_lay_ren := {
  mixed := by kernel_rfl
  f138 := Tryd.func88.trans (congrArg some (by kernel_rfl))
  f143 := Tryd.func89.trans (congrArg some (by kernel_rfl))
  f195 := Tryd.func106.trans (congrArg some (by kernel_rfl))
  f217 := Tryd.func119.trans (congrArg some (by kernel_rfl))
  f218 := Tryd.func108.trans (congrArg some (by kernel_rfl))
  f219 := Tryd.func109.trans (congrArg some (by kernel_rfl))
  f224 := Tryd.func121.trans (congrArg some (by kernel_rfl))
  f225 := Tryd.func120.trans (congrArg some (by kernel_rfl))
  f266 := Tryd.func124.trans (congrArg some (by kernel_rfl))
  f267 := Tryd.func122.trans (congrArg some (by kernel_rfl))
  f314 := Tryd.func125.trans (congrArg some (by kernel_rfl))
  t0 := Tryd.underlying0
  a0 := Tryd.isAgg0
  z0 := Tryd.sizeOf0
  v0 := Tryd.zeroValue0
  t3 := Tryd.underlying3
  a3 := Tryd.isAgg3
  z3 := Tryd.sizeOf3
  v3 := Tryd.zeroValue3
  t4 := Tryd.underlying4
  a4 := Tryd.isAgg4
  z4 := Tryd.sizeOf4
  v4 := Tryd.zeroValue4
  t5 := Tryd.underlying5
  a5 := Tryd.isAgg5
  z5 := Tryd.sizeOf5
  v5 := Tryd.zeroValue5
  t9 := Tryd.underlying9
  a9 := Tryd.isAgg9
  z9 := Tryd.sizeOf9
  v9 := Tryd.zeroValue9
  t46 := Tryd.underlying97
  a46 := Tryd.isAgg97
  z46 := Tryd.sizeOf97
  v46 := Tryd.zeroValue97
  t51 := Tryd.underlying117
  a51 := Tryd.isAgg117
  z51 := Tryd.sizeOf117
  v51 := Tryd.zeroValue117
  t146 := Tryd.underlying118
  a146 := Tryd.isAgg118
  z146 := Tryd.sizeOf118
  v146 := Tryd.zeroValue118
  g1 := by kernel_rfl }
def index242_lay_ren : Go.Shelf.Ren := ⟨fun | 143 => 89 | 219 => 109 | 217 => 119 | 225 => 120 | 224 => 121 | 267 => 122 | 266 => 124 | 314 => 125 | n => n, fun | 9 => 9 | 3 => 3 | 4 => 4 | 5 => 5 | 46 => 97 | 146 => 118 | 51 => 117 | n => n, fun | 1 => 0 | n => n⟩
theorem index242_lay : Go.Proofs.Lays.n143 Tryd.prog index242_lay_ren := {
  mixed := by kernel_rfl
  f143 := Tryd.func89.trans (congrArg some (by kernel_rfl))
  f217 := Tryd.func119.trans (congrArg some (by kernel_rfl))
  f219 := Tryd.func109.trans (congrArg some (by kernel_rfl))
  f224 := Tryd.func121.trans (congrArg some (by kernel_rfl))
  f225 := Tryd.func120.trans (congrArg some (by kernel_rfl))
  f266 := Tryd.func124.trans (congrArg some (by kernel_rfl))
  f267 := Tryd.func122.trans (congrArg some (by kernel_rfl))
  f314 := Tryd.func125.trans (congrArg some (by kernel_rfl))
  t3 := Tryd.underlying3
  a3 := Tryd.isAgg3
  z3 := Tryd.sizeOf3
  v3 := Tryd.zeroValue3
  t4 := Tryd.underlying4
  a4 := Tryd.isAgg4
  z4 := Tryd.sizeOf4
  v4 := Tryd.zeroValue4
  t5 := Tryd.underlying5
  a5 := Tryd.isAgg5
  z5 := Tryd.sizeOf5
  v5 := Tryd.zeroValue5
  t9 := Tryd.underlying9
  a9 := Tryd.isAgg9
  z9 := Tryd.sizeOf9
  v9 := Tryd.zeroValue9
  t46 := Tryd.underlying97
  a46 := Tryd.isAgg97
  z46 := Tryd.sizeOf97
  v46 := Tryd.zeroValue97
  t51 := Tryd.underlying117
  a51 := Tryd.isAgg117
  z51 := Tryd.sizeOf117
  v51 := Tryd.zeroValue117
  t146 := Tryd.underlying118
  a146 := Tryd.isAgg118
  z146 := Tryd.sizeOf118
  v146 := Tryd.zeroValue118
  g1 := by kernel_rfl }
def ixS : List UInt8 → UInt8 → Nat → Int
  | [], _, _ => -1
  | b :: l, c, i => bif b == c then (i : Int) else ixS l c (i + 1)
theorem ixS_eq : ∀ (l : List UInt8) (c : UInt8) (i : Nat), ixS l c i = if Lib.indexByte l c = -1 then -1 else i + Lib.indexByte l c
  | [], _, _ => rfl
  | b :: l, c, i => by
    have ih := ixS_eq l c (i + 1)
    have hge := Lib.indexByte_ge l c
    unfold ixS Lib.indexByte
    cases hb : b == c
    · rw [cond_false, ih]
      simp only [Bool.false_eq_true, if_false, beq_iff_eq]
      by_cases h : Lib.indexByte l c = -1
      · simp [h]
      · simp only [h, if_false]
        rw [if_neg (by omega)]
        omega
    · simp
theorem ixS_zero (l : List UInt8) (c : UInt8) : ixS l c 0 = Lib.indexByte l c := by
  rw [ixS_eq]
  by_cases h : Lib.indexByte l c = -1
  · simp [h]
  · simp [h]
theorem count241 (s : List UInt8) (c : UInt8) (w : World) : Calls Tryd.prog 88 #[.string ⟨s.toArray⟩, .string ⟨#[c]⟩] w fun e w' => e = .returned (.int .i64 (s.count c)) ∧ w' = w :=
  Any.strings_Count_one count241_lay ⟨s.toArray⟩ c w
theorem index242 (s : List UInt8) (c : UInt8) (w : World) : Calls Tryd.prog 89 #[.string ⟨s.toArray⟩, .string ⟨#[c]⟩] w fun e w' => e = .returned (.int .i64 (ixS s c 0)) ∧ w' = w := by
  rw [ixS_zero]
  exact Any.strings_Index_one index242_lay ⟨s.toArray⟩ c w
def ctA (args : List AV) (σ : AH) : Out := match args with
  | [.str s, .str [c]] => (true, .int .i64 (s.count c), σ)
  | _ => bad σ
def ixA (args : List AV) (σ : AH) : Out := match args with
  | [.str s, .str [c]] => (true, .int .i64 (ixS s c 0), σ)
  | _ => bad σ
noncomputable def ciF (g : FuncId → List AV → AH → Out) (f : FuncId) (args : List AV) (σ : AH) : Out := bif Nat.beq f 88 then ctA args σ else bif Nat.beq f 89 then ixA args σ else g f args σ
theorem ciF_ok {Y : List Yl} {g : FuncId → List AV → AH → Out} (hg : FnOk Tryd.prog 3 g Y) : FnOk Tryd.prog 3 (ciF g) Y := by
  intro f args σ h
  unfold ciF at h ⊢
  cases hf : Nat.beq f 88
  case true =>
    rw [hf] at h
    simp only [cond_true] at h ⊢
    have e := Nat.eq_of_beq_eq_true hf
    subst e
    refine ⟨⟨_, Tryd.func88, by kernel_rfl, by kernel_rfl⟩, fun ρ W vs _ hG hr hvs => ?_⟩
    unfold ctA at h ⊢
    split at h
    case h_2 => cases h
    rename_i s c
    obtain ⟨v, mm, rfl, hv, u, mmm, rfl, hu, hmm⟩ := hvs
    have hmm : mmm = [] := hmm
    subst hmm
    unfold VR at hv hu
    subst hu hv
    refine (count241 s c W).mono ?_
    rintro e W' ⟨rfl, hw⟩
    subst hw
    exact ⟨_, ρ, rfl, hr, .refl (Nat.le_refl _), by unfold VR; rfl⟩
  case false =>
    rw [hf] at h
    rw [cond_false] at h ⊢
    cases hf2 : Nat.beq f 89
    case false => rw [hf2] at h; rw [cond_false] at h ⊢; exact hg f args σ h
    rw [hf2] at h
    simp only [cond_true] at h ⊢
    have e := Nat.eq_of_beq_eq_true hf2
    subst e
    refine ⟨⟨_, Tryd.func89, by kernel_rfl, by kernel_rfl⟩, fun ρ W vs _ hG hr hvs => ?_⟩
    unfold ixA at h ⊢
    split at h
    case h_2 => cases h
    rename_i s c
    obtain ⟨v, mm, rfl, hv, u, mmm, rfl, hu, hmm⟩ := hvs
    have hmm : mmm = [] := hmm
    subst hmm
    unfold VR at hv hu
    subst hu hv
    refine (index242 s c W).mono ?_
    rintro e W' ⟨rfl, hw⟩
    subst hw
    exact ⟨_, ρ, rfl, hr, .refl (Nat.le_refl _), by unfold VR; rfl⟩
noncomputable section
def k1S (l : List UInt8) (f : UInt8 → FR) : FR := List.rec (motive := fun _ => FR) .bad (fun c m _ => List.rec (motive := fun _ => FR) (f c) (fun _ _ _ => .bad) m) l
theorem k1S_cases {l : List UInt8} {f : UInt8 → FR} (h : k1S l f ≠ .bad) : ∃ c, l = [c] ∧ k1S l f = f c := by
  cases l with
  | nil => exact absurd rfl h
  | cons c m =>
    cases m with
    | nil => exact ⟨c, rfl, rfl⟩
    | cons _ _ => exact absurd rfl h
def ctQ (l : List FV) (σ : FH) (k : KV) : FR := k2L l fun x y => kS (fun s => kS (fun c => k1S (unp c) fun c => fN ((unp s).count c) fun m => k (.n .i64 m) σ) y) x
def ixQ (l : List FV) (σ : FH) (k : KV) : FR := k2L l fun x y => kS (fun s => kS (fun c => k1S (unp c) fun c => vI .i64 (ixS (unp s) c 0) fun v => k v σ) y) x
theorem ctQ_sm (l : List FV) (σ : FH) (k : KV) : Sm (ctQ l σ k) k (ctA (αL l) (αH σ)) := by
  intro h
  unfold ctQ at h ⊢
  obtain ⟨x, y, rfl, h1⟩ := k2L_cases h
  rw [h1] at h ⊢
  obtain ⟨s, rfl, h2⟩ := kS_cases h
  rw [h2] at h ⊢
  obtain ⟨c, rfl, h3⟩ := kS_cases h
  rw [h3] at h ⊢
  obtain ⟨u, h4, h5⟩ := k1S_cases h
  rw [h5] at h ⊢
  rw [fN_eq]
  refine ⟨_, σ, ?_, rfl⟩
  simp only [αL, αV, ctA, h4]
  rfl
theorem ixQ_sm (l : List FV) (σ : FH) (k : KV) : Sm (ixQ l σ k) k (ixA (αL l) (αH σ)) := by
  intro h
  unfold ixQ at h ⊢
  obtain ⟨x, y, rfl, h1⟩ := k2L_cases h
  rw [h1] at h ⊢
  obtain ⟨s, rfl, h2⟩ := kS_cases h
  rw [h2] at h ⊢
  obtain ⟨c, rfl, h3⟩ := kS_cases h
  rw [h3] at h ⊢
  obtain ⟨u, h4, h5⟩ := k1S_cases h
  rw [h5] at h ⊢
  obtain ⟨v, h6, h7⟩ := vI_of .i64 (ixS (unp s) u 0) fun v => k v σ
  refine ⟨v, σ, ?_, h7⟩
  simp only [αL, αV, ixA, h4, h6]
end
end Go.Proofs.YtjoakhpdajlhiaaDoor.V2
namespace Go.Proofs.YtjoakhpdajlhiaaDoor.V2
open Go Go.Shelf Go.Proofs Go.RowKit
theorem HR.below {ρ : Ren} {σ : AH} {W W' : World} (h : HR ρ σ W) (hb : Below W.heap.size W W') : HR ρ σ W' :=
  ⟨h.small, h.none_, fun b c d hρ => by
    obtain ⟨h1, h2, o, h3, h4⟩ := h.dom b c d hρ
    refine ⟨h1, Nat.lt_of_lt_of_le h2 hb.size, o, h3, ?_⟩
    rw [hb.block c h2]; exact h4, h.inj⟩
theorem Stp.below {N : Nat} {ρ : Ren} {σ : AH} {W W' : World} (hN : N ≤ σ.next) (hb : Below W.heap.size W W') : Stp N ρ σ W ρ σ W' :=
  ⟨fun _ _ => rfl, fun b _c d h => .inl ⟨b, d, h⟩, hN, fun _ _ _ _ h _ => h, fun c hc _ => hb.block c hc, hb.tape, hb.os, hb.output, hb.size, fun _ c _ _ _ _ hc h _ => ⟨h, hb.block c hc⟩⟩
noncomputable section
end
end Go.Proofs.YtjoakhpdajlhiaaDoor.V2
namespace Go.Proofs.YtjoakhpdajlhiaaDoor.V2.S
open Go
set_option maxRecDepth 100000
set_option maxHeartbeats 4000000
set_option linter.unusedVariables false
attribute [local irreducible] fN fO nM gM pM Phi.fn mp bl bpart bapp top1 pack
theorem ct_s : CntS ctQ := fun l σ k => by
  show k1S (unp (pack [47])) (fun c => fN ((unp (pack l)).count c) fun m => k (.n .i64 m) σ) = _
  rw [unp_pack, unp_pack]
  show (fN (l.count 47) fun m => k (.n .i64 m) σ) = _
  rw [fN_eq]; rfl
theorem ixS_first : ∀ (l : Bs) (i : Nat), ixS l 47 i = if 0 < countS l then ((i + firstS l : Nat) : Int) else -1
  | [], i => rfl
  | c :: l, i => by
    rw [ixS]
    by_cases h : c = 47
    · subst h
      have : 0 < countS (47 :: l) := by unfold countS; simp
      rw [if_pos this]; rfl
    · have e1 : countS (c :: l) = countS l := by unfold countS; rw [List.count_cons_of_ne h]
      have e2 : firstS (c :: l) = firstS l + 1 := by rw [firstS, if_neg h]
      rw [e1, e2, ixS_first l (i + 1), show (c == 47) = false from beq_eq_false_iff_ne.2 h, cond_false]
      by_cases hp : 0 < countS l
      · rw [if_pos hp, if_pos hp]; congr 1; omega
      · rw [if_neg hp, if_neg hp]
theorem ix_s : IxS ixQ := fun l σ k => by
  show k1S (unp (pack [47])) (fun c => vI .i64 (ixS (unp (pack l)) c 0) fun v => k v σ) = _
  rw [unp_pack, unp_pack]
  show (vI .i64 (ixS l 47 0) fun v => k v σ) = _
  rw [ixS_first]
  by_cases hp : 0 < countS l
  · rw [if_pos hp, if_pos hp, Nat.zero_add]
    show (fN (firstS l) fun m => k (.n .i64 m) σ) = _
    rw [fN_eq]
  · rw [if_neg hp, if_neg hp]
    show (fN 0 fun m => k (.z .i64 m) σ) = _
    rw [fN_eq]
end Go.Proofs.YtjoakhpdajlhiaaDoor.V2.S
namespace Go.Proofs.YtjoakhpdajlhiaaDoor.V2.S
open Go
set_option maxRecDepth 100000
set_option maxHeartbeats 4000000
set_option linter.unusedVariables false
attribute [local irreducible] fN fO nM gM pM Phi.fn mp bl bpart bapp top1 pack
theorem lastS_zero {l : Bs} (h : lastS l = 0) : ∀ i, i < l.length → l[i]? ≠ some 47 := by
  induction l with
  | nil => intro i hi; simp at hi
  | cons c l ih =>
    rw [lastS] at h
    by_cases h0 : lastS l = 0
    · rw [if_pos h0] at h
      have hc : c ≠ 47 := fun hc => by rw [if_pos hc] at h; cases h
      intro i hi
      cases i with
      | zero => simpa using hc
      | succ i => simpa using ih h0 i (by simpa using hi)
    · rw [if_neg h0] at h; omega
theorem lastS_pos {l : Bs} (h : lastS l ≠ 0) : l[lastS l - 1]? = some 47 ∧ ∀ i, lastS l ≤ i → l[i]? ≠ some 47 := by
  induction l with
  | nil => exact absurd rfl h
  | cons c l ih =>
    rw [lastS] at h ⊢
    by_cases h0 : lastS l = 0
    · rw [if_pos h0] at h ⊢
      by_cases hc : c = 47
      · rw [if_pos hc]
        refine ⟨by simp [hc], fun i hi => ?_⟩
        obtain ⟨j, rfl⟩ : ∃ j, i = j + 1 := ⟨i - 1, by omega⟩
        rw [List.getElem?_cons_succ]
        rcases Nat.lt_or_ge j l.length with hj | hj
        · exact lastS_zero h0 j hj
        · rw [List.getElem?_eq_none hj]; simp
      · rw [if_neg hc] at h; exact absurd rfl h
    · rw [if_neg h0]
      obtain ⟨h1, h2⟩ := ih h0
      refine ⟨?_, fun i hi => ?_⟩
      · obtain ⟨j, hj⟩ : ∃ j, lastS l = j + 1 := ⟨lastS l - 1, by omega⟩
        rw [hj, Nat.add_sub_cancel] at h1
        rw [hj, Nat.add_sub_cancel, List.getElem?_cons_succ]; exact h1
      · obtain ⟨j, rfl⟩ : ∃ j, i = j + 1 := ⟨i - 1, by omega⟩
        rw [List.getElem?_cons_succ]; exact h2 j (by omega)
theorem occ1 (s : Bs) (i : Nat) : Lib.occAt s [47] i = true ↔ s[i]? = some 47 := by
  unfold Lib.occAt
  rw [show s[i]? = (s.drop i)[0]? by simp]
  cases s.drop i with
  | nil => simp [List.isPrefixOf]
  | cons c l =>
    simp [List.isPrefixOf]
    exact eq_comm
theorem last_eq (p : Bs) : Lib.lastIndex p [47] = (lastS p : Int) - 1 := by
  unfold Lib.lastIndex
  have hle := lastS_le p
  split
  · rename_i hl
    have hl : 1 ≤ p.length := hl
    rcases Lib.lastOcc_spec p [47] (p.length - [(47 : UInt8)].length + 1) with ⟨h, h2⟩ | ⟨i, h1, h, h2, h3⟩
    · rw [h]
      by_cases h0 : lastS p = 0
      · rw [h0]; rfl
      · have := (lastS_pos h0).1
        have h4 := h2 (lastS p - 1) (by show lastS p - 1 < p.length - 1 + 1; omega)
        rw [(occ1 _ _).2 this] at h4; cases h4
    · rw [h]
      have h2 := (occ1 _ _).1 h2
      have h1 : i < p.length - 1 + 1 := h1
      by_cases h0 : lastS p = 0
      · exact absurd h2 (lastS_zero h0 i (by omega))
      · obtain ⟨h5, h6⟩ := lastS_pos h0
        have h7 : i < lastS p := Nat.lt_of_not_le fun hh => h6 i hh h2
        have h8 : ¬ i < lastS p - 1 := fun hh => by
          have := h3 (lastS p - 1) hh (by show lastS p - 1 < p.length - 1 + 1; omega)
          rw [(occ1 _ _).2 h5] at this; cases this
        omega
  · rename_i hl
    have : p = [] := by
      cases p with
      | nil => rfl
      | cons c l => exact absurd (by show 1 ≤ l.length + 1; omega) hl
    subst this; rfl
theorem par_eq (p : Bs) : p.take (max (Lib.lastIndex p [47]) 1).toNat = parG p := by
  unfold parG
  rw [last_eq]; congr 1; omega
theorem trim_eq (d : Bs) : Lib.trimSuffix d [47] = trimG d := by
  unfold Lib.trimSuffix trimG
  have : Lib.hasSuffix d [47] = hasSuf d [47] := by
    unfold Lib.hasSuffix hasSuf
    rw [Bool.eq_iff_iff, List.isSuffixOf_iff_suffix, List.suffix_iff_eq_drop, Bool.and_eq_true, decide_eq_true_iff, decide_eq_true_iff]
    constructor
    · intro h
      refine ⟨?_, h.symm⟩
      have := congrArg List.length h
      rw [List.length_drop] at this
      have this : 1 = d.length - (d.length - 1) := this
      show 1 ≤ d.length
      omega
    · rintro ⟨_, h⟩; exact h.symm
  rw [this]; rfl
theorem join_eq (d n : Bs) : Lib.trimSuffix d [47] ++ [47] ++ n = joinG d n := by rw [trim_eq]; rfl
end Go.Proofs.YtjoakhpdajlhiaaDoor.V2.S
namespace Go.Proofs.YtjoakhpdajlhiaaDoor.V2
open Go.Shelf Go.Proofs
def sorted185_lay_ren : Go.Shelf.Ren := ⟨fun | 6 => 29 | 8 => 63 | 9 => 64 | 11 => 84 | 13 => 86 | 12 => 85 | 23 => 104 | 24 => 105 | 14 => 95 | 15 => 96 | 16 => 97 | 17 => 98 | 18 => 99 | 19 => 100 | 20 => 101 | 21 => 102 | 22 => 103 | 25 => 112 | 26 => 113 | 27 => 114 | 28 => 115 | 29 => 116 | 30 => 117 | 31 => 123 | n => n, fun | 26 => 9 | 28 => 62 | 24 => 56 | 0 => 0 | 3 => 3 | 37 => 97 | 48 => 117 | 50 => 120 | 4 => 4 | 40 => 133 | 39 => 132 | 45 => 137 | 5 => 5 | 9 => 9 | 51 => 144 | 55 => 148 | 57 => 151 | 58 => 87 | 33 => 71 | n => n, fun | n => n⟩
theorem sorted185_lay : Go.Proofs.SlLaysZ.n6 Tryd.prog sorted185_lay_ren := {
  mixed := by kernel_rfl
  f6 := ⟨Tryd.f29.name, by decide, Tryd.func29.trans (congrArg some (by kernel_rfl))⟩
  f8 := ⟨Tryd.f63.name, by decide, Tryd.func63.trans (congrArg some (by kernel_rfl))⟩
  f11 := ⟨Tryd.f84.name, by decide, Tryd.func84.trans (congrArg some (by kernel_rfl))⟩
  t0 := Tryd.underlying0
  a0 := Tryd.isAgg0
  z0 := Tryd.sizeOf0
  v0 := Tryd.zeroValue0
  t24 := Tryd.underlying56
  a24 := Tryd.isAgg56
  z24 := Tryd.sizeOf56
  v24 := Tryd.zeroValue56
  t26 := Tryd.underlying9
  a26 := Tryd.isAgg9
  z26 := Tryd.sizeOf9
  v26 := Tryd.zeroValue9
  t28 := Tryd.underlying62
  a28 := Tryd.isAgg62
  z28 := Tryd.sizeOf62
  v28 := Tryd.zeroValue62
  i26 := by kernel_rfl }
def sort184_lay_ren : Go.Shelf.Ren := ⟨fun | 6 => 64 | 8 => 86 | 9 => 85 | 19 => 104 | 20 => 105 | 21 => 95 | 22 => 96 | 23 => 97 | 24 => 98 | 25 => 99 | 26 => 100 | 27 => 101 | 28 => 102 | 29 => 103 | 36 => 112 | 31 => 113 | 32 => 114 | 37 => 115 | 38 => 116 | 39 => 117 | 41 => 123 | n => n, fun | 27 => 56 | 29 => 9 | 3 => 3 | 32 => 97 | 26 => 56 | 0 => 0 | 44 => 117 | 46 => 120 | 4 => 4 | 36 => 133 | 35 => 132 | 41 => 137 | 5 => 5 | 9 => 9 | 53 => 144 | 57 => 148 | 63 => 151 | 64 => 87 | n => n, fun | n => n⟩
theorem sort184_lay : Go.Proofs.SlLaysM.n6 Tryd.prog sort184_lay_ren := {
  mixed := by kernel_rfl
  f6 := ⟨Tryd.f64.name, by decide, Tryd.func64.trans (congrArg some (by kernel_rfl))⟩
  f8 := Tryd.func86.trans (congrArg some (by kernel_rfl))
  f9 := ⟨Tryd.f85.name, by decide, Tryd.func85.trans (congrArg some (by kernel_rfl))⟩
  f19 := Tryd.func104.trans (congrArg some (by kernel_rfl))
  f20 := Tryd.func105.trans (congrArg some (by kernel_rfl))
  f21 := ⟨Tryd.f95.name, by decide, Tryd.func95.trans (congrArg some (by kernel_rfl))⟩
  f22 := ⟨Tryd.f96.name, by decide, Tryd.func96.trans (congrArg some (by kernel_rfl))⟩
  f23 := ⟨Tryd.f97.name, by decide, Tryd.func97.trans (congrArg some (by kernel_rfl))⟩
  f24 := ⟨Tryd.f98.name, by decide, Tryd.func98.trans (congrArg some (by kernel_rfl))⟩
  f25 := ⟨Tryd.f99.name, by decide, Tryd.func99.trans (congrArg some (by kernel_rfl))⟩
  f26 := ⟨Tryd.f100.name, by decide, Tryd.func100.trans (congrArg some (by kernel_rfl))⟩
  f27 := ⟨Tryd.f101.name, by decide, Tryd.func101.trans (congrArg some (by kernel_rfl))⟩
  f28 := ⟨Tryd.f102.name, by decide, Tryd.func102.trans (congrArg some (by kernel_rfl))⟩
  f29 := ⟨Tryd.f103.name, by decide, Tryd.func103.trans (congrArg some (by kernel_rfl))⟩
  f31 := Tryd.func113.trans (congrArg some (by kernel_rfl))
  f32 := Tryd.func114.trans (congrArg some (by kernel_rfl))
  f36 := ⟨Tryd.f112.name, by decide, Tryd.func112.trans (congrArg some (by kernel_rfl))⟩
  f37 := ⟨Tryd.f115.name, by decide, Tryd.func115.trans (congrArg some (by kernel_rfl))⟩
  f38 := ⟨Tryd.f116.name, by decide, Tryd.func116.trans (congrArg some (by kernel_rfl))⟩
  f39 := ⟨Tryd.f117.name, by decide, Tryd.func117.trans (congrArg some (by kernel_rfl))⟩
  f41 := ⟨Tryd.f123.name, by decide, Tryd.func123.trans (congrArg some (by kernel_rfl))⟩
  t0 := Tryd.underlying0
  a0 := Tryd.isAgg0
  z0 := Tryd.sizeOf0
  v0 := Tryd.zeroValue0
  t3 := Tryd.underlying3
  a3 := Tryd.isAgg3
  z3 := Tryd.sizeOf3
  v3 := Tryd.zeroValue3
  t4 := Tryd.underlying4
  a4 := Tryd.isAgg4
  z4 := Tryd.sizeOf4
  v4 := Tryd.zeroValue4
  t5 := Tryd.underlying5
  a5 := Tryd.isAgg5
  z5 := Tryd.sizeOf5
  v5 := Tryd.zeroValue5
  t9 := Tryd.underlying9
  a9 := Tryd.isAgg9
  z9 := Tryd.sizeOf9
  v9 := Tryd.zeroValue9
  t26 := Tryd.underlying56
  a26 := Tryd.isAgg56
  z26 := Tryd.sizeOf56
  v26 := Tryd.zeroValue56
  t27 := Tryd.underlying56
  a27 := Tryd.isAgg56
  z27 := Tryd.sizeOf56
  v27 := Tryd.zeroValue56
  t29 := Tryd.underlying9
  a29 := Tryd.isAgg9
  z29 := Tryd.sizeOf9
  v29 := Tryd.zeroValue9
  t32 := Tryd.underlying97
  a32 := Tryd.isAgg97
  z32 := Tryd.sizeOf97
  v32 := Tryd.zeroValue97
  t35 := Tryd.underlying132
  a35 := Tryd.isAgg132
  z35 := Tryd.sizeOf132
  v35 := Tryd.zeroValue132
  t36 := Tryd.underlying133
  a36 := Tryd.isAgg133
  z36 := Tryd.sizeOf133
  v36 := Tryd.zeroValue133
  t41 := Tryd.underlying137
  a41 := Tryd.isAgg137
  z41 := Tryd.sizeOf137
  v41 := Tryd.zeroValue137
  t44 := Tryd.underlying117
  a44 := Tryd.isAgg117
  z44 := Tryd.sizeOf117
  v44 := Tryd.zeroValue117
  t46 := Tryd.underlying120
  a46 := Tryd.isAgg120
  z46 := Tryd.sizeOf120
  v46 := Tryd.zeroValue120
  t53 := Tryd.underlying144
  a53 := Tryd.isAgg144
  z53 := Tryd.sizeOf144
  v53 := Tryd.zeroValue144
  t57 := Tryd.underlying148
  a57 := Tryd.isAgg148
  z57 := Tryd.sizeOf148
  v57 := Tryd.zeroValue148
  t63 := Tryd.underlying151
  a63 := Tryd.isAgg151
  z63 := Tryd.sizeOf151
  v63 := Tryd.zeroValue151
  t64 := Tryd.underlying87
  a64 := Tryd.isAgg87
  z64 := Tryd.sizeOf87
  v64 := Tryd.zeroValue87 }
def last284_lay_ren : Go.Shelf.Ren := ⟨fun | 148 => 70 | 222 => 77 | 223 => 91 | 269 => 110 | n => n, fun | 9 => 9 | 3 => 3 | 4 => 4 | 5 => 5 | 146 => 118 | 51 => 117 | 46 => 97 | n => n, fun | n => n⟩
theorem last284_lay : Go.Proofs.Lays.n148 Tryd.prog last284_lay_ren := {
  mixed := by kernel_rfl
  f148 := Tryd.func70.trans (congrArg some (by kernel_rfl))
  f222 := Tryd.func77.trans (congrArg some (by kernel_rfl))
  f223 := Tryd.func91.trans (congrArg some (by kernel_rfl))
  f269 := Tryd.func110.trans (congrArg some (by kernel_rfl))
  t3 := Tryd.underlying3
  a3 := Tryd.isAgg3
  z3 := Tryd.sizeOf3
  v3 := Tryd.zeroValue3
  t4 := Tryd.underlying4
  a4 := Tryd.isAgg4
  z4 := Tryd.sizeOf4
  v4 := Tryd.zeroValue4
  t5 := Tryd.underlying5
  a5 := Tryd.isAgg5
  z5 := Tryd.sizeOf5
  v5 := Tryd.zeroValue5
  t9 := Tryd.underlying9
  a9 := Tryd.isAgg9
  z9 := Tryd.sizeOf9
  v9 := Tryd.zeroValue9
  t46 := Tryd.underlying97
  a46 := Tryd.isAgg97
  z46 := Tryd.sizeOf97
  v46 := Tryd.zeroValue97
  t51 := Tryd.underlying117
  a51 := Tryd.isAgg117
  z51 := Tryd.sizeOf117
  v51 := Tryd.zeroValue117
  t146 := Tryd.underlying118
  a146 := Tryd.isAgg118
  z146 := Tryd.sizeOf118
  v146 := Tryd.zeroValue118 }
def trim160_lay_ren : Go.Shelf.Ren := ⟨fun | 102 => 71 | 209 => 92 | 207 => 111 | n => n, fun | 9 => 9 | 4 => 4 | 3 => 3 | n => n, fun | n => n⟩
theorem trim160_lay : Go.Proofs.Lays.n102 Tryd.prog trim160_lay_ren := {
  mixed := by kernel_rfl
  f102 := Tryd.func71.trans (congrArg some (by kernel_rfl))
  f207 := Tryd.func111.trans (congrArg some (by kernel_rfl))
  f209 := Tryd.func92.trans (congrArg some (by kernel_rfl))
  t3 := Tryd.underlying3
  a3 := Tryd.isAgg3
  z3 := Tryd.sizeOf3
  v3 := Tryd.zeroValue3
  t4 := Tryd.underlying4
  a4 := Tryd.isAgg4
  z4 := Tryd.sizeOf4
  v4 := Tryd.zeroValue4
  t9 := Tryd.underlying9
  a9 := Tryd.isAgg9
  z9 := Tryd.sizeOf9
  v9 := Tryd.zeroValue9 }
end Go.Proofs.YtjoakhpdajlhiaaDoor.V2
namespace Go.Proofs.YtjoakhpdajlhiaaDoor.V2
open Go Go.RowKit Go.Maps Go.Sort Go.Shelf
theorem law9 : Keyed Tryd.prog 9 := string_keyed Tryd.underlying9
theorem sorts185 (m : Nat) : AnyZ.SortsIn Tryd.prog sorted185_lay_ren Fence.wide m :=
  ⟨fun blk off cap ss W hH hblk hsz => callsIn_wide.2 (AnyM.slices_Sort_string sort184_lay blk off cap ss W hH hblk hsz),
   fun p cap W => callsIn_wide.2 (AnyM.slices_Sort_string_none sort184_lay p cap W)⟩
set_option maxRecDepth 100000 in
set_option maxHeartbeats 1000000 in
theorem keys250 {H : Type} (n : Nat) (hn : 1 ≤ n) (l Bm o b nn : Nat) (D0 : DataW H) {R : Value → Option (DataW H × List MemPlace)} (J : List (List UInt8) → World → Prop)
    (hY : ∀ pre x W, J pre W → pre.length < Maps.size D0 → YieldAt Fence.wide (n - 1) Tryd.prog l #[encStr x] W fun e W' => e = .returned (.bool true) ∧ J (pre ++ [x]) W' ∧ KeepsWalks W W')
    (W : World) (hJ : AbidesFrom W.heap.size J) (hm : W.cell? ⟨Bm, o, none⟩ = some (.map (some b))) (hown : W.ownsMap Tryd.prog 9 R b nn D0) (h0 : J [] W) :
    CallsIn Fence.wide n Tryd.prog 65 #[.func (.yield l) #[] #[], .pointer (some ⟨Bm, o, none⟩)] W fun e W' => (∃ v, e = .returned v) ∧ ∃ ss : List (List UInt8), ss.Perm (strKeys D0) ∧ J ss W' := by
  refine callsIn_of_wp Tryd.func65 rfl trivial ?_ rfl
  simp only [Tryd.ntmps65, List.size_toArray, List.length_cons, List.length_nil, Nat.reduceAdd, Nat.reduceSub, Array.replicate_succ, Array.replicate_zero, List.push_toArray, List.append_toArray, List.nil_append, List.cons_append]
  gi_wp2_with (first
    | (gi_at_range; refine wpListIn_range_own _ rfl _ 29 rfl 9 32 law9 Tryd.underlying29 _ b nn _ rfl hown ?_; intro w0 hrg0 hg0 hs0)
    | gi_in)
  go_frame
  gi_loopw [3] (fun _ wr => ∃ (left : Lit → Bool) (cnt : Nat) (ss : List (List UInt8)), wr.ranges Tryd.prog 9 R b W.heap.size nn D0 left cnt ∧ ss.length + cnt ≤ Maps.size D0 ∧ Collected D0 left ss ∧ J ss wr)
    (fun _ wr => wr.rangeLeft b W.heap.size)
  case atStart =>
    exact ⟨_, _, [], hrg0, by simp, Collected.start D0, hJ [] W w0 none h0 hg0 (fun r e => by cases e)⟩
  case round =>
    obtain ⟨left, cnt, ss, hrg, hcs, hC, hJs⟩ := hrel
    gi_wp2_with (first
      | (gi_at_next; refine wpListIn_next_ranges _ rfl _ rfl 9 law9 R encStr id (fun key kl hk => by obtain ⟨x, hx, _⟩ := Maps.keyOf_str Tryd.underlying9 hk; exact ⟨x, hx⟩) (fun v _ _ => ⟨v, rfl⟩) b W.heap.size nn _ _ _ rfl hrg ?_ ?_)
      | gi_in)
    · intro hc0 hl0
      gi_wp2
      go_end0
      exact ⟨⟨_, rfl⟩, ss, hC.perm hown law9 Tryd.underlying9 hl0, hJs⟩
    · intro x c kl yd yp w2 cnt2 hkey hlk hv hat hrg2 hlt hg2 hs2 hen
      obtain ⟨x', ex, rfl, _⟩ := Maps.keyOf_str Tryd.underlying9 hkey
      obtain rfl : x = x' := encStr_inj ex
      have hJ2 : J ss w2 := hJ ss wr w2 (some W.heap.size) hJs hg2 (fun r e => by cases e; exact ⟨Nat.le_refl _, hrg.iter_walk⟩)
      obtain ⟨fn, tmps, assign, body, hy, hR⟩ := hY ss x w2 hJ2 (by omega)
      clear hs2
      gi_wp2
      refine hR.mono ?_
      rintro e W3 ⟨rfl, hJ3, hk3⟩
      gi_wp2
      have hrg3 := hrg2.of_walks hk3
      go_roundw
      case rel => exact ⟨_, cnt2, ss ++ [x], hrg3, by simp; omega, hC.step hlk hat, hJ3⟩
      case measure => rw [hrg3.left_eq, hrg.left_eq]; exact hlt
theorem gives250 {H : Type} (n : Nat) (hn : 1 ≤ n) (Bm o b nn : Nat) (D0 : DataW H) {R : Value → Option (DataW H × List MemPlace)} (w : World) (hBm : Bm < w.heap.size)
    (hm : w.cell? ⟨Bm, o, none⟩ = some (.map (some b))) (hown : w.ownsMap Tryd.prog 9 R b nn D0) :
    SeqGives Fence.wide n Tryd.prog 65 #[.pointer (some ⟨Bm, o, none⟩)] encStr (fun ss => ss.Perm (strKeys D0)) (Maps.size D0) w := fun l J W hW hJ hY h0 => by
  have hown' : W.ownsMap Tryd.prog 9 R b nn D0 := by
    have hbl := hown.lt
    obtain ⟨es, clock, hb, Ft, hs, hD⟩ := hown
    exact ⟨es, clock, (hW.block b hbl).trans hb, Ft, hs, hD⟩
  exact keys250 n hn l Bm o b nn D0 J hY W hJ ((hW.cell (p := ⟨Bm, o, none⟩) hBm).trans hm) hown' h0
theorem sorted250 {H : Type} (Bm o b nn : Nat) (D0 : DataW H) {R : Value → Option (DataW H × List MemPlace)} (w : World) (hBm : Bm < w.heap.size) (hm : w.cell? ⟨Bm, o, none⟩ = some (.map (some b)))
    (hown : w.ownsMap Tryd.prog 9 R b nn D0) (hmax : Maps.size D0 ≤ maxLen) (hbytes : Maps.size D0 * 16 ≤ 140737488355328) :
    Calls Tryd.prog 29 #[.func (.func 65) #[] #[.pointer (some ⟨Bm, o, none⟩)]] w fun e w' => ∃ (v : Value) (ss : List (List UInt8)), e = .returned v ∧ ss.Perm (strKeys D0) ∧
      w'.ownsRow w.heap.size 9 1 v ss.length ((ss.mergeSort (fun x y => decide (x ≤ y))).map encStr) ∧ (v = .slice none 0 0 ↔ ss = []) ∧ Below w.heap.size w w' :=
  (callsIn_wide (n := 5)).1 (AnyZ.sorted_in sorted185_lay Fence.wide 5 trivial trivial trivial trivial rfl (by omega) (sorts185 _) (enters_of Tryd.func64 (by kernel_rfl) rfl) 65 #[.pointer (some ⟨Bm, o, none⟩)] trivial (enters_of Tryd.func65 (by kernel_rfl) rfl) _ _ hmax hbytes _ (gives250 _ (by omega) Bm o b nn D0 w hBm hm hown))
end Go.Proofs.YtjoakhpdajlhiaaDoor.V2
namespace Go.Proofs.YtjoakhpdajlhiaaDoor.V2
open Go Go.RowKit Go.Maps Go.Sort Go.Shelf
def parB (p : List UInt8) : List UInt8 := p.take (max (Lib.lastIndex p [47]) 1).toNat
def joinB (d n : List UInt8) : List UInt8 := Lib.trimSuffix d [47] ++ [47] ++ n
theorem last_le (p s : List UInt8) : Lib.lastIndex p s ≤ p.length := by
  unfold Lib.lastIndex
  split
  · rcases Lib.lastOcc_spec p s (p.length - s.length + 1) with ⟨h, _⟩ | ⟨i, h1, h, _⟩
    · rw [h]; omega
    · rw [h]; omega
  · omega
theorem join_str (a b c : List UInt8) : ({ data := a.toArray } ++ { data := b.toArray } ++ { data := c.toArray } : ByteArray) = { data := (a ++ b ++ c).toArray } := by
  apply ByteArray.ext
  simp [ByteArray.data_append]
theorem cut_str (p : List UInt8) (n : Nat) : (({ data := p.toArray } : ByteArray).extract 0 n) = { data := (p.take n).toArray } := by
  apply ByteArray.ext
  rw [ByteArray.data_extract]
  simp
set_option maxRecDepth 100000 in
set_option maxHeartbeats 1000000 in
theorem parent91 (p : List UInt8) (w : World) (h0 : p ≠ []) (hs : p.length < 4611686018427387904) : Calls Tryd.prog 37 #[encStr p] w fun e w' => e = .returned (encStr (parB p)) ∧ w' = w := by
  have hL := Any.strings_LastIndex last284_lay ⟨p.toArray⟩ ⟨#[47]⟩ (by show p.toArray.size < _; simpa using hs) w
  change Calls Tryd.prog 70 _ _ _ at hL
  have hb : 0 ≤ max (Lib.lastIndex p [47]) 1 ∧ max (Lib.lastIndex p [47]) 1 ≤ (p.length : Int) := by
    have h1 := last_le p [47]
    have h2 := List.length_pos_iff.2 h0
    omega
  unfold encStr
  go_enter Tryd.func37, Tryd.ntmps37
  go_wp2_with (go_at_call 70; refine hL.mono ?_; rintro e w' ⟨rfl, rfl⟩)
  all_goals first
    | (exact absurd hb (by assumption))
    | (go_ret; exact ⟨by rw [cut_str]; rfl, rfl⟩)
set_option maxRecDepth 100000 in
set_option maxHeartbeats 1000000 in
theorem join92 (d n : List UInt8) (w : World) (hs : d.length ≤ 1000000) (hn : n.length ≤ 1000000) : Calls Tryd.prog 38 #[encStr d, encStr n] w fun e w' => e = .returned (encStr (joinB d n)) ∧ w' = w := by
  have hL := Any.strings_TrimSuffix trim160_lay ⟨d.toArray⟩ ⟨#[47]⟩ w (by show d.toArray.size ≤ _; simp; omega)
  change Calls Tryd.prog 71 _ _ _ at hL
  have hb : (Lib.trimSuffix d [47]).length ≤ d.length := by
    unfold Lib.trimSuffix
    split
    · rw [List.length_take]; omega
    · exact Nat.le_refl _
  unfold encStr
  go_enter Tryd.func38, Tryd.ntmps38
  go_wp2_with (go_at_call 71; refine hL.mono ?_; rintro e w' ⟨rfl, rfl⟩)
  all_goals first
    | (exfalso; simp at *; omega)
    | (go_ret; exact ⟨by rw [show (#[47] : Array UInt8) = [47].toArray from rfl, join_str]; rfl, rfl⟩)
end Go.Proofs.YtjoakhpdajlhiaaDoor.V2
namespace Go.Proofs.YtjoakhpdajlhiaaDoor.V2
open Go Go.RowKit Go.Maps Go.Sort Go.Shelf
theorem info9 : (Tryd.prog.info? 9).map (fun i => (i.zero, i.size, i.bytes)) = some (some (.string ⟨#[]⟩), 1, 16) := by kernel_rfl
theorem sort184 (m blk off cap : Nat) (ss : List (List UInt8)) (W : World) (hH : Holds encStr W blk off ss.toArray) (hb : blk < W.heap.size) (hs : ss.length < 4611686018427387904) :
    CallsIn Fence.wide m Tryd.prog 64 #[.slice (some ⟨blk, off, none⟩) ss.length cap] W fun e w' => e = .returned (.tuple #[]) ∧ ∃ k os, w' = grow (putRow encStr (Sort.ahead W k) blk off (ss.mergeSort fun x y => decide (x ≤ y)).toArray) os := (sorts185 m).1 blk off cap ss W hH hb hs
theorem sort184_nil (m : Nat) (p : Option Addr) (cap : Nat) (W : World) : CallsIn Fence.wide m Tryd.prog 64 #[.slice p 0 cap] W fun e w' => e = .returned (.tuple #[]) ∧ w' = W := (sorts185 m).2 p cap W
def outS (dir : List UInt8) (l : List (List UInt8)) : List (List UInt8) := (l.filter fun x => decide (parB x = dir)).map fun x => x.drop (joinB dir []).length
theorem outS_snoc (dir : List UInt8) (l : List (List UInt8)) (x : List UInt8) : outS dir (l ++ [x]) = outS dir l ++ (if parB x = dir then [x.drop (joinB dir []).length] else []) := by
  unfold outS
  rw [List.filter_append, List.map_append]
  by_cases h : parB x = dir <;> simp [h]
theorem outS_le (dir : List UInt8) (l : List (List UInt8)) : (outS dir l).length ≤ l.length := by
  unfold outS
  rw [List.length_map]
  exact List.length_filter_le _ _
theorem drop_str (p : List UInt8) (n : Nat) (h : n ≤ p.length) : (({ data := p.toArray } : ByteArray).extract n p.length) = { data := (p.drop n).toArray } := by
  apply ByteArray.ext
  rw [ByteArray.data_extract]
  simp
  exact List.take_of_length_le (by rw [List.length_drop]; omega)
theorem mem_keys {H : Type} {D0 : DataW H} {R : Value → Option (DataW H × List MemPlace)} {b nn : Nat} {w : World} (hown : w.ownsMap Tryd.prog 9 R b nn D0) {x : List UInt8} (h : has D0 (.string x) = true) : x ∈ strKeys D0 := by
  obtain ⟨es, rfl, hk⟩ := hown.keysOf
  rw [has_eq, List.any_eq_true] at h
  obtain ⟨p, hp, hs⟩ := h
  obtain ⟨v, hv⟩ := hk p hp
  obtain ⟨y, _, hy, _⟩ := Maps.keyOf_str Tryd.underlying9 hv
  rw [hy] at hs
  have : y = x := by simpa [Lit.sameKey] using hs
  subst this
  exact List.mem_map.2 ⟨p, hp, by rw [hy]; rfl⟩
set_option maxRecDepth 100000 in
set_option maxHeartbeats 2000000 in
theorem within94 {H : Type} (c o b nn : Nat) (D0 : DataW H) {R : Value → Option (DataW H × List MemPlace)} (dir : List UInt8) (w : World) (hc : c < w.heap.size) (ht : w.cell? ⟨c, o, none⟩ = some (.map (some b)))
    (hown : w.ownsMap Tryd.prog 9 R b nn D0) (hmax : Maps.size D0 ≤ 1000000) (hdir : dir.length ≤ 1000000)
    (hkeys : ∀ x ∈ strKeys D0, x ≠ [] ∧ x.length ≤ 1000000 ∧ (parB x = dir → (joinB dir []).length ≤ x.length)) :
    Calls Tryd.prog 40 #[.pointer (some ⟨c, o, none⟩), encStr dir] w fun e w' => ∃ (v : Value) (ss : List (List UInt8)), e = .returned v ∧ ss.Perm (outS dir (strKeys D0)) ∧
      w'.ownsRow w.heap.size 9 1 v ss.length ((ss.mergeSort (fun x y => decide (x ≤ y))).map encStr) ∧ (v = .slice none 0 0 ↔ ss = []) ∧ Below w.heap.size w w' := by
  obtain ⟨i0, hi, hz0, hz1, hz2⟩ := info_parts info9
  have hbl := hown.lt
  have hf1 : Fence.wide.fn 37 := trivial
  have hf2 : Fence.wide.fn 38 := trivial
  have hf3 : Fence.wide.fn 64 := trivial
  refine (callsIn_wide (n := 3)).1 ?_
  refine callsIn_of_wp Tryd.func40 rfl trivial ?_ rfl
  simp only [Tryd.ntmps40, List.size_toArray, List.length_cons, List.length_nil, Nat.reduceAdd, Nat.reduceSub, Array.replicate_succ, Array.replicate_zero, List.push_toArray, List.append_toArray, List.nil_append, List.cons_append]
  gi_wp2_with (first
    | (gi_at_range; refine wpListIn_range_own _ rfl _ 29 rfl 9 32 law9 Tryd.underlying29 _ b nn _ rfl hown ?_; intro w0 hrg0 hg0 hs0)
    | gi_in)
  go_frame
  gi_loopw [5, 6] (fun v _ wr => ∃ (left : Lit → Bool) (cnt : Nat) (ks : List (List UInt8)), wr.ranges Tryd.prog 9 R b w.heap.size nn D0 left cnt ∧ ks.length + cnt ≤ Maps.size D0 ∧
      wr.ownsRow w.heap.size 9 1 v (outS dir ks).length ((outS dir ks).map encStr) ∧ (v = .slice none 0 0 ↔ outS dir ks = []) ∧ Collected D0 left ks ∧ Below w.heap.size w wr)
    (fun _ _ wr => wr.rangeLeft b w.heap.size)
  case atStart =>
    exact ⟨_, _, [], hrg0, by simp, ⟨rfl, .inl ⟨rfl, rfl⟩⟩, by simp [outS], Collected.start D0, (Below.refl _ _).grown hg0 (Nat.le_refl _) (fun j hj => by cases hj)⟩
  case round =>
    obtain ⟨left, cnt, ks, hrg, hcs, hrow, hnn, hC, hnx⟩ := hrel
    have hol := outS_le dir ks
    gi_wp2_with (first
      | (gi_at_next; refine wpListIn_next_ranges _ rfl _ rfl 9 law9 R encStr id (fun key kl hk => by obtain ⟨x, hx, _⟩ := Maps.keyOf_str Tryd.underlying9 hk; exact ⟨x, hx⟩) (fun v _ _ => ⟨v, rfl⟩) b w.heap.size nn _ _ _ rfl hrg ?_ ?_)
      | gi_in)
    · intro hc0 hl0
      have hperm : (outS dir ks).Perm (outS dir (strKeys D0)) := ((hC.perm hown law9 Tryd.underlying9 hl0).filter _).map _
      rcases hrow.2 with ⟨rfl, hz⟩ | ⟨g, cap, cur, rfl, hbase, hb, h1, h2, h3, h4⟩
      · have ho : outS dir ks = [] := List.eq_nil_of_length_eq_zero hz
        gi_wp2_with (gi_at_call 64; refine (sort184_nil _ none 0 _).mono ?_; rintro e w' ⟨rfl, rfl⟩)
        go_ret
        exact ⟨_, outS dir ks, rfl, hperm, by rw [ho]; exact ⟨by simp, .inl ⟨rfl, rfl⟩⟩, ⟨fun _ => ho, fun _ => rfl⟩, hnx⟩
      · have hH : Holds encStr wr g 0 (outS dir ks).toArray := holds_of_block hb (by simpa using h4)
        have hgl : g < wr.heap.size := (Array.getElem?_eq_some_iff.1 hb).1
        gi_wp2_with (gi_at_call 64; refine (sort184 _ g 0 cap (outS dir ks) wr hH hgl (by omega)).mono ?_; rintro e w' ⟨rfl, nn, os, rfl⟩)
        go_ret
        exact ⟨_, outS dir ks, rfl, hperm, ownsRow_sorted (by simp) hbase hb h1 h2 h3, hnn, hnx.grown (grownBy_sorted _) hnx.size (fun j hj => by cases hj; exact hbase)⟩
    · intro x y kl yd yp w2 cnt2 hkey hlk hv hat hrg2 hlt hg2 hs2 hen
      obtain ⟨x', ex, rfl, _⟩ := Maps.keyOf_str Tryd.underlying9 hkey
      obtain rfl : x = x' := encStr_inj ex
      obtain ⟨hx0, hx1, hx2⟩ := hkeys x (mem_keys hown (has_true_of_atKey hat))
      have hrow2 := hrow.kept hg2 (Or.inr (row_ne_iter hrow hrg).symm)
      have hnx2 : Below w.heap.size w w2 := hnx.grown hg2 hnx.size (fun j hj => by cases hj; exact Nat.le_refl _)
      clear hs2
      by_cases hp : parB x = dir
      · have hx3 := hx2 hp
        gi_wp2_with (first
          | (gi_at_call 37; refine (callsIn_wide.2 (parent91 x _ hx0 (by omega))).mono ?_; rintro e w' ⟨rfl, hw⟩; rw [hw]; clear hw w')
          | (gi_at_call 38; refine (callsIn_wide.2 (join92 dir [] _ hdir (by simp))).mono ?_; rintro e w' ⟨rfl, hw⟩; rw [hw]; clear hw w')
          | (gi_at_builtin; refine wpListIn_append_own _ rfl _ _ 56 rfl w.heap.size 9 i0 (.string ⟨#[]⟩) 1 16 Tryd.underlying56 hi hz0 hz1 hz2 rfl (by decide) _ _ _ rfl (hrow2.alloc _) ⟨w2.heap.size, 0, none⟩ 1 1 [.string (({ data := x.toArray } : ByteArray).extract (joinB dir []).length x.length)] rfl rfl (cell_one_new _ _ _) (by simp [Value.oneCell']) (by simp only [maxLen]; omega) (by omega) (by have := hnx2.size; simp; omega) ?_; intro v' w3 hown' hg3 hnil3; go_frame)
          | gi_in)
        have hsn : outS dir (ks ++ [x]) = outS dir ks ++ [x.drop (joinB dir []).length] := by rw [outS_snoc, if_pos hp]
        have hrg3 := (hrg2.alloc _).kept hg3 (row_ne_low hrow2 hbl) (row_ne_iter hrow2 hrg2)
        go_roundw
        case rel =>
          refine ⟨_, cnt2, ks ++ [x], hrg3, by simp; omega, ?_, ?_, hC.step hlk hat, ?_⟩
          · rw [hsn]
            rw [drop_str x _ hx3] at hown'
            simpa [encStr] using hown'
          · rw [hsn]
            simp only [List.append_eq_nil_iff, List.cons_ne_self, and_false, iff_false]
            exact fun hv' => by have := (hnil3.1 hv').2; omega
          · exact (hnx2.alloc hnx2.size _).grown hg3 (by have := hnx2.size; simp; omega) (fun j hj => (hrow2.lt j hj).1)
        case measure => rw [hrg3.left_eq, hrg.left_eq]; exact hlt
      · have hpb : (parB x == dir) = false := by simpa using hp
        gi_wp2_with (first
          | (gi_at_call 37; refine (callsIn_wide.2 (parent91 x _ hx0 (by omega))).mono ?_; rintro e w' ⟨rfl, hw⟩; rw [hw]; clear hw w')
          | (gi_at_call 38; refine (callsIn_wide.2 (join92 dir [] _ hdir (by simp))).mono ?_; rintro e w' ⟨rfl, hw⟩; rw [hw]; clear hw w')
          | gi_in)
        have hsn : outS dir (ks ++ [x]) = outS dir ks := by rw [outS_snoc, if_neg hp, List.append_nil]
        go_roundw
        case rel => exact ⟨_, cnt2, ks ++ [x], hrg2, by simp; omega, by rw [hsn]; exact hrow2, by rw [hsn]; exact hnn, hC.step hlk hat, hnx2⟩
        case measure => rw [hrg2.left_eq, hrg.left_eq]; exact hlt
end Go.Proofs.YtjoakhpdajlhiaaDoor.V2
namespace Go.Proofs.YtjoakhpdajlhiaaDoor.V2
open Go
open Go.RowKit Go.Maps Go.Sort
theorem HR.adopt {ρ : Ren} {σ : AH} {W W' : World} (h : HR ρ σ W) (hb : Below W.heap.size W W') {g s : Nat} (hg : W.heap.size ≤ g) (hg' : g < W'.heap.size) (hs : σ.next < 1000000) {o : AObj} (hO : OR ρ (0, s) o W'.heap[g]?) :
    ∃ ρ', ρ' σ.next = some (g, (0, s)) ∧ Sub ρ ρ' ∧ HR ρ' (σ.new o) W' ∧ Stp σ.next ρ σ W ρ' (σ.new o) W' := by
  have hn : ρ σ.next = none := by
    cases hc : ρ σ.next with
    | none => rfl
    | some c => have := (h.dom _ c.1 c.2 hc).1; omega
  have hget : ∀ m, (σ.new o).get m = if m = σ.next then some o else σ.get m := fun m => T.get_put _ _ _ _ (by omega)
  have hsub : Sub ρ (fun b => if b = σ.next then some (g, (0, s)) else ρ b) := fun b x hc => by
    have hne : b ≠ σ.next := by rintro rfl; rw [hn] at hc; cases hc
    simp only [if_neg hne]; exact hc
  refine ⟨fun b => if b = σ.next then some (g, (0, s)) else ρ b, if_pos rfl, hsub, ⟨by show σ.next + 1 ≤ _; omega, fun m hm => by have hm : σ.next + 1 ≤ m := hm; rw [hget, if_neg (by omega)]; exact h.none_ m (by omega), fun b c d hc => ?_, fun b b' c d d' h1 h2 hne => ?_⟩, ⟨fun b hb => if_neg (by omega), fun b c d hc => ?_, by show σ.next ≤ σ.next + 1; omega, fun b ob hb _ ho' _ => ?_, fun c hc _ => hb.block c hc, hb.tape, hb.os, hb.output, hb.size, fun b c d ob hb' _ hc ho' _ => ⟨by rw [hget, if_neg (by omega)]; exact ho', hb.block c hc⟩⟩⟩
  · rw [hget]
    by_cases hbn : b = σ.next
    · subst hbn
      simp only [if_true, Option.some.injEq, Prod.mk.injEq] at hc
      obtain ⟨rfl, rfl⟩ := hc
      exact ⟨Nat.lt_succ_self _, hg', o, if_pos rfl, hO.mono hsub⟩
    · simp only [if_neg hbn] at hc ⊢
      obtain ⟨h1, h2, o2, h3, h4⟩ := h.dom b c d hc
      refine ⟨by show b < σ.next + 1; omega, Nat.lt_of_lt_of_le h2 hb.size, o2, h3, ?_⟩
      rw [hb.block c h2]
      exact h4.mono hsub
  · by_cases e1 : b = σ.next
    · subst e1
      simp only [if_true, Option.some.injEq, Prod.mk.injEq] at h1
      obtain ⟨rfl, rfl⟩ := h1
      simp only [if_neg (Ne.symm hne)] at h2
      have := (h.dom _ _ _ h2).2.1
      omega
    · by_cases e2 : b' = σ.next
      · subst e2
        simp only [if_true, Option.some.injEq, Prod.mk.injEq] at h2
        obtain ⟨rfl, rfl⟩ := h2
        simp only [if_neg e1] at h1
        have := (h.dom _ _ _ h1).2.1
        omega
      · simp only [if_neg e1, if_neg e2] at h1 h2
        exact (h.inj b b' c d d' h1 h2 hne).congr (by rw [hget, if_neg e1]) (by rw [hget, if_neg e2])
  · by_cases hbn : b = σ.next
    · subst hbn
      simp only [if_true, Option.some.injEq, Prod.mk.injEq] at hc
      exact .inr (by omega)
    · simp only [if_neg hbn] at hc
      exact .inl ⟨b, d, hc⟩
  · rw [hget, if_neg (by omega)]; exact ho'
theorem vrs_strs (ρ : Ren) : ∀ ss : List (List UInt8), VRs ρ (ss.map AV.str) (ss.map encStr)
  | [] => rfl
  | s :: ss => ⟨_, _, rfl, rfl, vrs_strs ρ ss⟩
theorem adopt_strs {ρ : Ren} {σ : AH} {W W' : World} (h : HR ρ σ W) (hb : Below W.heap.size W W') (hs : σ.next < 1000000) {u : Value} {ss : List (List UInt8)} (hne : ss ≠ []) (ho : W'.ownsRow W.heap.size 9 1 u ss.length (ss.map encStr)) :
    ∃ ρ', HR ρ' (σ.new (.cells (ss.map AV.str) 9 .more)) W' ∧ Stp σ.next ρ σ W ρ' (σ.new (.cells (ss.map AV.str) 9 .more)) W' ∧ VR ρ' (.sl σ.next 0 ss.length ss.length false 1) u := by
  have hl : 0 < ss.length := List.length_pos_iff.2 hne
  obtain ⟨_, ⟨_, h0⟩ | ⟨g, cap, cur, rfl, hg, hrow, hn, hcap, hsz, htk⟩⟩ := ho
  · omega
  have hg' : g < W'.heap.size := (Array.getElem?_eq_some_iff.1 hrow).1
  have hO : OR ρ (0, cap) (.cells (ss.map AV.str) 9 .more) W'.heap[g]? := by
    rw [hrow]
    refine OR.mk' rfl ⟨cur, 9, (0, 0), rfl, fun _ => ⟨rfl, .inl rfl, by rw [hsz, Nat.mul_one]⟩, by show (ss.map AV.str).length + 0 ≤ _; rw [List.length_map]; omega, by show (ss.map AV.str).length + 0 ≤ cap; rw [List.length_map]; omega, fun i a hi => ?_⟩
    have hil : i < ss.length := by have := (List.getElem?_eq_some_iff.1 hi).1; rwa [List.length_map] at this
    obtain ⟨v, h1, h2⟩ := (vrs_strs ρ ss).at i a hi
    refine ⟨v, ?_, h2⟩
    have e1 : (cur.toList.take (ss.length * 1))[i]? = (ss.map encStr)[i]? := by rw [htk]
    rw [List.getElem?_take, if_pos (by omega), Array.getElem?_toList] at e1
    rw [Nat.add_zero, e1]; exact h1
  obtain ⟨ρ', k1, _, k3, k4⟩ := h.adopt hb hg hg' hs hO
  refine ⟨ρ', k3, k4, ?_⟩
  unfold VR
  exact .inl ⟨g, (0, cap), 0, cap, k1, rfl, fun _ => rfl, Nat.le_refl _, hn, fun h => (by cases h), by show 0 + cap * 1 ≤ cap; omega⟩
def keysS : List (AV × AV) → Option (List (List UInt8))
  | [] => some []
  | p :: l => match p.1 with
    | .str s => match keysS l with
      | some m => some (s :: m)
      | none => none
    | _ => none
theorem keysS_spec {ρ : Ren} : ∀ {l : List (AV × AV)} {ks : List (List UInt8)} {es : List MapEntry}, keysS l = some ks → MapL ρ l es → es.map (·.key) = ks.map encStr
  | [], ks, es, h, hm => by cases h; rw [show es = [] from hm]; rfl
  | p :: l, ks, es, h, hm => by
    obtain ⟨e, m, rfl, h1, h2, h3⟩ := hm
    obtain ⟨a, b⟩ := p
    cases a <;> first | (cases h; done) | skip
    rename_i s
    simp only [keysS] at h
    cases hk : keysS l <;> rw [hk] at h
    · cases h
    rename_i m'
    cases h
    have h1 : e.key = .string ⟨s.toArray⟩ := h1
    rw [List.map_cons, List.map_cons, keysS_spec hk h3, h1]
def insS (x : List UInt8) : List (List UInt8) → List (List UInt8)
  | [] => [x]
  | y :: l => bif decide (y < x) then y :: insS x l else x :: y :: l
def sortS : List (List UInt8) → List (List UInt8)
  | [] => []
  | x :: l => insS x (sortS l)
def risS : List (List UInt8) → Bool
  | [] => true
  | x :: l => (match l with | [] => true | y :: _ => decide (x < y)) && risS l
theorem insS_perm (x : List UInt8) : ∀ l, (insS x l).Perm (x :: l)
  | [] => .refl _
  | y :: l => by
    unfold insS
    cases decide (y < x)
    · exact .refl _
    · exact (List.Perm.cons y (insS_perm x l)).trans (.swap _ _ _)
theorem sortS_perm : ∀ l, (sortS l).Perm l
  | [] => .refl _
  | x :: l => (insS_perm x _).trans (.cons x (sortS_perm l))
theorem risS_lt : ∀ {l : List (List UInt8)}, risS l = true → l.Pairwise (· < ·)
  | [], _ => .nil
  | [x], _ => List.pairwise_singleton _ _
  | x :: y :: l, h => by
    unfold risS at h
    rw [Bool.and_eq_true, decide_eq_true_eq] at h
    have ih := risS_lt h.2
    refine List.pairwise_cons.2 ⟨fun z hz => ?_, ih⟩
    rcases List.mem_cons.1 hz with rfl | hz
    · exact h.1
    · exact List.lt_trans h.1 (List.rel_of_pairwise_cons ih hz)
theorem risS_sort {l : List (List UInt8)} (h : risS (sortS l) = true) : l.Nodup ∧ l.mergeSort (fun x y => decide (x ≤ y)) = sortS l := by
  have hp := risS_lt h
  refine ⟨(sortS_perm l).nodup_iff.1 (hp.imp fun {a b} hab e => by subst e; exact List.lt_irrefl _ hab), ?_⟩
  have hle : (sortS l).Pairwise (fun a b => leB a b = true) := hp.imp fun {a b} hab => by simp only [leB, decide_eq_true_eq]; exact List.le_of_lt hab
  show l.mergeSort leB = _
  rw [mergeSort_of_perm (sortS_perm l).symm]
  exact List.mergeSort_of_pairwise hle
def shS (l : List (List UInt8)) : Bool := l.all fun s => Nat.ble s.length 1000000
def RNil (_ : Value) : Option (DataW Nat × List MemPlace) := some (.nil, [])
theorem own_of {ρ : Ren} {l : List (AV × AV)} {c : Nat} {W : World} (hM : MR ρ l W.heap[c]?) {ks : List (List UInt8)} (hk : keysS l = some ks) (hn : ks.Nodup) (hs : shS ks = true) (hl : ks.length ≤ 1000000) :
    ∃ D : DataW Nat, W.ownsMap Tryd.prog 9 RNil c ks.length D ∧ (strKeys D).Perm ks ∧ Maps.size D = ks.length := by
  obtain ⟨es, ck, hb, h1, h2, h3⟩ := hM
  have hkey := keysS_spec hk h1
  have hlen : es.size = ks.length := by have := congrArg List.length hkey; simpa using this
  have hrd : ∀ x ∈ es.toList, ∃ s, s ∈ ks ∧ x.key = encStr s ∧ Go.WideElems.rd Tryd.prog 9 RNil x = some (.string s, .nil) := fun x hx => by
    have : x.key ∈ ks.map encStr := by rw [← hkey]; exact List.mem_map_of_mem hx
    obtain ⟨s, hs1, hs2⟩ := List.mem_map.1 this
    refine ⟨s, hs1, hs2.symm, ?_⟩
    have hsl : s.length ≤ 1000000 := by have := List.all_eq_true.1 hs s hs1; rwa [Nat.ble_eq] at this
    have hko : keyOf Tryd.prog 9 (encStr s) = some (.string s) := by
      simp only [keyOf, Tryd.underlying9, mapKey, encStr]
      rw [if_pos (by show s.toArray.size ≤ maxLen; simp [maxLen]; omega)]
    exact Go.WideElems.rd_mk (yv := (.nil, [])) (by rw [← hs2]; exact hko) rfl
  have F : Go.WideElems.Fit Tryd.prog 9 RNil es ck := ⟨by rw [hlen]; simp only [maxLen]; omega, ⟨h3, Go.Proofs.YtjoakhpdajlhiaaDoor.V2.nodup_born h2, by rw [hkey]; exact List.pairwise_map.2 (hn.imp fun {a b} hab e => hab (encStr_inj e))⟩, fun x hx => by obtain ⟨s, _, _, h⟩ := hrd x hx; exact ⟨_, h⟩⟩
  refine ⟨_, ⟨es, ck, hb, F, Nat.le_of_eq hlen, rfl⟩, ?_, ?_⟩
  · show (((es.toList.map (Go.WideElems.rg Tryd.prog 9 RNil)).foldr DataW.insert []).map fun p => strOf p.1).Perm ks
    refine ((WideShapes.sorted_perm _).map _).trans ?_
    have : (es.toList.map (Go.WideElems.rg Tryd.prog 9 RNil)).map (fun p => strOf p.1) = ks := by
      have e2 : ∀ x ∈ es.toList, encStr (strOf (Go.WideElems.rg Tryd.prog 9 RNil x).1) = x.key := fun x hx => by
        obtain ⟨s, _, h5, h6⟩ := hrd x hx
        rw [Go.WideElems.rg_of h6, h5]; rfl
      have e3 : ((es.toList.map (Go.WideElems.rg Tryd.prog 9 RNil)).map (fun p => strOf p.1)).map encStr = ks.map encStr := by
        rw [List.map_map, List.map_map, ← hkey]
        exact List.map_congr_left e2
      exact (List.map_inj_right fun a b h => encStr_inj h).1 e3
    rw [this]
  · show ((es.toList.map (Go.WideElems.rg Tryd.prog 9 RNil)).foldr DataW.insert []).length = _
    rw [(WideShapes.sorted_perm _).length_eq, List.length_map, Array.length_toList, hlen]
noncomputable def srtO (σ : AH) (ks : List (List UInt8)) : Out := match sortS ks with
  | [] => (true, .nilsl, σ)
  | x :: l => (risS (x :: l) && shS ks && Nat.ble ks.length 1000000 && Nat.blt σ.next 1000000, .sl σ.next 0 (x :: l).length (x :: l).length false 1, σ.new (.cells ((x :: l).map AV.str) 9 .more))
noncomputable def srtM (σ : AH) (m : Nat) : Out := match σ.get m with
  | some (.map l) => match keysS l with
    | some ks => srtO σ ks
    | none => bad σ
  | _ => bad σ
noncomputable def srtA (args : List AV) (σ : AH) : Out := match args with
  | [.fn (.func q) [] [.ptr b o]] => bif Nat.beq q 65 || Nat.beq q 65 then match (σ.get b).bind fun ob => ob.at o with
    | some (.map m) => srtM σ m
    | _ => bad σ else bad σ
  | _ => bad σ
noncomputable def srF (g : FuncId → List AV → AH → Out) (f : FuncId) (args : List AV) (σ : AH) : Out := bif Nat.beq f 29 then srtA args σ else g f args σ
theorem srtO_ok {ρ : Ren} {σ : AH} {W : World} (hr : HR ρ σ W) {l : List (AV × AV)} {c : Nat} (hM : MR ρ l W.heap[c]?) {ks : List (List UInt8)} (hk : keysS l = some ks) (h : (srtO σ ks).1 = true) {v : Value}
    (hC : ∀ (D0 : DataW Nat), W.ownsMap Tryd.prog 9 RNil c ks.length D0 → Maps.size D0 ≤ maxLen → Maps.size D0 * 16 ≤ 140737488355328 → Calls Tryd.prog 29 #[v] W fun e w' => ∃ (v : Value) (ss : List (List UInt8)), e = .returned v ∧ ss.Perm (strKeys D0) ∧
      w'.ownsRow W.heap.size 9 1 v ss.length ((ss.mergeSort (fun x y => decide (x ≤ y))).map encStr) ∧ (v = .slice none 0 0 ↔ ss = []) ∧ Below W.heap.size W w') :
    Calls Tryd.prog 29 #[v] W fun e W' => ∃ v ρ', e = .returned v ∧ HR ρ' (srtO σ ks).2.2 W' ∧ Stp σ.next ρ σ W ρ' (srtO σ ks).2.2 W' ∧ VR ρ' (srtO σ ks).2.1 v := by
  unfold srtO at h ⊢
  have hso := sortS_perm ks
  cases hS : sortS ks with
  | nil =>
    rw [hS] at hso
    have hks : ks = [] := by simpa using hso.symm.length_eq
    subst hks
    obtain ⟨D, h1, h2, h3⟩ := own_of hM hk List.nodup_nil rfl (by simp)
    refine (hC D h1 (by rw [h3]; simp) (by rw [h3]; simp)).mono ?_
    rintro e W' ⟨v, ss, rfl, g1, g2, g3, g4⟩
    have : ss = [] := by have := (g1.trans h2).length_eq; simpa using this
    refine ⟨v, ρ, rfl, hr.below g4, .below (Nat.le_refl _) g4, ?_⟩
    unfold VR
    exact g3.2 this
  | cons x t =>
    rw [hS] at h
    simp only [Bool.and_eq_true, Nat.ble_eq, Nat.blt_eq] at h
    obtain ⟨⟨⟨h1, h2⟩, h3⟩, h4⟩ := h
    rw [← hS] at h1
    obtain ⟨i1, i2⟩ := risS_sort h1
    obtain ⟨D, j1, j2, j3⟩ := own_of hM hk i1 h2 h3
    refine (hC D j1 (by rw [j3]; simp only [maxLen]; omega) (by rw [j3]; omega)).mono ?_
    rintro e W' ⟨v, ss, rfl, g1, g2, g3, g4⟩
    have e1 : ss.mergeSort (fun x y => decide (x ≤ y)) = x :: t := by
      rw [← hS, ← i2]
      exact mergeSort_of_perm (g1.trans j2)
    have e2 : ss.length = (x :: t).length := by rw [← hS, hso.length_eq, (g1.trans j2).length_eq]
    rw [e1, e2] at g2
    obtain ⟨ρ', k1, k2, k3⟩ := adopt_strs hr g4 h4 (by simp) g2
    exact ⟨v, ρ', rfl, k1, k2, k3⟩
theorem srF_ok {Y : List Yl} {g : FuncId → List AV → AH → Out} (hg : FnOk Tryd.prog 3 g Y) : FnOk Tryd.prog 3 (srF g) Y := by
  intro f args σ h
  unfold srF at h ⊢
  cases hf : Nat.beq f 29
  case false => rw [hf] at h; rw [cond_false] at h ⊢; exact hg f args σ h
  rw [hf] at h
  simp only [cond_true] at h ⊢
  have e := Nat.eq_of_beq_eq_true hf
  subst e
  refine ⟨⟨_, Tryd.func29, by kernel_rfl, by kernel_rfl⟩, fun ρ W vs _ hG hr hvs => ?_⟩
  unfold srtA at h ⊢
  split at h
  case h_2 => cases h
  rename_i q b o
  cases hq : Nat.beq q 65 || Nat.beq q 65 <;> rw [hq] at h
  · cases h
  rw [cond_true] at h ⊢
  split at h
  case h_2 => cases h
  rename_i m hm
  obtain ⟨ob, hob, hat⟩ := Option.bind_eq_some_iff.1 hm
  obtain ⟨v, mm, rfl, hv, hmm⟩ := hvs
  have hmm : mm = [] := hmm
  subst hmm
  unfold VR at hv
  obtain ⟨us, ys, rfl, hus, hys⟩ := hv
  have hus : us = [] := hus
  subst hus
  obtain ⟨y, yy, rfl, hy, hyy⟩ := hys
  have hyy : yy = [] := hyy
  subst hyy
  unfold VR at hy
  obtain ⟨c, d, hc, rfl⟩ := hy
  obtain ⟨_, hcl, ob', ho', hO⟩ := hr.dom b c d hc
  rw [hob] at ho'
  cases ho'
  have hcy : ob.cellsy = true := by cases ob <;> first | rfl | (exact absurd hat (by simp [AObj.at]))
  have hpos : 0 < ob.len := by
    cases ob <;> simp only [AObj.at] at hat
    · cases hat
    · exact Nat.lt_of_le_of_lt (Nat.zero_le _) (List.getElem?_eq_some_iff.1 hat).1
    · obtain ⟨_, h5, _⟩ := Option.map_eq_some_iff.1 hat; exact Nat.lt_of_le_of_lt (Nat.zero_le _) (List.getElem?_eq_some_iff.1 h5).1
    · cases hat
    · cases hat
  obtain ⟨cs, el, fr, hx, _, _, _, hall⟩ := (hO.1 hcy).2 fun _ => hpos
  obtain ⟨u, hu, huv⟩ := hall o _ hat
  unfold VR at huv
  obtain ⟨c2, d2, hc2, rfl⟩ := huv
  have hcell : W.cell? ⟨c, o + d.1, none⟩ = some (.map (some c2)) := by simp [World.cell?, hx, hu]
  obtain ⟨_, _, ob2, ho2, hO2⟩ := hr.dom m c2 d2 hc2
  unfold srtM at h ⊢
  split at h
  case h_2 => cases h
  rename_i l hl
  rw [hl] at ho2
  cases ho2
  cases hk : keysS l <;> simp only [hk] at h ⊢
  · cases h
  rename_i ks
  rw [Bool.or_eq_true] at hq
  rcases hq with hq | hq
  · have e := Nat.eq_of_beq_eq_true hq
    subst e
    exact srtO_ok hr (hO2.2 l rfl) hk h fun D0 h1 h2 h3 => sorted250 c (o + d.1) c2 ks.length D0 W hcl hcell h1 h2 h3
  · have e := Nat.eq_of_beq_eq_true hq
    subst e
    exact srtO_ok hr (hO2.2 l rfl) hk h fun D0 h1 h2 h3 => sorted250 c (o + d.1) c2 ks.length D0 W hcl hcell h1 h2 h3
end Go.Proofs.YtjoakhpdajlhiaaDoor.V2
namespace Go.Proofs.YtjoakhpdajlhiaaDoor.V2
open Go
noncomputable section
def ltK (n : Nat) : Nat → Nat → Nat → FR → FR → FR := Nat.rec (motive := fun _ => Nat → Nat → Nat → FR → FR → FR) (fun m _ _ y s => Nat.rec s (fun _ _ => y) m)
  (fun _ ih m a b y s => Nat.rec (motive := fun _ => FR) s (fun m _ => Bool.rec (Bool.rec s (fN (Nat.div a 256) fun a => fN (Nat.div b 256) fun b => ih m a b y s) (Nat.beq (Nat.mod a 256) (Nat.mod b 256))) y (Nat.blt (Nat.mod a 256) (Nat.mod b 256))) m) n
theorem u8_lt {x y : Nat} : UInt8.ofNat (x % 256) < UInt8.ofNat (y % 256) ↔ x % 256 < y % 256 := by
  rw [UInt8.lt_iff_toNat_lt, UInt8.toNat_ofNat', UInt8.toNat_ofNat']; simp
theorem u8_eq {x y : Nat} : UInt8.ofNat (x % 256) = UInt8.ofNat (y % 256) ↔ x % 256 = y % 256 := by
  rw [← UInt8.toNat_inj, UInt8.toNat_ofNat', UInt8.toNat_ofNat']; simp
theorem ltK_eq : ∀ (n m a b : Nat) (y s : FR), ltK n m a b y s = bif decide (unpN n a < unpN m b) then y else s
  | 0, 0, a, b, y, s => by show s = _; simp [unpN]
  | 0, m + 1, a, b, y, s => by show y = _; simp [unpN]
  | n + 1, 0, a, b, y, s => by show s = _; simp [unpN]
  | n + 1, m + 1, a, b, y, s => by
    show (Bool.rec (Bool.rec s (fN (Nat.div a 256) fun a => fN (Nat.div b 256) fun b => ltK n m a b y s) (Nat.beq (Nat.mod a 256) (Nat.mod b 256))) y (Nat.blt (Nat.mod a 256) (Nat.mod b 256)) : FR) = _
    rw [fN_eq, fN_eq, ltK_eq n m]
    have h : decide (unpN (n + 1) a < unpN (m + 1) b) = (Nat.blt (Nat.mod a 256) (Nat.mod b 256) || (Nat.beq (Nat.mod a 256) (Nat.mod b 256) && decide (unpN n (Nat.div a 256) < unpN m (Nat.div b 256)))) := by
      rw [Bool.eq_iff_iff]
      simp only [unpN, List.cons_lt_cons_iff, decide_eq_true_eq, Bool.or_eq_true, Bool.and_eq_true, Nat.blt_eq, Nat.beq_eq, u8_lt, u8_eq]
      rfl
    rw [h]
    cases Nat.blt (Nat.mod a 256) (Nat.mod b 256)
    · cases Nat.beq (Nat.mod a 256) (Nat.mod b 256) <;> rfl
    · rfl
def ltC (x y : Nat) (t s : FR) : FR := ltK (bl x) (bl y) x y t s
theorem ltC_eq (x y : Nat) (t s : FR) : ltC x y t s = bif decide (unp x < unp y) then t else s := ltK_eq _ _ _ _ _ _
def insK (x : Nat) (l : List Nat) (k : List Nat → FR) : FR := List.rec (motive := fun _ => (List Nat → FR) → FR) (fun k => k [x]) (fun y m ih k => ltC y x (ih fun r => k (y :: r)) (k (x :: y :: m))) l k
def insN (x : Nat) : List Nat → List Nat
  | [] => [x]
  | y :: l => bif decide (unp y < unp x) then y :: insN x l else x :: y :: l
theorem insK_eq (x : Nat) : ∀ (l : List Nat) (k : List Nat → FR), insK x l k = k (insN x l)
  | [], _ => rfl
  | y :: l, k => by
    show ltC y x (insK x l fun r => k (y :: r)) (k (x :: y :: l)) = _
    rw [ltC_eq, insK_eq x l, insN]
    cases decide (unp y < unp x) <;> rfl
theorem insN_unp (x : Nat) : ∀ l : List Nat, (insN x l).map unp = insS (unp x) (l.map unp)
  | [] => rfl
  | y :: l => by
    rw [List.map_cons, insN, insS, ← insN_unp x l]
    cases decide (unp y < unp x) <;> rfl
def srtK (l : List Nat) (k : List Nat → FR) : FR := List.rec (motive := fun _ => (List Nat → FR) → FR) (fun k => k []) (fun x _ ih k => ih fun r => insK x r k) l k
theorem srtK_eq : ∀ (l : List Nat) (k : List Nat → FR), ∃ r, r.map unp = sortS (l.map unp) ∧ srtK l k = k r
  | [], _ => ⟨[], rfl, rfl⟩
  | x :: l, k => by
    obtain ⟨r, h1, h2⟩ := srtK_eq l fun r => insK x r k
    refine ⟨insN x r, ?_, ?_⟩
    · rw [insN_unp, h1]; rfl
    · show srtK l (fun r => insK x r k) = _
      rw [h2, insK_eq]
def risK (l : List Nat) (s : FR) : FR := List.rec (motive := fun _ => FR → FR) (fun s => s) (fun x m ih s => List.rec (motive := fun _ => FR) (ih s) (fun y _ _ => ltC x y (ih s) .bad) m) l s
theorem risK_cases : ∀ {l : List Nat} {s : FR}, risK l s ≠ .bad → risS (l.map unp) = true ∧ risK l s = s
  | [], _, _ => ⟨rfl, rfl⟩
  | [x], s, _ => ⟨rfl, rfl⟩
  | x :: y :: l, s, h => by
    have h : ltC x y (risK (y :: l) s) .bad ≠ .bad := h
    show _ ∧ ltC x y (risK (y :: l) s) .bad = s
    rw [ltC_eq] at h ⊢
    cases hd : decide (unp x < unp y) <;> rw [hd] at h
    · exact absurd rfl h
    · obtain ⟨h1, h2⟩ := risK_cases (l := y :: l) (s := s) h
      refine ⟨?_, h2⟩
      rw [List.map_cons, List.map_cons]
      unfold risS
      rw [List.map_cons] at h1
      rw [h1]
      simp [hd]
def shK (l : List Nat) (s : FR) : FR := List.rec (motive := fun _ => FR) s (fun x _ ih => gB (Nat.ble (bl x) 1000000) ih) l
theorem shK_cases : ∀ {l : List Nat} {s : FR}, shK l s ≠ .bad → shS (l.map unp) = true ∧ shK l s = s
  | [], _, _ => ⟨rfl, rfl⟩
  | x :: l, s, h => by
    have h : gB (Nat.ble (bl x) 1000000) (shK l s) ≠ .bad := h
    show _ ∧ gB (Nat.ble (bl x) 1000000) (shK l s) = s
    rw [gB_eq] at h ⊢
    cases hd : Nat.ble (bl x) 1000000 <;> rw [hd] at h
    · exact absurd rfl h
    · obtain ⟨h1, h2⟩ := shK_cases (l := l) (s := s) h
      refine ⟨?_, h2⟩
      unfold shS at h1 ⊢
      rw [List.map_cons, List.all_cons, h1, unp_length, hd]; rfl
def keysK (l : List (FV × FV)) (k : List Nat → FR) : FR := List.rec (motive := fun _ => (List Nat → FR) → FR) (fun k => k []) (fun p _ ih k => Prod.rec (fun x _ => kS (fun c => ih fun r => k (c :: r)) x) p) l k
theorem keysK_cases : ∀ {l : List (FV × FV)} {k : List Nat → FR}, keysK l k ≠ .bad → ∃ cs, keysS (αP l) = some (cs.map unp) ∧ keysK l k = k cs
  | [], _, _ => ⟨[], rfl, rfl⟩
  | (x, y) :: l, k, h => by
    have h : kS (fun c => keysK l fun r => k (c :: r)) x ≠ .bad := h
    show ∃ cs, _ ∧ kS (fun c => keysK l fun r => k (c :: r)) x = k cs
    obtain ⟨c, rfl, h1⟩ := kS_cases h
    rw [h1] at h ⊢
    obtain ⟨cs, h2, h3⟩ := keysK_cases h
    refine ⟨c :: cs, ?_, h3⟩
    simp only [αP, keysS, αV, h2, List.map_cons]
def txK (l : List Nat) (k : List FV → FR) : FR := List.rec (motive := fun _ => (List FV → FR) → FR) (fun k => k []) (fun c _ ih k => ih fun r => k (.s c :: r)) l k
theorem txK_eq : ∀ (l : List Nat) (k : List FV → FR), ∃ r, αL r = (l.map unp).map AV.str ∧ txK l k = k r
  | [], _ => ⟨[], rfl, rfl⟩
  | c :: l, k => by
    obtain ⟨r, h1, h2⟩ := txK_eq l fun r => k (.s c :: r)
    exact ⟨.s c :: r, by rw [αL, h1]; rfl, h2⟩
def lnK (l : List Nat) (k : Nat → FR) : FR := List.rec (motive := fun _ => (Nat → FR) → FR) (fun k => k 0) (fun _ _ ih k => ih fun n => fN (Nat.succ n) k) l k
theorem lnK_eq : ∀ (l : List Nat) (k : Nat → FR), lnK l k = k l.length
  | [], _ => rfl
  | c :: l, k => by
    show lnK l (fun n => fN (Nat.succ n) k) = _
    rw [lnK_eq l, fN_eq]; rfl
def srtQ (ks : List Nat) (σ : FH) (k : KV) : FR := shK ks (srtK ks fun r => List.rec (motive := fun _ => FR) (k (.o .sl) σ) (fun _ _ _ => risK r (lnK r fun n => gB (Nat.ble n 1000000) (txK r fun l => nM σ (.cells l 9 .more) fun b σ => k (.sl b 0 n n false 1) σ))) r)
theorem srtQ_sm (ks : List Nat) (σ : FH) (k : KV) : Sm (srtQ ks σ k) k (srtO (αH σ) (ks.map unp)) := by
  intro h
  unfold srtQ at h ⊢
  obtain ⟨h1, h2⟩ := shK_cases h
  rw [h2] at h ⊢
  obtain ⟨r, h3, h4⟩ := srtK_eq ks (fun r => List.rec (motive := fun _ => FR) (k (.o .sl) σ) (fun _ _ _ => risK r (lnK r fun n => gB (Nat.ble n 1000000) (txK r fun l => nM σ (.cells l 9 .more) fun b σ => k (.sl b 0 n n false 1) σ))) r)
  rw [h4] at h ⊢
  cases r with
  | nil =>
    refine ⟨.o .sl, σ, ?_, rfl⟩
    unfold srtO
    rw [← h3]; rfl
  | cons x t =>
    have h : risK (x :: t) (lnK (x :: t) fun n => gB (Nat.ble n 1000000) (txK (x :: t) fun l => nM σ (.cells l 9 .more) fun b σ => k (.sl b 0 n n false 1) σ)) ≠ .bad := h
    show ∃ v σ', _ ∧ risK (x :: t) (lnK (x :: t) fun n => gB (Nat.ble n 1000000) (txK (x :: t) fun l => nM σ (.cells l 9 .more) fun b σ => k (.sl b 0 n n false 1) σ)) = k v σ'
    obtain ⟨g1, g2⟩ := risK_cases h
    rw [g2] at h ⊢
    rw [lnK_eq, gB_eq] at h ⊢
    cases hb : Nat.ble (x :: t).length 1000000 <;> rw [hb] at h
    · exact absurd rfl h
    rw [cond_true] at h ⊢
    obtain ⟨l, g3, g4⟩ := txK_eq (x :: t) fun l => nM σ (.cells l 9 .more) fun b σ => k (.sl b 0 (x :: t).length (x :: t).length false 1) σ
    rw [g4] at h ⊢
    obtain ⟨g5, σ', g6, g7⟩ := nM_cases h
    refine ⟨.sl σ.next 0 (x :: t).length (x :: t).length false 1, σ', ?_, g7⟩
    have hlen : (ks.map unp).length = (x :: t).length := by
      have := (sortS_perm (ks.map unp)).length_eq
      rw [← h3, List.length_map] at this; exact this.symm
    unfold srtO
    rw [← h3, List.map_cons]
    simp only
    rw [List.map_cons] at g1 g3
    rw [g1, h1, hlen, hb, g5, g6]
    simp only [αO, αV, g3, List.length_cons, List.length_map]
    rfl
def kFn (f : Fn → List FV → List FV → FR) (v : FV) : FR := FV.rec (motive_1 := fun _ => FR) (motive_2 := fun _ => FR) (fun _ _ => .bad) (fun _ _ => .bad) (fun _ => .bad) (fun _ => .bad) (fun _ _ => .bad) (fun _ _ _ _ _ _ => .bad) (fun _ => .bad) (fun _ => .bad) (fun g a b _ _ => f g a b) (fun _ _ _ => .bad) (fun _ _ => .bad) (fun _ => .bad) (fun _ _ => .bad) (fun _ _ => .bad) (fun _ => .bad) .bad (fun _ _ _ _ => .bad) v
theorem kFn_cases {f : Fn → List FV → List FV → FR} {v : FV} (h : kFn f v ≠ .bad) : ∃ g a b, v = .fn g a b ∧ kFn f v = f g a b := by
  cases v <;> first | exact ⟨_, _, _, rfl, rfl⟩ | exact absurd rfl h
def kFu (f : Nat → FR) (g : Fn) : FR := Fn.rec (motive := fun _ => FR) f (fun _ => .bad) (fun _ _ => .bad) (fun _ _ _ _ => .bad) (fun _ => .bad) g
theorem kFu_cases {f : Nat → FR} {g : Fn} (h : kFu f g ≠ .bad) : ∃ n, g = .func n ∧ kFu f g = f n := by
  cases g <;> first | exact ⟨_, rfl, rfl⟩ | exact absurd rfl h
def kNi (l : List FV) (s : FR) : FR := List.rec (motive := fun _ => FR) s (fun _ _ _ => .bad) l
theorem kNi_cases {l : List FV} {s : FR} (h : kNi l s ≠ .bad) : l = [] ∧ kNi l s = s := by
  cases l
  · exact ⟨rfl, rfl⟩
  · exact absurd rfl h
def kCe (f : List FV → FR) (ob : FObj) : FR := FObj.rec (motive := fun _ => FR) .bad (fun l _ _ => f l) (fun _ _ _ => .bad) (fun _ _ _ _ => .bad) (fun _ => .bad) .bad ob
theorem kCe_cases {f : List FV → FR} {ob : FObj} (h : kCe f ob ≠ .bad) : ∃ l e t, ob = .cells l e t ∧ kCe f ob = f l := by
  cases ob <;> first | exact ⟨_, _, _, rfl, rfl⟩ | exact absurd rfl h
def srMQ (σ : FH) (m : Nat) (k : KV) : FR := gM σ m (kMp fun l => keysK l fun cs => srtQ cs σ k)
def srQ (l : List FV) (σ : FH) (k : KV) : FR := k1L l (kFn fun g a c => kFu (fun q => gB (Nat.beq q 65 || Nat.beq q 65) (kNi a (k1L c (kP fun b o => gM σ b (kCe fun l => nthK l o (kM fun m => srMQ σ m k)))))) g)
theorem srMQ_sm (σ : FH) (m : Nat) (k : KV) : Sm (srMQ σ m k) k (srtM (αH σ) m) := by
  intro h
  unfold srMQ at h ⊢
  obtain ⟨ob, _, h3, h4⟩ := gM_cases h
  rw [h4] at h ⊢
  obtain ⟨l, rfl, h5⟩ := kMp_cases h
  rw [h5] at h ⊢
  obtain ⟨cs, h6, h7⟩ := keysK_cases h
  rw [h7] at h ⊢
  obtain ⟨v, σ', h8, h9⟩ := srtQ_sm cs σ k h
  refine ⟨v, σ', ?_, h9⟩
  unfold srtM
  rw [h3]
  simp only [αO, h6]
  exact h8
theorem srQ_sm (l : List FV) (σ : FH) (k : KV) : Sm (srQ l σ k) k (srtA (αL l) (αH σ)) := by
  intro h
  unfold srQ at h ⊢
  obtain ⟨x, rfl, h1⟩ := k1L_cases h
  rw [h1] at h ⊢
  obtain ⟨g, a, c, rfl, h2⟩ := kFn_cases h
  rw [h2] at h ⊢
  obtain ⟨q, rfl, h3⟩ := kFu_cases h
  rw [h3] at h ⊢
  rw [gB_eq] at h ⊢
  cases hq : Nat.beq q 65 || Nat.beq q 65 <;> rw [hq] at h
  · exact absurd rfl h
  rw [cond_true] at h ⊢
  obtain ⟨rfl, h4⟩ := kNi_cases h
  rw [h4] at h ⊢
  obtain ⟨y, rfl, h5⟩ := k1L_cases h
  rw [h5] at h ⊢
  obtain ⟨b, o, rfl, h6⟩ := kP_cases h
  rw [h6] at h ⊢
  obtain ⟨ob, _, h7, h8⟩ := gM_cases h
  rw [h8] at h ⊢
  obtain ⟨l, e, t, rfl, h9⟩ := kCe_cases h
  rw [h9] at h ⊢
  rw [nthK_eq] at h ⊢
  cases hl : l[o]? <;> rw [hl] at h
  · exact absurd rfl h
  rename_i v
  have h : kM (fun m => srMQ σ m k) v ≠ .bad := h
  show ∃ w σ', _ ∧ kM (fun m => srMQ σ m k) v = k w σ'
  obtain ⟨m, rfl, h10⟩ := kM_cases h
  rw [h10] at h ⊢
  obtain ⟨v, σ', h11, h12⟩ := srMQ_sm σ m k h
  refine ⟨v, σ', ?_, h12⟩
  rw [← h11]
  simp only [αL, αV, srtA, hq, h7, Option.bind_some, αO, AObj.at, αL_map, List.getElem?_map, hl, Option.map_some, cond_true]
end
end Go.Proofs.YtjoakhpdajlhiaaDoor.V2
namespace Go.Proofs.YtjoakhpdajlhiaaDoor.V2
open Go
open Go.RowKit Go.Maps Go.Sort
theorem srtO_of {ρ : Ren} {σ : AH} {W : World} (hr : HR ρ σ W) {os : List (List UInt8)} (h : (srtO σ os).1 = true) {f : FuncId} {vs : Array Value}
    (hC : Calls Tryd.prog f vs W fun e w' => ∃ (v : Value) (ss : List (List UInt8)), e = .returned v ∧ ss.Perm os ∧
      w'.ownsRow W.heap.size 9 1 v ss.length ((ss.mergeSort (fun x y => decide (x ≤ y))).map encStr) ∧ (v = .slice none 0 0 ↔ ss = []) ∧ Below W.heap.size W w') :
    Calls Tryd.prog f vs W fun e W' => ∃ v ρ', e = .returned v ∧ HR ρ' (srtO σ os).2.2 W' ∧ Stp σ.next ρ σ W ρ' (srtO σ os).2.2 W' ∧ VR ρ' (srtO σ os).2.1 v := by
  unfold srtO at h ⊢
  have hso := sortS_perm os
  cases hS : sortS os with
  | nil =>
    rw [hS] at hso
    refine hC.mono ?_
    rintro e W' ⟨v, ss, rfl, g1, g2, g3, g4⟩
    have : ss = [] := by have := (g1.trans hso.symm).length_eq; simpa using this
    refine ⟨v, ρ, rfl, hr.below g4, .below (Nat.le_refl _) g4, ?_⟩
    unfold VR
    exact g3.2 this
  | cons x t =>
    rw [hS] at h
    simp only [Bool.and_eq_true, Nat.ble_eq, Nat.blt_eq] at h
    obtain ⟨⟨⟨h1, h2⟩, h3⟩, h4⟩ := h
    rw [← hS] at h1
    obtain ⟨i1, i2⟩ := risS_sort h1
    refine hC.mono ?_
    rintro e W' ⟨v, ss, rfl, g1, g2, g3, g4⟩
    have e1 : ss.mergeSort (fun x y => decide (x ≤ y)) = x :: t := by
      rw [← hS, ← i2]
      exact mergeSort_of_perm g1
    have e2 : ss.length = (x :: t).length := by rw [← hS, hso.length_eq, g1.length_eq]
    rw [e1, e2] at g2
    obtain ⟨ρ', k1, k2, k3⟩ := adopt_strs hr g4 h4 (by simp) g2
    exact ⟨v, ρ', rfl, k1, k2, k3⟩
def wiS (dir : List UInt8) (ks : List (List UInt8)) : Bool := Nat.ble dir.length 1000000 && ks.all fun x => !x.isEmpty && (!decide (parB x = dir) || Nat.ble (joinB dir []).length x.length)
noncomputable def wiO (σ : AH) (dir : List UInt8) (ks : List (List UInt8)) : Out := bif wiS dir ks && (risS (sortS ks) && shS ks && Nat.ble ks.length 1000000) then srtO σ (outS dir ks) else bad σ
noncomputable def wiM (σ : AH) (dir : List UInt8) (m : Nat) : Out := match σ.get m with
  | some (.map l) => match keysS l with
    | some ks => wiO σ dir ks
    | none => bad σ
  | _ => bad σ
noncomputable def wiA (args : List AV) (σ : AH) : Out := match args with
  | [.ptr b o, .str dir] => match (σ.get b).bind fun ob => ob.at o with
    | some (.map m) => wiM σ dir m
    | _ => bad σ
  | _ => bad σ
noncomputable def wnF (g : FuncId → List AV → AH → Out) (f : FuncId) (args : List AV) (σ : AH) : Out := bif Nat.beq f 40 then wiA args σ else g f args σ
theorem wnF_ok {Y : List Yl} {g : FuncId → List AV → AH → Out} (hg : FnOk Tryd.prog 3 g Y) : FnOk Tryd.prog 3 (wnF g) Y := by
  intro f args σ h
  unfold wnF at h ⊢
  cases hf : Nat.beq f 40
  case false => rw [hf] at h; rw [cond_false] at h ⊢; exact hg f args σ h
  rw [hf] at h
  simp only [cond_true] at h ⊢
  have e := Nat.eq_of_beq_eq_true hf
  subst e
  refine ⟨⟨_, Tryd.func40, by kernel_rfl, by kernel_rfl⟩, fun ρ W vs _ hG hr hvs => ?_⟩
  unfold wiA at h ⊢
  split at h
  case h_2 => cases h
  rename_i b o dir
  split at h
  case h_2 => cases h
  rename_i m hm
  obtain ⟨ob, hob, hat⟩ := Option.bind_eq_some_iff.1 hm
  obtain ⟨v, mm, rfl, hv, u, mmm, rfl, hu, hmm⟩ := hvs
  have hmm : mmm = [] := hmm
  subst hmm
  unfold VR at hv hu
  subst hu
  obtain ⟨c, d, hc, rfl⟩ := hv
  obtain ⟨_, hcl, ob', ho', hO⟩ := hr.dom b c d hc
  rw [hob] at ho'
  cases ho'
  have hcy : ob.cellsy = true := by cases ob <;> first | rfl | (exact absurd hat (by simp [AObj.at]))
  have hpos : 0 < ob.len := by
    cases ob <;> simp only [AObj.at] at hat
    · cases hat
    · exact Nat.lt_of_le_of_lt (Nat.zero_le _) (List.getElem?_eq_some_iff.1 hat).1
    · obtain ⟨_, h5, _⟩ := Option.map_eq_some_iff.1 hat; exact Nat.lt_of_le_of_lt (Nat.zero_le _) (List.getElem?_eq_some_iff.1 h5).1
    · cases hat
    · cases hat
  obtain ⟨cs, el, fr, hx, _, _, _, hall⟩ := (hO.1 hcy).2 fun _ => hpos
  obtain ⟨u, hu, huv⟩ := hall o _ hat
  unfold VR at huv
  obtain ⟨c2, d2, hc2, rfl⟩ := huv
  have hcell : W.cell? ⟨c, o + d.1, none⟩ = some (.map (some c2)) := by simp [World.cell?, hx, hu]
  obtain ⟨_, _, ob2, ho2, hO2⟩ := hr.dom m c2 d2 hc2
  unfold wiM at h ⊢
  split at h
  case h_2 => cases h
  rename_i l hl
  rw [hl] at ho2
  cases ho2
  cases hk : keysS l <;> simp only [hk] at h ⊢
  · cases h
  rename_i ks
  unfold wiO at h ⊢
  cases hb : wiS dir ks && (risS (sortS ks) && shS ks && Nat.ble ks.length 1000000) <;> rw [hb] at h
  · cases h
  rw [cond_true] at h ⊢
  simp only [Bool.and_eq_true, Nat.ble_eq] at hb
  obtain ⟨hw, ⟨h1, h2⟩, h3⟩ := hb
  obtain ⟨i1, _⟩ := risS_sort h1
  obtain ⟨D, j1, j2, j3⟩ := own_of (hO2.2 l rfl) hk i1 h2 h3
  unfold wiS at hw
  rw [Bool.and_eq_true, Nat.ble_eq] at hw
  refine srtO_of hr h ((within94 c (o + d.1) c2 ks.length D dir W hcl hcell j1 (by rw [j3]; exact h3) hw.1 fun x hx => ?_).mono ?_)
  · have hx := j2.subset hx
    have a1 := List.all_eq_true.1 hw.2 x hx
    have a2 := List.all_eq_true.1 h2 x hx
    rw [Nat.ble_eq] at a2
    rw [Bool.and_eq_true, Bool.or_eq_true, Nat.ble_eq] at a1
    refine ⟨fun e => (by rw [e] at a1; exact absurd a1.1 (by simp)), a2, fun e => ?_⟩
    rcases a1.2 with h | h
    · rw [decide_eq_true e] at h; cases h
    · exact h
  · rintro e W' ⟨v, ss, rfl, g1, g2, g3, g4⟩
    exact ⟨v, ss, rfl, g1.trans ((j2.filter _).map _), g2, g3, g4⟩
noncomputable section
def pkK (l : List (List UInt8)) (k : List Nat → FR) : FR := List.rec (motive := fun _ => (List Nat → FR) → FR) (fun k => k []) (fun x _ ih k => fN (pack x) fun c => ih fun r => k (c :: r)) l k
theorem pkK_eq : ∀ (l : List (List UInt8)) (k : List Nat → FR), pkK l k = k (l.map pack)
  | [], _ => rfl
  | x :: l, k => by
    show (fN (pack x) fun c => pkK l fun r => k (c :: r)) = _
    rw [fN_eq, pkK_eq l]; rfl
theorem unp_packs (l : List (List UInt8)) : (l.map pack).map unp = l := by
  rw [List.map_map]
  conv => rhs; rw [← List.map_id l]
  exact List.map_congr_left fun x _ => unp_pack x
def wiOQ (cs : List Nat) (d : Nat) (σ : FH) (k : KV) : FR := gB (wiS (unp d) (cs.map unp)) (shK cs (gB (Nat.ble cs.length 1000000) (srtK cs fun r => risK r (pkK (outS (unp d) (cs.map unp)) fun os => srtQ os σ k))))
def wiMQ (σ : FH) (d m : Nat) (k : KV) : FR := gM σ m (kMp fun l => keysK l fun cs => wiOQ cs d σ k)
def wiQ (l : List FV) (σ : FH) (k : KV) : FR := k2L l fun x y => kP (fun b o => kS (fun d => gM σ b (kCe fun l => nthK l o (kM fun m => wiMQ σ d m k))) y) x
theorem wiOQ_sm (cs : List Nat) (d : Nat) (σ : FH) (k : KV) : Sm (wiOQ cs d σ k) k (wiO (αH σ) (unp d) (cs.map unp)) := by
  intro h
  unfold wiOQ at h ⊢
  rw [gB_eq] at h ⊢
  cases hw : wiS (unp d) (cs.map unp) <;> rw [hw] at h
  · exact absurd rfl h
  rw [cond_true] at h ⊢
  obtain ⟨h1, h2⟩ := shK_cases h
  rw [h2] at h ⊢
  rw [gB_eq] at h ⊢
  cases hl : Nat.ble cs.length 1000000 <;> rw [hl] at h
  · exact absurd rfl h
  rw [cond_true] at h ⊢
  obtain ⟨r, h3, h4⟩ := srtK_eq cs fun r => risK r (pkK (outS (unp d) (cs.map unp)) fun os => srtQ os σ k)
  rw [h4] at h ⊢
  obtain ⟨h5, h6⟩ := risK_cases h
  rw [h6] at h ⊢
  rw [pkK_eq] at h ⊢
  obtain ⟨v, σ', h7, h8⟩ := srtQ_sm _ σ k h
  refine ⟨v, σ', ?_, h8⟩
  unfold wiO
  rw [hw, ← h3, h5, h1, List.length_map, hl]
  rw [unp_packs] at h7
  exact h7
theorem wiQ_sm (l : List FV) (σ : FH) (k : KV) : Sm (wiQ l σ k) k (wiA (αL l) (αH σ)) := by
  intro h
  unfold wiQ at h ⊢
  obtain ⟨x, y, rfl, h1⟩ := k2L_cases h
  rw [h1] at h ⊢
  obtain ⟨b, o, rfl, h6⟩ := kP_cases h
  rw [h6] at h ⊢
  obtain ⟨d, rfl, h5⟩ := kS_cases h
  rw [h5] at h ⊢
  obtain ⟨ob, _, h7, h8⟩ := gM_cases h
  rw [h8] at h ⊢
  obtain ⟨l, e, t, rfl, h9⟩ := kCe_cases h
  rw [h9] at h ⊢
  rw [nthK_eq] at h ⊢
  cases hl : l[o]? <;> rw [hl] at h
  · exact absurd rfl h
  rename_i v
  have h : kM (fun m => wiMQ σ d m k) v ≠ .bad := h
  show ∃ w σ', _ ∧ kM (fun m => wiMQ σ d m k) v = k w σ'
  obtain ⟨m, rfl, h10⟩ := kM_cases h
  rw [h10] at h ⊢
  unfold wiMQ at h ⊢
  obtain ⟨ob2, _, g3, g4⟩ := gM_cases h
  rw [g4] at h ⊢
  obtain ⟨l2, rfl, g5⟩ := kMp_cases h
  rw [g5] at h ⊢
  obtain ⟨cs, g6, g7⟩ := keysK_cases h
  rw [g7] at h ⊢
  obtain ⟨v, σ', g8, g9⟩ := wiOQ_sm cs d σ k h
  refine ⟨v, σ', ?_, g9⟩
  rw [← g8]
  simp only [αL, αV, wiA, h7, Option.bind_some, αO, AObj.at, αL_map, List.getElem?_map, hl, Option.map_some, wiM, g3, g6]
end
end Go.Proofs.YtjoakhpdajlhiaaDoor.V2
namespace Go.Proofs.YtjoakhpdajlhiaaDoor.V2.S
open Go
set_option maxRecDepth 100000
set_option maxHeartbeats 4000000
set_option linter.unusedVariables false
attribute [local irreducible] fN fO nM gM pM Phi.fn mp bl bpart bapp top1 pack
theorem ltC_pack (a b : Bs) (t s : FR) : ltC (pack a) (pack b) t s = if a < b then t else s := by
  rw [ltC_eq, unp_pack, unp_pack]
  by_cases h : a < b
  · rw [if_pos h, decide_eq_true h]; rfl
  · rw [if_neg h, decide_eq_false h]; rfl
theorem insK_pack (x : Bs) : ∀ (l : List Bs) (k : List Nat → FR), insK (pack x) (l.map pack) k = k ((insB x l).map pack)
  | [], k => rfl
  | y :: l, k => by
    show ltC (pack y) (pack x) (insK (pack x) (l.map pack) fun r => k (pack y :: r)) (k (pack x :: pack y :: l.map pack)) = _
    rw [ltC_pack, insK_pack x l, insB]
    by_cases h : y < x
    · rw [if_pos h, if_pos h]; rfl
    · rw [if_neg h, if_neg h]; rfl
theorem srtK_pack : ∀ (l : List Bs) (k : List Nat → FR), srtK (l.map pack) k = k ((sortB l).map pack)
  | [], k => rfl
  | x :: l, k => by
    show srtK (l.map pack) (fun r => insK (pack x) r k) = _
    rw [srtK_pack l, insK_pack]; rfl
theorem shK_pack : ∀ (l : List Bs) (s : FR), (∀ x ∈ l, x.length ≤ 1000000) → shK (l.map pack) s = s
  | [], s, _ => rfl
  | x :: l, s, h => by
    show gB (Nat.ble (bl (pack x)) 1000000) (shK (l.map pack) s) = s
    rw [bl_pack, ble_t (h x List.mem_cons_self), shK_pack l s fun y hy => h y (List.mem_cons_of_mem _ hy)]; rfl
theorem txK_pack : ∀ (l : List Bs) (k : List FV → FR), txK (l.map pack) k = k (vsL l)
  | [], k => rfl
  | x :: l, k => by
    show txK (l.map pack) (fun r => k (.s (pack x) :: r)) = _
    rw [txK_pack l]; rfl
theorem keysK_pack : ∀ (L : List En) (k : List Nat → FR), keysK (L.map fun a => (.s (pack (En.path a)), entV a)) k = k ((L.map En.path).map pack)
  | [], k => rfl
  | e :: L, k => by
    show keysK (L.map fun a => (.s (pack (En.path a)), entV a)) (fun r => k (pack e.path :: r)) = _
    rw [keysK_pack L]; rfl
theorem lt_of_not {a b : Bs} (h : ¬ b < a) (hne : a ≠ b) : a < b := by
  rcases Std.lt_trichotomy a b with h1 | h1 | h1
  · exact h1
  · exact absurd h1 hne
  · exact absurd h1 h
theorem insB_mem {x z : Bs} : ∀ {l : List Bs}, z ∈ insB x l → z = x ∨ z ∈ l
  | [], h => .inl (by simpa [insB] using h)
  | y :: l, h => by
    unfold insB at h
    split at h
    · rcases List.mem_cons.1 h with h | h
      · exact .inr (h ▸ List.mem_cons_self)
      · rcases insB_mem h with h | h
        · exact .inl h
        · exact .inr (List.mem_cons_of_mem _ h)
    · rcases List.mem_cons.1 h with h | h
      · exact .inl h
      · exact .inr h
theorem insB_pw {x : Bs} : ∀ {l : List Bs}, l.Pairwise (· < ·) → x ∉ l → (insB x l).Pairwise (· < ·)
  | [], _, _ => by simp [insB]
  | y :: l, h, hx => by
    have h1 := List.pairwise_cons.1 h
    unfold insB
    split
    · rename_i hlt
      refine List.pairwise_cons.2 ⟨fun z hz => ?_, insB_pw h1.2 fun hm => hx (List.mem_cons_of_mem _ hm)⟩
      rcases insB_mem hz with rfl | hz
      · exact hlt
      · exact h1.1 z hz
    · rename_i hlt
      have hxy : x < y := lt_of_not hlt fun e => hx (e ▸ List.mem_cons_self)
      refine List.pairwise_cons.2 ⟨fun z hz => ?_, h⟩
      rcases List.mem_cons.1 hz with rfl | hz
      · exact hxy
      · exact List.lt_trans hxy (h1.1 z hz)
theorem sortB_mem {z : Bs} : ∀ {l : List Bs}, z ∈ sortB l → z ∈ l
  | [], h => h
  | x :: l, h => by
    rcases insB_mem (show z ∈ insB x (sortB l) from h) with h | h
    · exact h ▸ List.mem_cons_self
    · exact List.mem_cons_of_mem _ (sortB_mem h)
theorem sortB_pw : ∀ {l : List Bs}, l.Nodup → (sortB l).Pairwise (· < ·)
  | [], _ => List.Pairwise.nil
  | x :: l, h => by
    have h1 := List.nodup_cons.1 h
    exact insB_pw (sortB_pw h1.2) fun hm => h1.1 (sortB_mem hm)
theorem risK_pack : ∀ {l : List Bs} (s : FR), l.Pairwise (· < ·) → risK (l.map pack) s = s
  | [], s, _ => rfl
  | [x], s, _ => rfl
  | x :: y :: l, s, h => by
    have h1 := List.pairwise_cons.1 h
    show ltC (pack x) (pack y) (risK ((y :: l).map pack) s) .bad = s
    rw [ltC_pack, if_pos (h1.1 y List.mem_cons_self), risK_pack s h1.2]
end Go.Proofs.YtjoakhpdajlhiaaDoor.V2.S
namespace Go.Proofs.YtjoakhpdajlhiaaDoor.V2.S
open Go
set_option maxRecDepth 100000
set_option maxHeartbeats 4000000
set_option linter.unusedVariables false
attribute [local irreducible] fN fO nM gM pM Phi.fn Phi.yl Phi.up mp bl bpart bapp top1 pack
theorem srtQ_pack {L : List En} {n : Nat} {m : T FObj} {k : KV} (hnd : (L.map En.path).Nodup) (hl : L.length ≤ 1000) (hp : ∀ e ∈ L, e.path.length ≤ 1000000) (hn : n < 1000000) :
    srtQ ((L.map En.path).map pack) ⟨n, m⟩ k = if L = [] then k (.o .sl) ⟨n, m⟩ else k (.sl n 0 L.length L.length false 1) ⟨n + 1, mp m n (.cells (vsL (sortB (L.map En.path))) 9 .more)⟩ := by
  have hlen := sortB_len L
  show shK ((L.map En.path).map pack) (srtK ((L.map En.path).map pack) fun r => List.rec (motive := fun _ => FR) (k (.o .sl) ⟨n, m⟩) (fun _ _ _ => risK r (lnK r fun q => gB (Nat.ble q 1000000) (txK r fun l => nM ⟨n, m⟩ (.cells l 9 .more) fun b σ => k (.sl b 0 q q false 1) σ))) r) = _
  rw [shK_pack _ _ fun x hx => by obtain ⟨e, he, rfl⟩ := List.mem_map.1 hx; exact hp e he, srtK_pack]
  cases hs : sortB (L.map En.path) with
  | nil =>
    have : L = [] := by rw [hs] at hlen; exact List.length_eq_zero_iff.1 hlen.symm
    rw [if_pos this]; rfl
  | cons x r =>
    have : L ≠ [] := fun h => by subst h; rw [hs] at hlen; cases hlen
    rw [if_neg this]
    show risK ((x :: r).map pack) (lnK ((x :: r).map pack) fun q => gB (Nat.ble q 1000000) (txK ((x :: r).map pack) fun l => nM ⟨n, m⟩ (.cells l 9 .more) fun b σ => k (.sl b 0 q q false 1) σ)) = _
    rw [risK_pack _ (hs ▸ sortB_pw hnd), lnK_eq, List.length_map, ← hs, hlen, ble_t (by omega), txK_pack]
    show (nM ⟨n, m⟩ (.cells (vsL (sortB (L.map En.path))) 9 .more) fun b σ => k (.sl b 0 L.length L.length false 1) σ) = _
    rw [nM_mp hn]
theorem keys_s {O : Oz} (hO : O = zO) (Φ Φ1 : Phi) (H30 : Phi.fn Φ 30 = p30 O Φ1) (H29 : Phi.fn Φ 29 = srQ) : KeysS Φ := fun {mb L n m} ha hb hnd hl hp k P hn hf => by
  have key : ∀ (b : Nat) (n' : Nat) (m' : T FObj) (e : TypeId) (tl : Tl), n ≤ n' → n' ≤ n + 1 → Kp n m m' → Am m' b (.cells [.m mb] e tl) → Am m' mb (.map (L.map fun a => (.s (pack (En.path a)), entV a))) → srQ [.fn (.func 65) [] [.p b 0]] ⟨n', m'⟩ k = P := fun b n' m' e tl h1 h2 hk hb2 hm2 => by
    show (gM ⟨n', m'⟩ b (kCe fun l => nthK l 0 (kM fun q => srMQ ⟨n', m'⟩ q k))) = P
    rw [gM_am hb2]
    show gM ⟨n', m'⟩ mb (kMp fun l => keysK l fun cs => srtQ cs ⟨n', m'⟩ k) = P
    rw [gM_am hm2]
    show keysK (L.map fun a => (.s (pack (En.path a)), entV a)) (fun cs => srtQ cs ⟨n', m'⟩ k) = P
    rw [keysK_pack, srtQ_pack hnd hl hp (by omega)]
    split
    · rename_i h0; exact hf _ _ _ h1 (by omega) hk (fun _ => rfl) (fun h => absurd h0 h)
    · rename_i h0; exact hf _ _ _ (by omega) (by omega) (by repeat (first | assumption | exact Kp.refl _ _ | refine Kp.mp ?_ (by omega) (by omega) | refine Kp.trans ?_ (by assumption) (by omega))) (fun h => absurd h h0) (fun _ => ⟨n', rfl, h1, by omega, am_same (by omega)⟩)
  rw [H30]
  repeat' ((conv => lhs; whnf); first | ((with_reducible refine fa0 hO ?_)) | ((with_reducible refine faN hO ?_)) | ((with_reducible refine atLd ?_); first | refine ldC hO (by repeat (first | assumption | exact am_same (by omega) | apply am_ne (by omega) (by omega) | apply kp_am (by assumption) (by omega) | apply Kq.am (by assumption) (by omega) (by simp only [List.mem_cons, List.not_mem_nil, or_false, forall_eq_or_imp, forall_eq, false_implies, implies_true, ne_eq, and_true]; omega))) (by rfl) ?_ | refine ldB hO (by repeat (first | assumption | exact am_same (by omega) | apply am_ne (by omega) (by omega) | apply kp_am (by assumption) (by omega) | apply Kq.am (by assumption) (by omega) (by simp only [List.mem_cons, List.not_mem_nil, or_false, forall_eq_or_imp, forall_eq, false_implies, implies_true, ne_eq, and_true]; omega))) (by omega) ?_ | refine ldI hO (by repeat (first | assumption | exact am_same (by omega) | apply am_ne (by omega) (by omega) | apply kp_am (by assumption) (by omega) | apply Kq.am (by assumption) (by omega) (by simp only [List.mem_cons, List.not_mem_nil, or_false, forall_eq_or_imp, forall_eq, false_implies, implies_true, ne_eq, and_true]; omega))) (by rfl) ?_ | refine uld hO ?_) | (((with_reducible refine lsS hO ?_); try simp only [List.length_cons, List.length_nil, Nat.zero_add])) | ((with_reducible refine lvS hO ?_)) | ((with_reducible refine lvN hO ?_)) | ((with_reducible refine ltT hO (by omega) ?_)) | ((with_reducible refine ltF hO (by omega) ?_)) | ((with_reducible refine ltB hO (fun h => ?_) (fun h => ?_))) | ((with_reducible refine leT hO (by omega) ?_)) | ((with_reducible refine leF hO (by omega) ?_)) | ((with_reducible refine leB hO (fun h => ?_) (fun h => ?_))) | ((with_reducible refine gtT hO (by omega) ?_)) | ((with_reducible refine gtF hO (by omega) ?_)) | ((with_reducible refine gtB hO (fun h => ?_) (fun h => ?_))) | ((with_reducible refine geT hO (by omega) ?_)) | ((with_reducible refine geF hO (by omega) ?_)) | ((with_reducible refine geB hO (fun h => ?_) (fun h => ?_))) | ((with_reducible refine eqT hO (by omega) ?_)) | ((with_reducible refine eqF hO (by omega) ?_)) | ((with_reducible refine eqB hO (fun h => ?_) (fun h => ?_))) | ((with_reducible refine neT hO (by omega) ?_)) | ((with_reducible refine neF hO (by omega) ?_)) | ((with_reducible refine neB hO (fun h => ?_) (fun h => ?_))) | ((with_reducible refine eqST hO (by first | rfl | assumption) ?_)) | ((with_reducible refine eqSF hO (by first | assumption | decide) ?_)) | ((with_reducible refine eqSB hO (fun h => ?_) (fun h => ?_))) | ((with_reducible refine neSF hO (by first | rfl | assumption) ?_)) | ((with_reducible refine neST hO (by first | assumption | decide) ?_)) | ((with_reducible refine neSB hO (fun h => ?_) (fun h => ?_))) | ((with_reducible refine adI hO (by omega) ?_)) | ((with_reducible refine adS hO (by first | omega | (simp only [List.length_cons, List.length_nil, List.length_append]; omega)) ?_)) | ((with_reducible refine sbI hO (by omega) (by omega) ?_)) | ((with_reducible refine sbZ hO (by omega) (by omega) ?_)) | ((with_reducible refine rmI hO (by omega) ?_)) | ((with_reducible refine quI hO (by omega) (by omega) ?_)) | ((with_reducible refine mtI hO (by omega) ?_)) | ((with_reducible refine cvI hO (by omega) ?_)) | ((with_reducible refine cvB hO (by omega) ?_)) | ((with_reducible refine mnI hO ?_)) | ((with_reducible refine mxI hO ?_)) | ((with_reducible refine ix01 hO (by omega) ?_)) | ((with_reducible refine ix0 hO (by omega) ?_)) | ((with_reducible refine ix1 hO (by omega) ?_)) | ((with_reducible refine ixN hO (by omega) ?_)) | ((with_reducible refine txS hO (by first | omega | decide) ?_)) | ((with_reducible refine ssH hO (by omega) ?_)) | ((with_reducible refine ssL hO (by omega) ?_)) | ((with_reducible refine ssB hO (by omega) (by omega) ?_)) | ((with_reducible refine svH hO (by omega) ?_)) | ((with_reducible refine svL hO (by omega) ?_)) | ((with_reducible refine svB hO (by omega) (by omega) ?_)) | ((with_reducible refine atSt ?_); first | refine stC hO (by repeat (first | assumption | exact am_same (by omega) | apply am_ne (by omega) (by omega) | apply kp_am (by assumption) (by omega) | apply Kq.am (by assumption) (by omega) (by simp only [List.mem_cons, List.not_mem_nil, or_false, forall_eq_or_imp, forall_eq, false_implies, implies_true, ne_eq, and_true]; omega))) (by kernel_rfl) (fun _ _ _ => rfl) (fun _ => rfl) ?_ | refine ust hO ?_) | ((with_reducible refine alO hO (by omega) ?_)) | ((with_reducible refine atBx ?_); first | refine bxS hO (by omega) ?_ | refine bxSl hO (by omega) ?_ | refine bxI hO (by omega) ?_ | refine bxA hO (by omega) (by simp only [αL, αV, AObj.of, allInt, βO, βL, βV, unp_pack]) ?_ | refine ubx hO ?_) | ((with_reducible refine atLk ?_); first | refine lkS hO (by repeat (first | assumption | exact am_same (by omega) | apply am_ne (by omega) (by omega) | apply kp_am (by assumption) (by omega) | apply Kq.am (by assumption) (by omega) (by simp only [List.mem_cons, List.not_mem_nil, or_false, forall_eq_or_imp, forall_eq, false_implies, implies_true, ne_eq, and_true]; omega))) (fun a hla => ?_) (fun hla => ?_) | refine lkS1 hO (by repeat (first | assumption | exact am_same (by omega) | apply am_ne (by omega) (by omega) | apply kp_am (by assumption) (by omega) | apply Kq.am (by assumption) (by omega) (by simp only [List.mem_cons, List.not_mem_nil, or_false, forall_eq_or_imp, forall_eq, false_implies, implies_true, ne_eq, and_true]; omega))) (fun a hla => ?_) (fun hla => ?_)) | ((with_reducible refine atMu ?_); first | refine muS hO (by repeat (first | assumption | exact am_same (by omega) | apply am_ne (by omega) (by omega) | apply kp_am (by assumption) (by omega) | apply Kq.am (by assumption) (by omega) (by simp only [List.mem_cons, List.not_mem_nil, or_false, forall_eq_or_imp, forall_eq, false_implies, implies_true, ne_eq, and_true]; omega))) (by rfl) (by rfl) ?_) | ((with_reducible refine atMd ?_); first | refine mdS hO (by repeat (first | assumption | exact am_same (by omega) | apply am_ne (by omega) (by omega) | apply kp_am (by assumption) (by omega) | apply Kq.am (by assumption) (by omega) (by simp only [List.mem_cons, List.not_mem_nil, or_false, forall_eq_or_imp, forall_eq, false_implies, implies_true, ne_eq, and_true]; omega))) ?_) | ((with_reducible refine sBS hO (by omega) ?_)) | ((with_reducible refine rcE hO (by kernel_rfl) rfl ?_)) | ((with_reducible first | refine umt hO ?_ | refine uqu hO ?_ | refine urm hO ?_ | refine uan hO ?_ | refine uro hO ?_ | refine uxr hO ?_ | refine uhl hO ?_ | refine uhr hO ?_ | refine uad hO ?_ | refine usb hO ?_ | refine ult hO ?_ | refine ule hO ?_ | refine ugt hO ?_ | refine uge hO ?_ | refine ueq hO ?_ | refine une hO ?_ | refine ucv hO ?_ | refine uia hO ?_ | refine usv hO ?_ | refine ubu hO ?_ | refine uap hO ?_ | refine ubs hO ?_ | refine umm hO ?_ | refine upq hO ?_ | refine unq hO ?_ | refine uln hO ?_)) | (with_reducible refine (fN_eq _ _).trans ?_) | (with_reducible refine (nM_mp (by omega)).trans ?_) | (with_reducible refine pM_mp.trans ?_) | (refine gM_amP (by repeat (first | assumption | exact am_same (by omega) | apply am_ne (by omega) (by omega) | apply kp_am (by assumption) (by omega) | apply Kq.am (by assumption) (by omega) (by simp only [List.mem_cons, List.not_mem_nil, or_false, forall_eq_or_imp, forall_eq, false_implies, implies_true, ne_eq, and_true]; omega))) ?_) | (with_reducible refine (fO_eq _ _).trans ?_) | (((with_reducible refine atB ?_); first | refine brecBT (by omega) ?_ | refine brecBF (by omega) ?_ | refine brecB (fun h => ?_) (fun h => ?_) | refine brecT (by assumption) ?_ | refine brecF (by assumption) ?_ | refine brec (fun h => ?_) (fun h => ?_))))
  all_goals (conv => lhs; whnf)
  all_goals first
    | (refine atFn ?_; rw [H29]; exact key _ _ _ _ _ (by omega) (by omega) (by repeat (first | assumption | exact Kp.refl _ _ | refine Kp.mp ?_ (by omega) (by omega) | refine Kp.trans ?_ (by assumption) (by omega))) (by repeat (first | assumption | exact am_same (by omega) | apply am_ne (by omega) (by omega) | apply kp_am (by assumption) (by omega) | apply Kq.am (by assumption) (by omega) (by simp only [List.mem_cons, List.not_mem_nil, or_false, forall_eq_or_imp, forall_eq, false_implies, implies_true, ne_eq, and_true]; omega))) (by repeat (first | assumption | exact am_same (by omega) | apply am_ne (by omega) (by omega) | apply kp_am (by assumption) (by omega) | apply Kq.am (by assumption) (by omega) (by simp only [List.mem_cons, List.not_mem_nil, or_false, forall_eq_or_imp, forall_eq, false_implies, implies_true, ne_eq, and_true]; omega))))
end Go.Proofs.YtjoakhpdajlhiaaDoor.V2.S
namespace Go.Proofs.YtjoakhpdajlhiaaDoor.V2.S
open Go
set_option maxRecDepth 100000
set_option maxHeartbeats 4000000
set_option linter.unusedVariables false
attribute [local irreducible] fN fO nM gM pM Phi.fn mp bl bpart bapp top1 pack
theorem hasSuf_spec {d : Bs} (h : hasSuf d [47] = true) : d = d.take (d.length - 1) ++ [47] := by
  unfold hasSuf at h
  rw [Bool.and_eq_true, decide_eq_true_iff, decide_eq_true_iff] at h
  have h2 : d.drop (d.length - 1) = [47] := h.2
  rw [← h2, List.take_append_drop]
theorem pre_of {x d : Bs} (hx : x.head? = some 47) (hd : parG x = d) : (joinG d []).length ≤ x.length ∧ x.take (joinG d []).length = joinG d [] := by
  have hxl : 1 ≤ x.length := by
    cases x with
    | nil => cases hx
    | cons c l => exact Nat.succ_le_succ (Nat.zero_le _)
  have hle := lastS_le x
  have hdl : d.length ≤ x.length := by rw [← hd]; exact parG_le x
  have hdt : x.take d.length = d := by
    rw [← hd]; unfold parG
    rw [List.length_take, List.take_eq_take_iff]; omega
  cases hs : hasSuf d [47] with
  | true =>
    have hj : joinG d [] = d := by
      unfold joinG trimG
      rw [if_pos hs, List.append_nil]; exact (hasSuf_spec hs).symm
    rw [hj]; exact ⟨hdl, hdt⟩
  | false =>
    have hj : joinG d [] = d ++ [47] := by
      unfold joinG trimG
      rw [if_neg (by rw [hs]; simp), List.append_nil]
    by_cases h0 : lastS x - 1 ≤ 1
    · exfalso
      have : d = [47] := by
        rw [← hd]; unfold parG
        rw [Nat.max_eq_right h0]
        cases x with
        | nil => cases hx
        | cons c l => simp at hx; subst hx; rfl
      rw [this] at hs; exact absurd hs (by decide)
    · have hdl2 : d.length = lastS x - 1 := by
        rw [← hd]; unfold parG
        rw [List.length_take]; omega
      obtain ⟨h1, _⟩ := lastS_pos (l := x) (by omega)
      rw [hj, List.length_append, List.length_singleton]
      refine ⟨by omega, ?_⟩
      rw [List.take_add_one, hdt, hdl2, h1]; rfl
def outG (d : Bs) (l : List Bs) : List Bs := (l.filter fun x => decide (parG x = d)).map fun x => x.drop (joinG d []).length
theorem outG_nd {d : Bs} : ∀ {l : List Bs}, l.Nodup → (∀ x ∈ l, x.head? = some 47) → (outG d l).Nodup := fun {l} hn hh => by
  unfold outG
  refine List.Pairwise.map _ (fun x y h => h) ?_ |> fun h => h
  exact (hn.filter _).imp_of_mem fun {x y} hx hy hne e => hne (by
    obtain ⟨hx1, hx2⟩ := List.mem_filter.1 hx
    obtain ⟨hy1, hy2⟩ := List.mem_filter.1 hy
    have e1 := (pre_of (hh x hx1) (of_decide_eq_true hx2)).2
    have e2 := (pre_of (hh y hy1) (of_decide_eq_true hy2)).2
    rw [← List.take_append_drop (joinG d []).length x, ← List.take_append_drop (joinG d []).length y, e1, e2, e])
end Go.Proofs.YtjoakhpdajlhiaaDoor.V2.S
namespace Go.Proofs.YtjoakhpdajlhiaaDoor.V2.S
open Go
set_option maxRecDepth 100000
set_option maxHeartbeats 4000000
set_option linter.unusedVariables false
attribute [local irreducible] fN fO nM gM pM Phi.fn mp bl bpart bapp top1 pack
theorem insB_len (x : Bs) : ∀ l : List Bs, (insB x l).length = l.length + 1
  | [] => rfl
  | y :: l => by
    unfold insB
    split
    · rw [List.length_cons, insB_len x l]; rfl
    · rfl
theorem sortB_length : ∀ l : List Bs, (sortB l).length = l.length
  | [] => rfl
  | x :: l => by rw [sortB, insB_len, sortB_length l]; rfl
theorem srtQ_bs {L : List Bs} {n : Nat} {m : T FObj} {k : KV} (hnd : L.Nodup) (hl : L.length ≤ 1000) (hp : ∀ e ∈ L, e.length ≤ 1000000) (hn : n < 1000000) :
    srtQ (L.map pack) ⟨n, m⟩ k = if L = [] then k (.o .sl) ⟨n, m⟩ else k (.sl n 0 L.length L.length false 1) ⟨n + 1, mp m n (.cells (vsL (sortB L)) 9 .more)⟩ := by
  have hlen := sortB_length L
  show shK (L.map pack) (srtK (L.map pack) fun r => List.rec (motive := fun _ => FR) (k (.o .sl) ⟨n, m⟩) (fun _ _ _ => risK r (lnK r fun q => gB (Nat.ble q 1000000) (txK r fun l => nM ⟨n, m⟩ (.cells l 9 .more) fun b σ => k (.sl b 0 q q false 1) σ))) r) = _
  rw [shK_pack _ _ hp, srtK_pack]
  cases hs : sortB L with
  | nil =>
    have : L = [] := by rw [hs] at hlen; exact List.length_eq_zero_iff.1 hlen.symm
    rw [if_pos this]; rfl
  | cons x r =>
    have : L ≠ [] := fun h => by subst h; cases hs
    rw [if_neg this]
    show risK ((x :: r).map pack) (lnK ((x :: r).map pack) fun q => gB (Nat.ble q 1000000) (txK ((x :: r).map pack) fun l => nM ⟨n, m⟩ (.cells l 9 .more) fun b σ => k (.sl b 0 q q false 1) σ)) = _
    rw [risK_pack _ (hs ▸ sortB_pw hnd), lnK_eq, List.length_map, ← hs, hlen, ble_t (by omega), txK_pack]
    show (nM ⟨n, m⟩ (.cells (vsL (sortB L)) 9 .more) fun b σ => k (.sl b 0 L.length L.length false 1) σ) = _
    rw [nM_mp hn]
theorem outS_out (d : Bs) (l : List Bs) : outS d l = outG d l := by
  unfold outS outG
  have e1 : (fun x : Bs => decide (parB x = d)) = fun x => decide (parG x = d) := funext fun x => by rw [show parB x = parG x from par_eq x]
  rw [e1, show joinB d [] = joinG d [] from join_eq d []]
theorem out_none {t : Tr} {d : Bs} : outG d (t.L.map En.path) = [] ↔ withinB t d = false := by
  unfold outG withinB
  rw [List.map_eq_nil_iff, List.filter_eq_nil_iff, List.any_eq_false]
  constructor
  · intro h e he; exact h e.path (List.mem_map.2 ⟨e, he, rfl⟩)
  · intro h x hx
    obtain ⟨e, he, rfl⟩ := List.mem_map.1 hx
    exact h e he
theorem wi_s : WithinS wiQ := fun {tb mb t n m} hT htb hmb hW d hdl k P hn hf => by
  show (gM ⟨n, m⟩ tb (kCe fun l => nthK l 0 (kM fun q => wiMQ ⟨n, m⟩ (pack d) q k))) = P
  rw [gM_am hT.s]
  show gM ⟨n, m⟩ mb (kMp fun l => keysK l fun cs => wiOQ cs (pack d) ⟨n, m⟩ k) = P
  rw [gM_am hT.m]
  show keysK (t.L.map fun a => (.s (pack (En.path a)), entV a)) (fun cs => wiOQ cs (pack d) ⟨n, m⟩ k) = P
  rw [keysK_pack]
  have hpl : ∀ x ∈ t.L.map En.path, x.head? = some 47 ∧ x.length ≤ 256 := fun x hx => by
    obtain ⟨e, he, rfl⟩ := List.mem_map.1 hx
    exact ⟨hW.hd e he, (hW.pl e he).1⟩
  have hnd := outG_nd (d := d) hW.nd fun x hx => (hpl x hx).1
  have hol : (outG d (t.L.map En.path)).length ≤ 128 := by
    unfold outG
    rw [List.length_map]
    exact Nat.le_trans (List.length_filter_le _ _) (by rw [List.length_map]; exact hW.len)
  have hop : ∀ x ∈ outG d (t.L.map En.path), x.length ≤ 1000000 := fun x hx => by
    unfold outG at hx
    obtain ⟨y, hy, rfl⟩ := List.mem_map.1 hx
    have := (hpl y (List.mem_filter.1 hy).1).2
    rw [List.length_drop]; omega
  have hu : ((t.L.map En.path).map pack).map unp = t.L.map En.path := unp_packs _
  have hwi : wiS d (t.L.map En.path) = true := by
    unfold wiS
    rw [Bool.and_eq_true]
    refine ⟨ble_t (by omega), List.all_eq_true.2 fun x hx => ?_⟩
    obtain ⟨h1, h2⟩ := hpl x hx
    have hne : x.isEmpty = false := by
      cases x with
      | nil => cases h1
      | cons c l => rfl
    rw [hne]
    show (true && (!decide (parB x = d) || Nat.ble (joinB d []).length x.length)) = true
    rw [Bool.true_and]
    by_cases hp : parB x = d
    · rw [decide_eq_true hp, show joinB d [] = joinG d [] from join_eq d [], ble_t (pre_of h1 ((par_eq x).symm.trans hp)).1]; rfl
    · rw [decide_eq_false hp]; rfl
  have hsp := sortB_pw hW.nd
  show gB (wiS (unp (pack d)) (((t.L.map En.path).map pack).map unp)) (shK ((t.L.map En.path).map pack) (gB (Nat.ble ((t.L.map En.path).map pack).length 1000000) (srtK ((t.L.map En.path).map pack) fun r => risK r (pkK (outS (unp (pack d)) (((t.L.map En.path).map pack).map unp)) fun os => srtQ os ⟨n, m⟩ k)))) = P
  rw [unp_pack, hu, hwi, shK_pack _ _ fun x hx => by have := (hpl x hx).2; omega, List.length_map, List.length_map, ble_t (by have := hW.len; omega), srtK_pack, risK_pack _ hsp, pkK_eq, outS_out, srtQ_bs hnd (by omega) hop (by omega)]
  show (if outG d (t.L.map En.path) = [] then k (.o .sl) ⟨n, m⟩ else _) = P
  split
  · rename_i h0; exact hf _ _ _ (by omega) (by omega) (Kp.refl _ _) (fun _ => rfl) (fun h => by rw [out_none.1 h0] at h; cases h)
  · rename_i h0
    exact hf _ _ _ (by omega) (by omega) (by repeat (first | assumption | exact Kp.refl _ _ | refine Kp.mp ?_ (by omega) (by omega) | refine Kp.trans ?_ (by assumption) (by omega))) (fun h => absurd (out_none.2 h) h0) (fun _ => ⟨n, _, List.length_pos_iff.2 h0, by omega, rfl⟩)
end Go.Proofs.YtjoakhpdajlhiaaDoor.V2.S
