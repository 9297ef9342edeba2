/- Part 9 of the proof: texts of the proof. -/
import Derived.Test.YtcbfjmjphpoimaaGreatDoorQN8
import Derived.Laws.Externs
import Derived.MapKept
namespace Go.Proofs.YtcbfjmjphpoimaaGreatDoor.V2
open Go
open Go.RowKit
theorem eqIn_map {Pr : Program} (w : World) (d : Nat) (t k e : TypeId) (p : Option Nat) (h : Pr.underlying t = some (.map k e)) :
    (Op.equalIn (d + 1) t (.map p) (.map none)).run Pr w = .ok p.isNone w := by
  cases p <;> simp [Op.equalIn, run_underlying h]
theorem eql_map {Pr : Program} (w : World) (t k e : TypeId) (p : Option Nat) (h : Pr.underlying t = some (.map k e)) :
    (binOp .eql t (.map p) (.map none)).run Pr w = .ok (.bool p.isNone) w := by
  simp only [binOp]
  simp [show Op.equal t (.map p) (.map none) = Op.equalIn (9999 + 1) t (.map p) (.map none) from rfl, eqIn_map w 9999 t k e p h]
theorem assert_map {Pr : Program} (w : World) (t xT k e : TypeId) (v : Value) (h : Pr.underlying t = some (.map k e)) : (Instr.typeAssert (.iface t v) xT t false).run Pr w = .ok v w := by
  simp [Instr.typeAssert, run_underlying h, go_sem, Result.andThen]
theorem clone_map {Pr : Program} (w : World) {r : Nat} {es : Array MapEntry} {clock : Nat} (t : TypeId) (hb : w.heap[r]? = some (.map es clock)) :
    (Extern.MapsClone.clone #[.iface t (.map (some r))]).run Pr w = .ok (.iface t (.map (some w.heap.size))) (w.alloc (.map es clock)) := by
  have e : Extern.MapsClone.clone #[.iface t (.map (some r))] = (getObj r >>= fun o => match o with
      | .map entries clock => (newObj (.map entries clock) >>= fun n => pure (.iface t (.map (some n))))
      | _ => stuck "maps.clone: a map expected") := rfl
  rw [e]
  simp [MapKept.run_getObj_map hb, Result.andThen, go_sem]
set_option maxRecDepth 100000 in
set_option maxHeartbeats 2000000 in
theorem clone174 (b : Nat) (es : Array MapEntry) (clock : Nat) (w : World) (hb : w.heap[b]? = some (.map es clock)) :
    Calls Tryz.prog 140 #[.map (some b)] w fun e w' => e = .returned (.map (some w.heap.size)) ∧ w' = w.alloc (.map es clock) := by
  have hq := fun w => eql_map (Pr := Tryz.prog) w 240 _ _ (some b) Tryz.underlying240
  go_enter Tryz.func140, Tryz.ntmps140
  go_wp2
  rw [run_callFunc_extern Tryz.func160 (by kernel_rfl) (by kernel_rfl) (by kernel_rfl) (e := Extern.MapsClone.clone) (by kernel_rfl), clone_map w 240 hb]
  simp only [Result.andThen]
  rw [Oper.upon_value]
  go_wp2
  rw [assert_map _ 240 _ _ _ _ Tryz.underlying240]
  simp only [Result.andThen]
  rw [Oper.upon_value]
  go_wp2
  go_ret
  exact ⟨rfl, rfl⟩
set_option maxRecDepth 100000 in
set_option maxHeartbeats 2000000 in
theorem clone175 (b : Nat) (es : Array MapEntry) (clock : Nat) (w : World) (hb : w.heap[b]? = some (.map es clock)) :
    Calls Tryz.prog 142 #[.map (some b)] w fun e w' => e = .returned (.map (some w.heap.size)) ∧ w' = w.alloc (.map es clock) := by
  have hq := fun w => eql_map (Pr := Tryz.prog) w 243 _ _ (some b) Tryz.underlying243
  go_enter Tryz.func142, Tryz.ntmps142
  go_wp2
  rw [run_callFunc_extern Tryz.func160 (by kernel_rfl) (by kernel_rfl) (by kernel_rfl) (e := Extern.MapsClone.clone) (by kernel_rfl), clone_map w 243 hb]
  simp only [Result.andThen]
  rw [Oper.upon_value]
  go_wp2
  rw [assert_map _ 243 _ _ _ _ Tryz.underlying243]
  simp only [Result.andThen]
  rw [Oper.upon_value]
  go_wp2
  go_ret
  exact ⟨rfl, rfl⟩
noncomputable def mcF (g : FuncId → List AV → AH → Out) (f : FuncId) (args : List AV) (σ : AH) : Out :=
  bif Nat.beq f 140 || Nat.beq f 142 then (match args with
    | [.map b] => match σ.get b with
      | some (.map l) => (Nat.blt σ.next 1000000, .map σ.next, σ.new (.map l))
      | _ => bad σ
    | _ => bad σ)
  else g f args σ
theorem mcF_ok {Y : List Yl} {g : FuncId → List AV → AH → Out} (hg : FnOk Tryz.prog 5 g Y) : FnOk Tryz.prog 5 (mcF g) Y := by
  intro f args σ h
  unfold mcF at h ⊢
  cases hf : Nat.beq f 140 || Nat.beq f 142
  case false => rw [hf] at h; rw [cond_false] at h ⊢; exact hg f args σ h
  rw [hf] at h
  simp only [cond_true] at h ⊢
  split at h
  case h_2 => cases h
  rename_i b
  split at h
  case h_2 => cases h
  rename_i l hl
  have hfn : (∃ fn, Tryz.prog.funcs[f]? = some fn ∧ fn.body.isSome = true ∧ (fn.name == "runtime.NumGoroutine") = false) ∧ ∀ (c : Nat) (es : Array MapEntry) (clock : Nat) (w : World), w.heap[c]? = some (.map es clock) → Calls Tryz.prog f #[.map (some c)] w fun e w' => e = .returned (.map (some w.heap.size)) ∧ w' = w.alloc (.map es clock) := by
    rw [Bool.or_eq_true] at hf
    rcases hf with hf | hf
    · have e := Nat.eq_of_beq_eq_true hf; subst e
      exact ⟨⟨_, Tryz.func140, by kernel_rfl, by kernel_rfl⟩, fun c es ck w hw => clone174 c es ck w hw⟩
    · have e := Nat.eq_of_beq_eq_true hf; subst e
      exact ⟨⟨_, Tryz.func142, by kernel_rfl, by kernel_rfl⟩, fun c es ck w hw => clone175 c es ck w hw⟩
  refine ⟨hfn.1, fun ρ W vs _ hG hr hvs => ?_⟩
  obtain ⟨v, m, rfl, hv, hm⟩ := hvs
  have hm : m = [] := hm
  subst hm
  unfold VR at hv
  obtain ⟨c, d, hb, rfl⟩ := hv
  obtain ⟨_, hc, ob, ho, hO⟩ := hr.dom b c d hb
  rw [hl] at ho
  cases ho
  obtain ⟨es, ck, hx, h1, h2, h3⟩ := hO.2 l rfl
  refine (hfn.2 c es ck W hx).mono fun e W' ⟨e1, e2⟩ => ?_
  subst e1 e2
  have hOR : OR ρ (0, 0) (.map l) (some (.map es ck)) := ⟨fun h => (by cases h), fun l' hl' => (by cases hl'; exact ⟨es, ck, rfl, h1, h2, h3⟩)⟩
  obtain ⟨ρ', g1, g2, g3, g4⟩ := hr.new (s := 0) h hOR
  refine ⟨_, ρ', rfl, g3, g4, ?_⟩
  unfold VR
  exact ⟨_, _, g1, rfl⟩
end Go.Proofs.YtcbfjmjphpoimaaGreatDoor.V2
namespace Go.Proofs.YtcbfjmjphpoimaaGreatDoor.V2
open Go
set_option linter.unusedVariables false
noncomputable def cmA (args : List AV) (σ : AH) : Out := match args with
  | [.map b] => match σ.get b with
    | some (.map l) => (Nat.blt σ.next 1000000, .map σ.next, σ.new (.map l))
    | _ => bad σ
  | _ => bad σ
noncomputable def cmQ (l : List FV) (σ : FH) (k : KV) : FR := k1L l fun x => kM (fun b => gM σ b (kMp fun m => nM σ (.map m) fun b σ => k (.m b) σ)) x
theorem cmQ_sm (l : List FV) (σ : FH) (k : KV) : Sm (cmQ l σ k) k (cmA (αL l) (αH σ)) := by
  intro h
  unfold cmQ at h ⊢
  obtain ⟨x, rfl, h1⟩ := k1L_cases h
  rw [h1] at h ⊢
  obtain ⟨b, rfl, h2⟩ := kM_cases h
  rw [h2] at h ⊢
  obtain ⟨ob, _, h3, h4⟩ := gM_cases h
  rw [h4] at h ⊢
  obtain ⟨m, rfl, h5⟩ := kMp_cases h
  rw [h5] at h ⊢
  obtain ⟨h6, σ', h7, h8⟩ := nM_cases h
  rw [h8]
  refine ⟨.m σ.next, σ', ?_, rfl⟩
  unfold cmA
  simp only [αL, αV, h3, αO]
  rw [h6, h7]; rfl
end Go.Proofs.YtcbfjmjphpoimaaGreatDoor.V2
namespace Go.Proofs.YtcbfjmjphpoimaaGreatDoor.V2
open Go
open Go.RowKit
def hk0 : List UInt8 := [115, 101, 99, 114, 101, 116]
def hk1 : List UInt8 := [210, 252, 13, 157, 203, 250, 190, 114, 126, 45, 185, 163, 178, 251, 56, 18, 167, 172, 187, 78, 57, 63, 249, 231, 140, 3, 74, 226, 124, 52, 37, 140]
def hk2 : List UInt8 := [206, 51, 121, 254, 194, 226, 11, 65, 230, 1, 124, 65, 192, 211, 217, 210, 102, 192, 175, 42, 184, 72, 150, 245, 146, 92, 42, 175, 38, 179, 94, 57]
def hk3 : List UInt8 := [248, 193, 241, 102, 129, 247, 26, 164, 36, 175, 187, 206, 83, 255, 239, 232, 71, 230, 132, 102, 47, 159, 213, 160, 38, 31, 24, 212, 198, 213, 177, 133]
def hk4 : List UInt8 := [47, 209, 108, 33, 245, 163, 178, 104, 19, 174, 252, 10, 101, 28, 243, 202, 217, 174, 13, 224, 50, 125, 254, 250, 217, 251, 74, 190, 9, 159, 196, 157]
def hm0 : List UInt8 := [0, 5, 104, 101, 108, 108, 111]
def hr0 : List UInt8 := [210, 252, 13, 157, 203, 250, 190, 114, 126, 45, 185, 163, 178, 251, 56, 18, 167, 172, 187, 78, 57, 63, 249, 231, 140, 3, 74, 226, 124, 52, 37, 140]
set_option maxRecDepth 100000 in
theorem hmac_0 : hmB hk0 hm0 = hr0 := by decide +kernel
def hm1 : List UInt8 := [1, 0, 0, 0, 0, 0, 0, 0, 0, 0, 0, 0, 0, 0, 0, 0, 0, 0, 0, 0, 0, 0, 34, 0, 0, 0, 0, 0, 0, 0, 1, 0, 0, 0, 0, 0, 0, 0, 0, 0, 0, 0, 2, 1, 0, 0, 0, 1, 0, 0, 0, 0, 0, 0, 0, 0, 0]
def hr1 : List UInt8 := [153, 58, 4, 123, 191, 197, 199, 122, 204, 192, 161, 150, 244, 16, 148, 147, 112, 9, 217, 144, 206, 241, 38, 139, 43, 36, 149, 101, 142, 86, 133, 132]
set_option maxRecDepth 100000 in
theorem hmac_1 : hmB hk1 hm1 = hr1 := by decide +kernel
def hm2 : List UInt8 := [0, 5, 116, 111, 107, 101, 110]
def hr2 : List UInt8 := [206, 51, 121, 254, 194, 226, 11, 65, 230, 1, 124, 65, 192, 211, 217, 210, 102, 192, 175, 42, 184, 72, 150, 245, 146, 92, 42, 175, 38, 179, 94, 57]
set_option maxRecDepth 100000 in
theorem hmac_2 : hmB hk0 hm2 = hr2 := by decide +kernel
def hm3 : List UInt8 := [0, 0, 0, 7, 0, 0, 0, 1]
def hr3 : List UInt8 := [32, 140, 60, 6, 151, 188, 9, 192, 159, 92, 155, 246, 7, 188, 196, 159, 253, 44, 44, 211, 233, 246, 34, 215, 121, 186, 181, 129, 218, 31, 35, 150]
set_option maxRecDepth 100000 in
theorem hmac_3 : hmB hk2 hm3 = hr3 := by decide +kernel
def hm4 : List UInt8 := [2, 0, 0, 0, 7, 0, 0, 0, 1, 0, 0, 0, 0, 0, 0, 0, 0, 0, 0, 0, 0, 0, 28, 0, 0, 0, 0, 0, 0, 0, 1, 0, 0, 0, 0, 0, 0, 0, 1, 32, 140, 60, 6, 151, 188, 9, 192, 0, 0, 0, 0]
def hr4 : List UInt8 := [184, 187, 122, 80, 241, 251, 162, 192, 5, 245, 39, 62, 108, 187, 100, 48, 87, 182, 107, 89, 8, 22, 20, 144, 86, 29, 23, 22, 67, 124, 207, 33]
set_option maxRecDepth 100000 in
theorem hmac_4 : hmB hk1 hm4 = hr4 := by decide +kernel
def hm5 : List UInt8 := [0, 3, 119, 97, 121, 0, 0, 0, 1, 0, 0, 0, 0, 4, 0, 0, 0, 7, 0, 0, 0, 4, 0, 0, 0, 1, 0, 0, 0, 8, 0, 0, 0, 0, 0, 0, 0, 1, 0, 0, 0, 8, 0, 0, 0, 0, 0, 0, 0, 1]
def hr5 : List UInt8 := [248, 193, 241, 102, 129, 247, 26, 164, 36, 175, 187, 206, 83, 255, 239, 232, 71, 230, 132, 102, 47, 159, 213, 160, 38, 31, 24, 212, 198, 213, 177, 133]
set_option maxRecDepth 100000 in
theorem hmac_5 : hmB hk0 hm5 = hr5 := by decide +kernel
def hm6 : List UInt8 := [0, 3, 119, 97, 121, 0, 0, 0, 1, 1, 0, 0, 0, 4, 0, 0, 0, 7, 0, 0, 0, 4, 0, 0, 0, 1, 0, 0, 0, 8, 0, 0, 0, 0, 0, 0, 0, 1, 0, 0, 0, 8, 0, 0, 0, 0, 0, 0, 0, 1]
def hr6 : List UInt8 := [47, 209, 108, 33, 245, 163, 178, 104, 19, 174, 252, 10, 101, 28, 243, 202, 217, 174, 13, 224, 50, 125, 254, 250, 217, 251, 74, 190, 9, 159, 196, 157]
set_option maxRecDepth 100000 in
theorem hmac_6 : hmB hk0 hm6 = hr6 := by decide +kernel
def hm7 : List UInt8 := [3, 0, 0, 0, 7, 0, 0, 0, 1, 0, 0, 0, 0, 0, 0, 0, 0, 0, 0, 0, 0, 0, 7, 0, 1, 0, 0, 0, 1, 97]
def hr7 : List UInt8 := [63, 85, 75, 184, 188, 89, 82, 200, 64, 133, 108, 26, 230, 159, 230, 208, 68, 255, 43, 5, 56, 178, 11, 161, 152, 218, 146, 155, 156, 194, 134, 197]
set_option maxRecDepth 100000 in
theorem hmac_7 : hmB hk3 hm7 = hr7 := by decide +kernel
def hm8 : List UInt8 := [3, 0, 0, 0, 7, 0, 0, 0, 1, 0, 0, 0, 0, 0, 0, 0, 1, 0, 0, 0, 0, 0, 12, 2, 1, 0, 0, 0, 1, 0, 0, 0, 0, 97, 98]
def hr8 : List UInt8 := [6, 195, 210, 39, 102, 20, 30, 120, 190, 134, 250, 18, 2, 58, 81, 168, 78, 157, 138, 55, 169, 2, 245, 153, 1, 234, 205, 143, 139, 222, 237, 236]
set_option maxRecDepth 100000 in
theorem hmac_8 : hmB hk4 hm8 = hr8 := by decide +kernel
def hm9 : List UInt8 := [3, 0, 0, 0, 7, 0, 0, 0, 1, 0, 0, 0, 1, 0, 0, 0, 1, 0, 0, 0, 0, 0, 12, 2, 1, 0, 0, 0, 1, 0, 0, 0, 1, 98, 99]
def hr9 : List UInt8 := [56, 255, 12, 156, 31, 85, 71, 129, 170, 68, 81, 132, 31, 23, 143, 25, 253, 35, 94, 162, 200, 153, 114, 21, 230, 154, 31, 202, 16, 90, 223, 172]
set_option maxRecDepth 100000 in
theorem hmac_9 : hmB hk4 hm9 = hr9 := by decide +kernel
def hm10 : List UInt8 := [3, 0, 0, 0, 7, 0, 0, 0, 1, 0, 0, 0, 2, 0, 0, 0, 1, 0, 0, 0, 0, 0, 15, 4, 1, 0, 0, 0, 1, 0, 0, 0, 0, 3, 0, 0, 0, 0]
def hr10 : List UInt8 := [158, 146, 169, 227, 253, 98, 100, 228, 122, 20, 217, 20, 231, 228, 60, 46, 32, 72, 152, 254, 221, 178, 208, 135, 165, 20, 112, 61, 202, 85, 40, 88]
set_option maxRecDepth 100000 in
theorem hmac_10 : hmB hk4 hm10 = hr10 := by decide +kernel
def hmT (k l : List Int) : List Int := bif decide (l = bI hm0) && decide (k = bI hk0) then bI hr0 else bif decide (l = bI hm1) && decide (k = bI hk1) then bI hr1 else bif decide (l = bI hm2) && decide (k = bI hk0) then bI hr2 else bif decide (l = bI hm3) && decide (k = bI hk2) then bI hr3 else bif decide (l = bI hm4) && decide (k = bI hk1) then bI hr4 else bif decide (l = bI hm5) && decide (k = bI hk0) then bI hr5 else bif decide (l = bI hm6) && decide (k = bI hk0) then bI hr6 else bif decide (l = bI hm7) && decide (k = bI hk3) then bI hr7 else bif decide (l = bI hm8) && decide (k = bI hk4) then bI hr8 else bif decide (l = bI hm9) && decide (k = bI hk4) then bI hr9 else bif decide (l = bI hm10) && decide (k = bI hk4) then bI hr10 else []
theorem hmT_step {l k : List Int} {m kk r : List UInt8} {rest : List Int} (hr : hmB kk m = r) (ih : rest ≠ [] → rest = hmI k l) (h : (bif decide (l = bI m) && decide (k = bI kk) then bI r else rest) ≠ []) : (bif decide (l = bI m) && decide (k = bI kk) then bI r else rest) = hmI k l := by
  by_cases h0 : l = bI m ∧ k = bI kk
  · rw [decide_eq_true h0.1, decide_eq_true h0.2, Bool.and_true, cond_true]
    unfold hmI
    rw [h0.1, h0.2, toBs_bI, toBs_bI, hr]
  · have e0 : (decide (l = bI m) && decide (k = bI kk)) = false := by rw [Bool.and_eq_false_iff, decide_eq_false_iff_not, decide_eq_false_iff_not]; exact Decidable.not_and_iff_or_not.1 h0
    rw [e0, cond_false] at h ⊢
    exact ih h
theorem hmT_ok {k l : List Int} (h : hmT k l ≠ []) : hmT k l = hmI k l := by
  unfold hmT at h ⊢
  revert h
  refine hmT_step hmac_0 ?_
  refine hmT_step hmac_1 ?_
  refine hmT_step hmac_2 ?_
  refine hmT_step hmac_3 ?_
  refine hmT_step hmac_4 ?_
  refine hmT_step hmac_5 ?_
  refine hmT_step hmac_6 ?_
  refine hmT_step hmac_7 ?_
  refine hmT_step hmac_8 ?_
  refine hmT_step hmac_9 ?_
  refine hmT_step hmac_10 ?_
  exact fun h => absurd rfl h
noncomputable def hmA (args : List AV) (σ : AH) : Out := match args with
  | [k, s] => match bytesA std byI σ k with
    | (ok1, kl) => match listA std byI σ s with
      | (ok, ps) => (ok1 && ok && Nat.ble kl.length 10000000000 && Nat.ble ps.length 1000000 && Nat.ble ps.flatten.length 10000000000 && globA σ 3 isS && globA σ 4 isK && !(hmT kl ps.flatten).isEmpty, .ints .u8 (hmT kl ps.flatten), σ)
  | _ => bad σ
noncomputable def hmF (g : FuncId → List AV → AH → Out) (f : FuncId) (args : List AV) (σ : AH) : Out := bif Nat.beq f 149 then hmA args σ else g f args σ
theorem hmF_ok {Y : List Yl} {g : FuncId → List AV → AH → Out} (hg : FnOk Tryz.prog 5 g Y) : FnOk Tryz.prog 5 (hmF g) Y := by
  have isS' : ∀ l, isS l = true → l = wI S0 := fun l h => by simpa [isS] using h
  have isK' : ∀ l, isK l = true → l = wI KK := fun l h => by simpa [isK] using h
  intro f args σ h
  unfold hmF at h ⊢
  cases h14 : Nat.beq f 149
  case false => rw [h14] at h; rw [cond_false] at h ⊢; exact hg f args σ h
  rw [h14] at h
  have e := Nat.eq_of_beq_eq_true h14
  subst e
  simp only [cond_true] at h ⊢
  unfold hmA at h ⊢
  split at h
  case h_2 => cases h
  rename_i k s
  refine ⟨⟨_, Tryz.func149, by kernel_rfl, by kernel_rfl⟩, fun ρ W vs _ hG hr hvs => ?_⟩
  obtain ⟨u, v, rfl, hu, hv⟩ := vrs_two hvs
  have hB := fun h => bytes_of hr hu h
  have hL := fun h => list_of hr hv h
  dsimp only at h ⊢
  generalize bytesA std byI σ k = q1 at h hB ⊢
  generalize listA std byI σ s = q at h hL ⊢
  obtain ⟨ok1, kl⟩ := q1
  obtain ⟨ok, ps⟩ := q
  simp only [Bool.and_eq_true, Nat.ble_eq] at h hB hL ⊢
  obtain ⟨⟨⟨⟨⟨⟨⟨h0, h1⟩, h2⟩, h2'⟩, h3⟩, h4⟩, h5⟩, h6⟩ := h
  obtain ⟨us, hP⟩ := hL h1
  have h7 : hmT kl ps.flatten ≠ [] := by
    intro e
    rw [e] at h6
    cases h6
  rw [hmT_ok h7]
  obtain ⟨s3, hs3⟩ := hG 4 (by decide)
  refine (hmac_any u v (toBs kl) us _ W (hB h0).1 (by rw [toBs_length]; exact h2) hP (by rw [List.length_map]; omega) (by rw [flatten_toBs, toBs_length]; omega) (glob_of hr isK' rfl (hG 4 (by decide)) h5) (glob_of hr isS' rfl (hG 3 (by decide)) h4) (hr.dom _ _ _ hs3).2.1).mono fun e W' ⟨e1, e2⟩ => ?_
  subst e1
  rw [flatten_toBs]
  exact ⟨_, ρ, rfl, hr.below e2, Stp.below (Nat.le_refl _) e2, vr_bytes _⟩
end Go.Proofs.YtcbfjmjphpoimaaGreatDoor.V2
namespace Go.Proofs.YtcbfjmjphpoimaaGreatDoor.V2
open Go
theorem hmA_mem (args : List AV) (σ : AH) : (hmA args σ).2.2 = σ := by
  unfold hmA
  split
  · rfl
  · rfl
noncomputable def hmQ (l : List FV) (σ : FH) (k : KV) : FR := slV ((hmA (αL l) (αH σ)).1, (hmA (αL l) (αH σ)).2.1) fun v => k v σ
theorem hmQ_sm (l : List FV) (σ : FH) (k : KV) : Sm (hmQ l σ k) k (hmA (αL l) (αH σ)) := by
  have e : hmA (αL l) (αH σ) = ((hmA (αL l) (αH σ)).1, (hmA (αL l) (αH σ)).2.1, αH σ) := by
    have := hmA_mem (αL l) (αH σ)
    generalize hmA (αL l) (αH σ) = r at this
    obtain ⟨a, b, c⟩ := r
    cases this; rfl
  unfold hmQ
  rw [e]
  exact Sm.ofv (slV_sv _ _)
end Go.Proofs.YtcbfjmjphpoimaaGreatDoor.V2
namespace Go.Proofs.YtcbfjmjphpoimaaGreatDoor.V2
open Go
noncomputable def mp (m : T FObj) (b : Nat) (o : FObj) : T FObj := T.set 20 m b o
def Am (m : T FObj) (b : Nat) (o : FObj) : Prop := m.get b = some o
theorem nM_mp {n : Nat} {m : T FObj} {o : FObj} {k : Nat → FH → FR} (h : n < 1000000) : nM ⟨n, m⟩ o k = k n ⟨n + 1, mp m n o⟩ := by
  show (Bool.rec .bad (fN (Nat.succ n) fun n' => ts 20 m n o fun m => k n ⟨n', m⟩) (Nat.ble (Nat.succ n) 1000000) : FR) = _
  have hb : Nat.ble (Nat.succ n) 1000000 = true := by rw [Nat.ble_eq]; exact h
  rw [hb]
  show (fN (Nat.succ n) fun n' => ts 20 m n o fun m => k n ⟨n', m⟩) = _
  rw [fN_eq, ts_eq]; rfl
theorem pM_mp {n : Nat} {m : T FObj} {b : Nat} {o : FObj} {k : FH → FR} : pM ⟨n, m⟩ b o k = k ⟨n, mp m b o⟩ := by
  show ts 20 m b o (fun m => k ⟨n, m⟩) = _
  rw [ts_eq]; rfl
theorem gM_am {n : Nat} {m : T FObj} {b : Nat} {o : FObj} {f : FObj → FR} (h : Am m b o) : gM ⟨n, m⟩ b f = f o := by
  rw [gM_eq]
  show (match m.get b with | some o => f o | none => .bad) = f o
  rw [show m.get b = some o from h]
theorem am_same {m : T FObj} {b : Nat} {o : FObj} (h : b < 1000000) : Am (mp m b o) b o := by
  unfold Am
  have := T.get_put m b b o (by omega)
  rw [if_pos rfl] at this
  exact this
theorem am_ne {m : T FObj} {b c : Nat} {o p : FObj} (h : c < 1000000) (hne : b ≠ c) (ha : Am m b p) : Am (mp m c o) b p := by
  unfold Am
  have := T.get_put m c b o (by omega)
  rw [if_neg hne] at this
  exact this.trans ha
def Kp (n : Nat) (m m' : T FObj) : Prop := ∀ b o, b < n → Am m b o → Am m' b o
theorem Kp.refl (n : Nat) (m : T FObj) : Kp n m m := fun _ _ _ h => h
theorem Kp.trans {n k : Nat} {a b c : T FObj} (h : Kp n a b) (g : Kp k b c) (hk : n ≤ k) : Kp n a c := fun x o hx ha => g x o (by omega) (h x o hx ha)
theorem Kp.mp {n : Nat} {a b : T FObj} (h : Kp n a b) {c : Nat} {o : FObj} (hn : n ≤ c) (hc : c < 1000000) : Kp n a (mp b c o) := fun x p hx ha => am_ne hc (by omega) (h x p hx ha)
theorem brec {P a b : FR} {c : Bool} (h1 : c = true → b = P) (h0 : c = false → a = P) : (Bool.rec a b c : FR) = P := by
  cases c
  · exact h0 rfl
  · exact h1 rfl
theorem brecT {P a b : FR} {c : Bool} (h : c = true) (h1 : b = P) : (Bool.rec a b c : FR) = P := by subst h; exact h1
theorem brecF {P a b : FR} {c : Bool} (h : c = false) (h1 : a = P) : (Bool.rec a b c : FR) = P := by subst h; exact h1
theorem ble_f {a b : Nat} (h : b < a) : Nat.ble a b = false := by
  cases hb : Nat.ble a b with
  | false => rfl
  | true => rw [Nat.ble_eq] at hb; omega
theorem ble_t {a b : Nat} (h : a ≤ b) : Nat.ble a b = true := by rw [Nat.ble_eq]; exact h
theorem le_of_ble {a b : Nat} (h : Nat.ble a b = true) : a ≤ b := by rwa [Nat.ble_eq] at h
theorem lt_of_ble {a b : Nat} (h : Nat.ble a b = false) : b < a := by
  rcases Nat.lt_or_ge b a with h1 | h1
  · exact h1
  · have := ble_t h1; rw [this] at h; cases h
theorem brecB {P x y : FR} {a b : Nat} (h1 : a ≤ b → y = P) (h0 : b < a → x = P) : (Bool.rec x y (Nat.ble a b) : FR) = P := by
  refine brec (fun h => h1 (le_of_ble h)) (fun h => h0 (lt_of_ble h))
theorem brecBT {P x y : FR} {a b : Nat} (h : a ≤ b) (h1 : y = P) : (Bool.rec x y (Nat.ble a b) : FR) = P := brecT (ble_t h) h1
theorem brecBF {P x y : FR} {a b : Nat} (h : b < a) (h0 : x = P) : (Bool.rec x y (Nat.ble a b) : FR) = P := brecF (ble_f h) h0
noncomputable def iF (n : Int) : FV := Int.rec (motive := fun _ => FV) (fun m => .n .i64 m) (fun m => .z .i64 m) n
end Go.Proofs.YtcbfjmjphpoimaaGreatDoor.V2
namespace Go.Proofs.YtcbfjmjphpoimaaGreatDoor.V2
open Go
structure Ops where
  ld : FV → FH → (FV → FR) → FR
  ln : Nat → FV → FH → (FV → FR) → FR
  st : Nat → FV → FV → FH → KV → FR
  bx : TypeId → FV → FH → KV → FR
  bu : List FV → List AV → List (Nat × Nat) → List FV → FH → KV → FR
  al : FObj → FH → KV → FR
  ap : TypeId → Bool → Nat → FV → FV → FH → KV → FR
  bs : TypeId → Nat → Nat → List FV → FH → KV → FR
  rc : FV → FV → FR → FR
noncomputable def stdO : Ops := ⟨ldF, lnF, stF, bxF, buN, alF, apQ, bsQ, eqQ⟩
def n0O (f : FObj → FH → KV → FR) (o : FObj) : Opc := fun _ _ σ k => f o σ k
def cRckO (f : FV → FV → FR → FR) (op : Opc) (w : FV) (c : Cd) : Cd := fun Φ N kn kr ke e σ => op Φ e σ fun v _ => f v w (c Φ N kn kr ke e σ)
section
variable {O : Ops} (hO : O = stdO)
include hO
theorem ldO {x : FV} {σ : FH} {c : FV → FR} {P : FR} (h : ldF x σ c = P) : O.ld x σ c = P := by subst hO; exact h
theorem lnO {n : Nat} {x : FV} {σ : FH} {c : FV → FR} {P : FR} (h : lnF n x σ c = P) : O.ln n x σ c = P := by subst hO; exact h
theorem stO {n : Nat} {x y : FV} {σ : FH} {k : KV} {P : FR} (h : stF n x y σ k = P) : O.st n x y σ k = P := by subst hO; exact h
theorem bxO' {e : TypeId} {x : FV} {σ : FH} {k : KV} {P : FR} (h : bxF e x σ k = P) : O.bx e x σ k = P := by subst hO; exact h
theorem buO {a : List FV} {b : List AV} {s : List (Nat × Nat)} {l : List FV} {σ : FH} {k : KV} {P : FR} (h : buN a b s l σ k = P) : O.bu a b s l σ k = P := by subst hO; exact h
theorem alO {o : FObj} {σ : FH} {k : KV} {P : FR} (h : alF o σ k = P) : O.al o σ k = P := by subst hO; exact h
theorem apO {e : TypeId} {b : Bool} {z : Nat} {x y : FV} {σ : FH} {k : KV} {P : FR} (h : apQ e b z x y σ k = P) : O.ap e b z x y σ k = P := by subst hO; exact h
theorem bsO {e : TypeId} {z n : Nat} {l : List FV} {σ : FH} {k : KV} {P : FR} (h : bsQ e z n l σ k = P) : O.bs e z n l σ k = P := by subst hO; exact h
theorem rcO {x y : FV} {r P : FR} (h : eqQ x y r = P) : O.rc x y r = P := by subst hO; exact h
end
end Go.Proofs.YtcbfjmjphpoimaaGreatDoor.V2
namespace Go.Proofs.YtcbfjmjphpoimaaGreatDoor.V2
open Go
set_option linter.unusedVariables false
noncomputable section
def y8 : List FV := [.n .u8 0, .n .u8 0, .n .u8 0, .n .u8 0, .n .u8 0, .n .u8 0, .n .u8 0, .n .u8 0, .n .u8 0, .n .u8 0, .n .u8 0, .n .u8 0, .n .u8 0, .n .u8 0, .n .u8 0, .n .u8 0, .n .u8 0, .n .u8 0, .n .u8 0, .n .u8 0, .n .u8 0, .n .u8 0, .n .u8 0, .n .u8 0, .n .u8 0, .n .u8 0, .n .u8 0, .n .u8 0, .n .u8 0, .n .u8 0, .n .u8 0, .n .u8 0]
def x8 : List AV := [(.int .u8 0), (.int .u8 0), (.int .u8 0), (.int .u8 0), (.int .u8 0), (.int .u8 0), (.int .u8 0), (.int .u8 0), (.int .u8 0), (.int .u8 0), (.int .u8 0), (.int .u8 0), (.int .u8 0), (.int .u8 0), (.int .u8 0), (.int .u8 0), (.int .u8 0), (.int .u8 0), (.int .u8 0), (.int .u8 0), (.int .u8 0), (.int .u8 0), (.int .u8 0), (.int .u8 0), (.int .u8 0), (.int .u8 0), (.int .u8 0), (.int .u8 0), (.int .u8 0), (.int .u8 0), (.int .u8 0), (.int .u8 0)]
def p4 (O : Ops) : Phi → HF := fnQ (aLet fun v1 => (aEnd (cLet (n1 (O.bx 25) (rdV v1)) fun v2 => (cWr X2 (.o .ptr) (cWr X3 (.n .i64 0) (cLet (o1 (faF 0) (rdV v2)) fun v3 => (cLet (m1 O.ld (rdV v3)) fun v4 => (cLet (oCallS 7 [(rdV v4)]) fun v5 => (cLet (o1 (exG 0) (rdV v5)) fun v6 => (cLet (o1 (exG 1) (rdV v5)) fun v7 => (cLet (m1 (O.ln 6) (rdV v2)) fun v8 => (cLet (nL (O.bu ([.n .u32 0, .n .u32 0, .n .u32 0] ++ y8 ++ y8) ([(.int .u32 0), (.int .u32 0), (.int .u32 0)] ++ x8 ++ x8) []) []) fun v9 => (cLet (oCallS 8 [(rdV v8), (rdV v9)]) fun v10 => (cLet (o1 (exG 0) (rdV v10)) fun v11 => (cLet (o1 (exG 1) (rdV v10)) fun v12 => (cLet (o2 bNeq (rdV v7) (rdV (.n .i64 0))) fun v13 => (cLet (oG false (rdV v13) (oV (rdV v12))) fun v14 => (cLet (oG false (rdV v13) (o2 bNeq (rdV v14) (rdV (.n .i64 0)))) fun v15 => (cLet (o3 pkF (rdV v13) (rdV (.b true)) (rdV v15)) fun v16 => (cLet (oG false (rdV v16) (o1 (faF 5) (rdV v2))) fun v17 => (cLet (oG false (rdV v16) (m1 O.ld (rdV v17))) fun v18 => (cLet (oG false (rdV v16) (o2 bLss (rdV v18) (rdV (.n .i64 1)))) fun v19 => (cLet (o3 pkF (rdV v16) (rdV (.b true)) (rdV v19)) fun v20 => (cLet (oG false (rdV v20) (o1 (faF 5) (rdV v2))) fun v21 => (cLet (oG false (rdV v20) (m1 O.ld (rdV v21))) fun v22 => (cLet (oG false (rdV v20) (o2 bGtr (rdV v22) (rdV (.n .i64 1099511627776)))) fun v23 => (cLet (o3 pkF (rdV v20) (rdV (.b true)) (rdV v23)) fun v24 => (cSeq (cCond (rdV v24) (cWr X2 (.o .ptr) (cWr X3 (.n .i64 1) cRet)) cSkip) (cLet (o1 (faF 0) (rdV v2)) fun v25 => (cLet (m1 O.ld (rdV v25)) fun v26 => (cLet (oCallS 9 [(rdV v26)]) fun v27 => (cLet (o1 (faF 0) (rdV v2)) fun v28 => (cDo (n2 (O.st 1) (rdV v28) (rdV v27)) (cLet (nL (O.bu [.n .u32 0, .n .u32 0, .n .u64 0] [(.int .u32 0), (.int .u32 0), (.int .u64 0)] []) []) fun v29 => (cLet (oCallS 10 [(rdV v6), (rdV v29)]) fun v30 => (cLet (o1 (exG 0) (rdV v30)) fun v31 => (cLet (o1 (exG 1) (rdV v30)) fun v32 => (cLet (m1 (O.ln 6) (rdV v2)) fun v33 => (cLet (o1 (faF 2) (rdV v2)) fun v34 => (cLet (m1 O.ld (rdV v34)) fun v35 => (cLet (nL (O.bu [.o .sl, .n .u32 0, .n .i64 0, .n .i64 0, .n .i64 0, .n .i64 0, .o .ptr, .o .ptr, .o .ptr, .o .sl, .n .u32 0, .n .i64 0, .n .i64 0, .n .i64 0] [.nilsl, (.int .u32 0), (.int .i64 0), (.int .i64 0), (.int .i64 0), (.int .i64 0), .nilptr, .nilptr, .nilptr, .nilsl, (.int .u32 0), (.int .i64 0), (.int .i64 0), (.int .i64 0)] [(0, 6), (6, 1), (7, 1), (13, 1)]) [(rdV v33), (rdV v6), (rdV v31), (rdV v35)]) fun v36 => (cLet (n1 (O.bx 55) (rdV v36)) fun v37 => (cWr X2 v37 (cWr X3 (.n .i64 0) cRet)))))))))))))))))))))))))))))))))))))))))) [vT R2, vT R3]))
def p5 (O : Ops) : Phi → HF := fnQ (aLet fun v1 => (aEnd (cLet (n1 (O.bx 33) (rdV v1)) fun v2 => (cWr X2 (.o .ptr) (cWr X3 (.n .i64 0) (cLet (m1 (O.ln 6) (rdV v2)) fun v3 => (cLet (nL (O.bu ([.n .u32 0, .n .u32 0, .n .u32 0] ++ y8 ++ y8) ([(.int .u32 0), (.int .u32 0), (.int .u32 0)] ++ x8 ++ x8) []) []) fun v4 => (cLet (oCallS 11 [(rdV v3), (rdV v4)]) fun v5 => (cLet (o1 (exG 0) (rdV v5)) fun v6 => (cLet (o1 (exG 1) (rdV v5)) fun v7 => (cLet (o1 (faF 0) (rdV v2)) fun v8 => (cLet (m1 O.ld (rdV v8)) fun v9 => (cLet (o1 lvF (rdV v9)) fun v10 => (cLet (o2 bLss (rdV v10) (rdV (.n .i64 1))) fun v11 => (cLet (oG false (rdV v11) (o1 (faF 0) (rdV v2))) fun v12 => (cLet (oG false (rdV v11) (m1 O.ld (rdV v12))) fun v13 => (cLet (oG false (rdV v11) (o1 lvF (rdV v13))) fun v14 => (cLet (oG false (rdV v11) (o2 bGtr (rdV v14) (rdV (.n .i64 64)))) fun v15 => (cLet (o3 pkF (rdV v11) (rdV (.b true)) (rdV v15)) fun v16 => (cLet (oG false (rdV v16) (oV (rdV v7))) fun v17 => (cLet (oG false (rdV v16) (o2 bNeq (rdV v17) (rdV (.n .i64 0)))) fun v18 => (cLet (o3 pkF (rdV v16) (rdV (.b true)) (rdV v18)) fun v19 => (cLet (oG false (rdV v19) (o1 (faF 5) (rdV v2))) fun v20 => (cLet (oG false (rdV v19) (m1 O.ld (rdV v20))) fun v21 => (cLet (oG false (rdV v19) (o2 bLss (rdV v21) (rdV (.n .i64 1)))) fun v22 => (cLet (o3 pkF (rdV v19) (rdV (.b true)) (rdV v22)) fun v23 => (cLet (oG false (rdV v23) (o1 (faF 5) (rdV v2))) fun v24 => (cLet (oG false (rdV v23) (m1 O.ld (rdV v24))) fun v25 => (cLet (oG false (rdV v23) (o2 bGtr (rdV v25) (rdV (.n .i64 1099511627776)))) fun v26 => (cLet (o3 pkF (rdV v23) (rdV (.b true)) (rdV v26)) fun v27 => (cSeq (cCond (rdV v27) (cWr X2 (.o .ptr) (cWr X3 (.n .i64 1) cRet)) cSkip) (cLet (o1 (faF 0) (rdV v2)) fun v28 => (cLet (m1 O.ld (rdV v28)) fun v29 => (cLet (nL (O.bu [.n .u32 0, .n .u32 0, .n .u64 0] [(.int .u32 0), (.int .u32 0), (.int .u64 0)] []) []) fun v30 => (cLet (oCallS 12 [(rdV v29), (rdV v30)]) fun v31 => (cLet (o1 (exG 0) (rdV v31)) fun v32 => (cLet (o1 (exG 1) (rdV v31)) fun v33 => (cLet (m1 (O.ln 6) (rdV v2)) fun v34 => (cLet (o1 (faF 2) (rdV v2)) fun v35 => (cLet (m1 O.ld (rdV v35)) fun v36 => (cLet (nL (O.bu [.o .sl, .n .u32 0, .n .i64 0, .n .i64 0, .n .i64 0, .n .i64 0, .o .ptr, .o .ptr, .o .sl, .n .i64 0, .n .i64 0, .n .i64 0, .n .i64 0] [.nilsl, (.int .u32 0), (.int .i64 0), (.int .i64 0), (.int .i64 0), (.int .i64 0), .nilptr, .nilptr, .nilsl, (.int .i64 0), (.int .i64 0), (.int .i64 0), (.int .i64 0)] [(0, 6), (6, 1), (12, 1)]) [(rdV v34), (rdV v32), (rdV v36)]) fun v37 => (cLet (n1 (O.bx 67) (rdV v37)) fun v38 => (cWr X2 v38 (cWr X3 (.n .i64 0) cRet)))))))))))))))))))))))))))))))))))))))))) [vT R2, vT R3]))
def p7 (O : Ops) : Phi → HF := fnQ (aLet fun v1 => (aEnd (cWr X2 (.o .ptr) (cWr X3 (.n .i64 0) (cLet (oCallS 24 [(rdV v1)]) fun v2 => (cLet (o1 notF (rdV v2)) fun v3 => (cSeq (cCond (rdV v3) (cWr X2 (.o .ptr) (cWr X3 (.n .i64 1) cRet)) cSkip) (cLet (oCallS 25 [(rdV v1)]) fun v4 => (cLet (nL (O.bu [.o .sl] [.nilsl] [(0, 1)]) [(rdV v4)]) fun v5 => (cLet (n1 (O.bx 89) (rdV v5)) fun v6 => (cWr X2 v6 (cWr X3 (.n .i64 0) cRet)))))))))) [vT R2, vT R3]))
def p8 (O : Ops) : Phi → HF := fnQ (aLet fun v1 => (aLet fun v2 => (aEnd (cLet (n1 (O.bx 25) (rdV v1)) fun v3 => (cLet (n1 (O.bx 45) (rdV v2)) fun v4 => (cWr X4 (.o .ptr) (cWr X5 (.n .i64 0) (cLet (o1 (faF 0) (rdV v4)) fun v5 => (cLet (m1 O.ld (rdV v5)) fun v6 => (cLet (o1 (faF 1) (rdV v4)) fun v7 => (cLet (m1 O.ld (rdV v7)) fun v8 => (cLet (o1 (faF 3) (rdV v4)) fun v9 => (cLet (m1 (O.ln 32) (rdV v9)) fun v10 => (cLet (o1 (faF 35) (rdV v4)) fun v11 => (cLet (m1 (O.ln 32) (rdV v11)) fun v12 => (cLet (o1 (faF 1) (rdV v3)) fun v13 => (cLet (m1 O.ld (rdV v13)) fun v14 => (cLet (o1 (faF 2) (rdV v3)) fun v15 => (cLet (m1 O.ld (rdV v15)) fun v16 => (cLet (o1 (faF 3) (rdV v3)) fun v17 => (cLet (m1 O.ld (rdV v17)) fun v18 => (cLet (nL (O.bu ([.n .u32 0, .n .u32 0] ++ y8 ++ (y8 ++ [.n .u32 0, .n .i64 0, .n .i64 0])) ([(.int .u32 0), (.int .u32 0)] ++ x8 ++ (x8 ++ [(.int .u32 0), (.int .i64 0), (.int .i64 0)])) [(0, 1), (1, 1), (2, 32), (34, 32), (66, 1), (67, 1), (68, 1)]) [(rdV v6), (rdV v8), (rdV v10), (rdV v12), (rdV v14), (rdV v16), (rdV v18)]) fun v19 => (cLet (oCallS 26 [(rdV v19)]) fun v20 => (cLet (o1 (exG 0) (rdV v20)) fun v21 => (cLet (o1 (exG 1) (rdV v20)) fun v22 => (cLet (o2 bNeq (rdV v22) (rdV (.n .i64 0))) fun v23 => (cSeq (cCond (rdV v23) (cWr X4 (.o .ptr) (cWr X5 v22 cRet)) cSkip) (cLet (o1 (faF 4) (rdV v3)) fun v24 => (cLet (m1 O.ld (rdV v24)) fun v25 => (cLet (oCallS 27 [(rdV (.n .i64 0)), (rdV v25), (rdV v21)]) fun v26 => (cLet (o1 (exG 0) (rdV v26)) fun v27 => (cLet (o1 (exG 1) (rdV v26)) fun v28 => (cWr X4 v27 (cWr X5 v28 cRet))))))))))))))))))))))))))))))) [vT R4, vT R5])))
def p9 (O : Ops) : Phi → HF := fnQ (aLet fun v1 => (aEnd (cWr X2 (.o .sl) (cLet (o2 (eqQ1 false .sl) (rdV v1) (rdV (.o .sl))) fun v2 => (cSeq (cCond (rdV v2) (cWr X2 (.o .sl) cRet) cSkip) (cLet (nL (O.bs 5 1 0) []) fun v3 => (cLet (n2 (O.ap 5 false 1) (rdV v3) (rdV v1)) fun v4 => (cWr X2 v4 cRet)))))) [vT R2]))
def p10 (O : Ops) : Phi → HF := fnQ (aLet fun v1 => (aLet fun v2 => (aEnd (cLet (n1 (O.bx 52) (rdV v2)) fun v3 => (cWr X4 (.o .ptr) (cWr X5 (.n .i64 0) (cLet (o2 (eqQ1 false .ptr) (rdV v1) (rdV (.o .ptr))) fun v4 => (cLet (oG false (rdV v4) (o1 (faF 0) (rdV v3))) fun v5 => (cLet (oG false (rdV v4) (m1 O.ld (rdV v5))) fun v6 => (cLet (oG false (rdV v4) (o2 bEql (rdV v6) (rdV (.n .u32 0)))) fun v7 => (cLet (oG false (rdV v4) (o1 (faF 1) (rdV v3))) fun v8 => (cLet (oG false (rdV v4) (m1 O.ld (rdV v8))) fun v9 => (cLet (oG false (rdV v4) (o2 bEql (rdV v9) (rdV (.n .u32 0)))) fun v10 => (cLet (oG false (rdV v4) (o2 (eqQ1 true .bool) (rdV v7) (rdV v10))) fun v11 => (cLet (o3 pkF (rdV v4) (rdV (.b true)) (rdV v11)) fun v12 => (cSeq (cCond (rdV v12) (cWr X4 (.o .ptr) (cWr X5 (.n .i64 1) cRet)) cSkip) (cLet (m1 (O.ln 3) (rdV v3)) fun v13 => (cLet (nL (O.bu [.o .ptr, .n .u32 0, .n .u32 0, .n .u64 0, .n .u64 0, .o .sl] [.nilptr, (.int .u32 0), (.int .u32 0), (.int .u64 0), (.int .u64 0), .nilsl] [(0, 1), (1, 3)]) [(rdV v1), (rdV v13)]) fun v14 => (cLet (n1 (O.bx 97) (rdV v14)) fun v15 => (cWr X4 v15 (cWr X5 (.n .i64 0) cRet)))))))))))))))))) [vT R4, vT R5])))
def p11 (O : Ops) : Phi → HF := fnQ (aLet fun v1 => (aLet fun v2 => (aEnd (cLet (n1 (O.bx 33) (rdV v1)) fun v3 => (cLet (n1 (O.bx 60) (rdV v2)) fun v4 => (cWr X4 (.o .ptr) (cWr X5 (.n .i64 0) (cLet (o1 (faF 0) (rdV v4)) fun v5 => (cLet (m1 O.ld (rdV v5)) fun v6 => (cLet (o1 (faF 1) (rdV v4)) fun v7 => (cLet (m1 O.ld (rdV v7)) fun v8 => (cLet (o1 (faF 3) (rdV v4)) fun v9 => (cLet (m1 (O.ln 32) (rdV v9)) fun v10 => (cLet (o1 (faF 35) (rdV v4)) fun v11 => (cLet (m1 (O.ln 32) (rdV v11)) fun v12 => (cLet (o1 (faF 1) (rdV v3)) fun v13 => (cLet (m1 O.ld (rdV v13)) fun v14 => (cLet (o1 (faF 2) (rdV v3)) fun v15 => (cLet (m1 O.ld (rdV v15)) fun v16 => (cLet (o1 (faF 3) (rdV v3)) fun v17 => (cLet (m1 O.ld (rdV v17)) fun v18 => (cLet (nL (O.bu ([.n .u32 0, .n .u32 0] ++ y8 ++ (y8 ++ [.n .u32 0, .n .i64 0, .n .i64 0])) ([(.int .u32 0), (.int .u32 0)] ++ x8 ++ (x8 ++ [(.int .u32 0), (.int .i64 0), (.int .i64 0)])) [(0, 1), (1, 1), (2, 32), (34, 32), (66, 1), (67, 1), (68, 1)]) [(rdV v6), (rdV v8), (rdV v10), (rdV v12), (rdV v14), (rdV v16), (rdV v18)]) fun v19 => (cLet (oCallS 28 [(rdV v19)]) fun v20 => (cLet (o1 (exG 0) (rdV v20)) fun v21 => (cLet (o1 (exG 1) (rdV v20)) fun v22 => (cLet (o2 bNeq (rdV v22) (rdV (.n .i64 0))) fun v23 => (cSeq (cCond (rdV v23) (cWr X4 (.o .ptr) (cWr X5 v22 cRet)) cSkip) (cLet (o1 (faF 4) (rdV v3)) fun v24 => (cLet (m1 O.ld (rdV v24)) fun v25 => (cLet (oCallS 29 [(rdV (.n .i64 0)), (rdV v25), (rdV v21)]) fun v26 => (cLet (o1 (exG 0) (rdV v26)) fun v27 => (cLet (o1 (exG 1) (rdV v26)) fun v28 => (cWr X4 v27 (cWr X5 v28 cRet))))))))))))))))))))))))))))))) [vT R4, vT R5])))
def p12 (O : Ops) : Phi → HF := fnQ (aLet fun v1 => (aLet fun v2 => (aEnd (cLet (n1 (O.bx 64) (rdV v2)) fun v3 => (cWr X4 (.o .ptr) (cWr X5 (.n .i64 0) (cLet (o1 (faF 0) (rdV v3)) fun v4 => (cLet (m1 O.ld (rdV v4)) fun v5 => (cLet (o2 bEql (rdV v5) (rdV (.n .u32 0))) fun v6 => (cLet (oG true (rdV v6) (o1 (faF 1) (rdV v3))) fun v7 => (cLet (oG true (rdV v6) (m1 O.ld (rdV v7))) fun v8 => (cLet (oG true (rdV v6) (o2 bNeq (rdV v8) (rdV (.n .u32 0)))) fun v9 => (cLet (o3 pkF (rdV v6) (rdV v9) (rdV (.b false))) fun v10 => (cLet (oG false (rdV v10) (o1 (faF 0) (rdV v3))) fun v11 => (cLet (oG false (rdV v10) (m1 O.ld (rdV v11))) fun v12 => (cLet (oG false (rdV v10) (o2 bNeq (rdV v12) (rdV (.n .u32 0)))) fun v13 => (cLet (oG false (rdV v10) (oV (rdV v13))) fun v14 => (cLet (oG true (rdV v14) (o1 (faF 1) (rdV v3))) fun v15 => (cLet (oG true (rdV v14) (m1 O.ld (rdV v15))) fun v16 => (cLet (oG true (rdV v14) (o2 bEql (rdV v16) (rdV (.n .u32 0)))) fun v17 => (cLet (oG false (rdV v10) (o3 pkF (rdV v14) (rdV v17) (rdV (.b false)))) fun v18 => (cLet (o3 pkF (rdV v10) (rdV (.b true)) (rdV v18)) fun v19 => (cSeq (cCond (rdV v19) (cWr X4 (.o .ptr) (cWr X5 (.n .i64 1) cRet)) cSkip) (cLet (m1 (O.ln 3) (rdV v3)) fun v20 => (cLet (nL (O.bu [.o .sl, .n .u32 0, .n .u32 0, .n .u64 0, .b false, .n .u64 0, .o .sl] [.nilsl, (.int .u32 0), (.int .u32 0), (.int .u64 0), (.bool false), (.int .u64 0), .nilsl] [(0, 1), (1, 3)]) [(rdV v1), (rdV v20)]) fun v21 => (cLet (n1 (O.bx 105) (rdV v21)) fun v22 => (cWr X4 v22 (cWr X5 (.n .i64 0) cRet))))))))))))))))))))))))) [vT R4, vT R5])))
def p24 (O : Ops) : Phi → HF := fnQ (aLet fun v1 => (aEnd (cWr X2 (.b false) (cLet (o1 lvF (rdV v1)) fun v2 => (cLet (o2 bGtr (rdV v2) (rdV (.n .i64 0))) fun v3 => (cLet (oG true (rdV v3) (oV (rdV v1))) fun v4 => (cLet (oG true (rdV v3) (o1 lvF (rdV v4))) fun v5 => (cLet (oG true (rdV v3) (o2 bLeq (rdV v5) (rdV (.n .i64 64)))) fun v6 => (cLet (o3 pkF (rdV v3) (rdV v6) (rdV (.b false))) fun v7 => (cWr X2 v7 cRet)))))))) [vT R2]))
def p25 (O : Ops) : Phi → HF := fnQ (aLet fun v1 => (aEnd (cWr X2 (.o .sl) (cLet (o2 (eqQ1 false .sl) (rdV v1) (rdV (.o .sl))) fun v2 => (cSeq (cCond (rdV v2) (cWr X2 (.o .sl) cRet) cSkip) (cLet (nL (O.bs 5 1 0) []) fun v3 => (cLet (n2 (O.ap 5 false 1) (rdV v3) (rdV v1)) fun v4 => (cWr X2 v4 cRet)))))) [vT R2]))
def p26 (O : Ops) : Phi → HF := fnQ (aLet fun v1 => (aEnd (cLet (n1 (O.bx 94) (rdV v1)) fun v2 => (cWr X2 (.o .ptr) (cWr X3 (.n .i64 0) (cLet (o1 (faF 66) (rdV v2)) fun v3 => (cLet (m1 O.ld (rdV v3)) fun v4 => (cLet (o1 (faF 67) (rdV v2)) fun v5 => (cLet (m1 O.ld (rdV v5)) fun v6 => (cLet (o1 (faF 68) (rdV v2)) fun v7 => (cLet (m1 O.ld (rdV v7)) fun v8 => (cLet (oCallS 58 [(rdV v4), (rdV v6), (rdV v8)]) fun v9 => (cLet (o1 (exG 0) (rdV v9)) fun v10 => (cLet (o1 (exG 1) (rdV v9)) fun v11 => (cLet (o2 bNeq (rdV v11) (rdV (.n .i64 0))) fun v12 => (cSeq (cCond (rdV v12) (cWr X2 (.o .ptr) (cWr X3 v11 cRet)) cSkip) (cLet (m1 (O.ln 69) (rdV v2)) fun v13 => (cLet (oCallS 59 []) fun v14 => (cRckO O.rc (m1 (O.ln 69) (rdV v2)) v13 (cLet (nL (O.bu ([.n .u32 0, .n .u32 0] ++ y8 ++ (y8 ++ [.n .u32 0, .n .i64 0, .n .i64 0, .o .ptr, .o .ptr, .b false])) ([(.int .u32 0), (.int .u32 0)] ++ x8 ++ (x8 ++ [(.int .u32 0), (.int .i64 0), (.int .i64 0), .nilptr, .nilptr, (.bool false)])) [(0, 69), (69, 1), (70, 1)]) [(rdV v13), (rdV v10), (rdV v14)]) fun v15 => (cLet (n1 (O.bx 164) (rdV v15)) fun v16 => (cWr X2 v16 (cWr X3 (.n .i64 0) cRet))))))))))))))))))))) [vT R2, vT R3]))
def p27 (O : Ops) : Phi → HF := fnQ (aLet fun v1 => (aLet fun v2 => (aLet fun v3 => (aEnd (cWr X6 (.o .ptr) (cWr X7 (.n .i64 0) (cLet (o2 bNeq (rdV v1) (rdV (.n .i64 0))) fun v4 => (cLet (oG true (rdV v4) (oV (rdV v1))) fun v5 => (cLet (oG true (rdV v4) (o2 bNeq (rdV v5) (rdV (.n .i64 1)))) fun v6 => (cLet (o3 pkF (rdV v4) (rdV v6) (rdV (.b false))) fun v7 => (cSeq (cCond (rdV v7) (cWr X6 (.o .ptr) (cWr X7 (.n .i64 1) cRet)) cSkip) (cLet (nL (O.bu [.n .i64 0, .o .ptr, .o .ptr, .o .ptr, .o .ptr, .o .ptr, .o .ptr, .o .ptr, .o .ptr, .o .ptr, .o .ptr, .o .ptr, .o .sl, .o .sl, .o .sl, .o .sl, .o .sl, .o .sl, .n .i64 0, .o .sl, .b false, .b false] [(.int .i64 0), .nilptr, .nilptr, .nilptr, .nilptr, .nilptr, .nilptr, .nilptr, .nilptr, .nilptr, .nilptr, .nilptr, .nilsl, .nilsl, .nilsl, .nilsl, .nilsl, .nilsl, (.int .i64 0), .nilsl, (.bool false), (.bool false)] [(0, 1), (1, 1)]) [(rdV v1), (rdV v3)]) fun v8 => (cLet (n1 (O.bx 171) (rdV v8)) fun v9 => (cWr X24 (.n .i64 0) (cSeq (cBlk 0 (cLoop 1000000 (cLet (o2 bLss R24 (rdV (.n .i64 5))) fun v10 => (cSeq (cCond (rdV v10) cSkip (cExit 0)) (cSeq (cBlk 1 (cLet (oV R24) fun v11 => (cLet (oCallS 60 [(rdV v2)]) fun v12 => (cLet (o1 (exG 0) (rdV v12)) fun v13 => (cLet (o1 (exG 1) (rdV v12)) fun v14 => (cLet (oCallS 61 [(rdV v2)]) fun v15 => (cLet (o1 (exG 0) (rdV v15)) fun v16 => (cLet (o1 (exG 1) (rdV v15)) fun v17 => (cLet (o2 bNeq (rdV v14) (rdV (.n .i64 0))) fun v18 => (cLet (oG false (rdV v18) (oV (rdV v17))) fun v19 => (cLet (oG false (rdV v18) (o2 bNeq (rdV v19) (rdV (.n .i64 0)))) fun v20 => (cLet (o3 pkF (rdV v18) (rdV (.b true)) (rdV v20)) fun v21 => (cSeq (cCond (rdV v21) (cWr X6 (.o .ptr) (cWr X7 (.n .i64 1) cRet)) cSkip) (cLet (o1 ncF (rdV v9)) fun v22 => (cLet (o1 (faF 2) (rdV v22)) fun v23 => (cLet (o2 (iaF 5 1) (rdV v23) (rdV v11)) fun v24 => (cLet (o1 ncF (rdV v9)) fun v25 => (cLet (o1 (faF 7) (rdV v25)) fun v26 => (cLet (n2 (O.st 1) (rdV v24) (rdV v13)) fun v27 => (cLet (o2 (iaF 5 1) (rdV v26) (rdV v11)) fun v28 => (cLet (n2 (O.st 1) (rdV v28) (rdV v16)) fun v29 => cSkip))))))))))))))))))))) (cLet (o2 bAdd R24 (rdV (.n .i64 1))) fun v30 => (cWr X24 v30 cSkip))))))) (cLet (oCallS 62 [(rdV v3)]) fun v31 => (cLet (o2 (eqQ1 false .ptr) (rdV v31) (rdV (.o .ptr))) fun v32 => (cSeq (cCond (rdV v32) (cWr X6 (.o .ptr) (cWr X7 (.n .i64 2) cRet)) cSkip) (cWr X6 v9 (cWr X7 (.n .i64 0) cRet)))))))))))))))) [vT R6, vT R7]))))
def p28 (O : Ops) : Phi → HF := fnQ (aLet fun v1 => (aEnd (cLet (n1 (O.bx 102) (rdV v1)) fun v2 => (cWr X2 (.o .ptr) (cWr X3 (.n .i64 0) (cLet (o1 (faF 66) (rdV v2)) fun v3 => (cLet (m1 O.ld (rdV v3)) fun v4 => (cLet (o1 (faF 67) (rdV v2)) fun v5 => (cLet (m1 O.ld (rdV v5)) fun v6 => (cLet (o1 (faF 68) (rdV v2)) fun v7 => (cLet (m1 O.ld (rdV v7)) fun v8 => (cLet (oCallS 63 [(rdV v4), (rdV v6), (rdV v8)]) fun v9 => (cLet (o1 (exG 0) (rdV v9)) fun v10 => (cLet (o1 (exG 1) (rdV v9)) fun v11 => (cLet (o2 bNeq (rdV v11) (rdV (.n .i64 0))) fun v12 => (cSeq (cCond (rdV v12) (cWr X2 (.o .ptr) (cWr X3 v11 cRet)) cSkip) (cLet (m1 (O.ln 69) (rdV v2)) fun v13 => (cLet (nL (O.bu [.n .u32 0, .o .sl] [(.int .u32 0), .nilsl] []) []) fun v14 => (cLet (n1 (O.bx 184) (rdV v14)) fun v15 => (cLet (nL (O.bu ([.n .u32 0, .n .u32 0] ++ y8 ++ (y8 ++ [.n .u32 0, .n .i64 0, .n .i64 0, .o .ptr, .o .ptr, .b false])) ([(.int .u32 0), (.int .u32 0)] ++ x8 ++ (x8 ++ [(.int .u32 0), (.int .i64 0), (.int .i64 0), .nilptr, .nilptr, (.bool false)])) [(0, 69), (69, 1), (70, 1)]) [(rdV v13), (rdV v10), (rdV v15)]) fun v16 => (cLet (n1 (O.bx 186) (rdV v16)) fun v17 => (cWr X2 v17 (cWr X3 (.n .i64 0) cRet))))))))))))))))))))) [vT R2, vT R3]))
def p29 (O : Ops) : Phi → HF := fnQ (aLet fun v1 => (aLet fun v2 => (aLet fun v3 => (aEnd (cWr X6 (.o .ptr) (cWr X7 (.n .i64 0) (cLet (o2 bLss (rdV v1) (rdV (.n .i64 0))) fun v4 => (cLet (oG false (rdV v4) (oV (rdV v1))) fun v5 => (cLet (oG false (rdV v4) (o2 bGtr (rdV v5) (rdV (.n .i64 1)))) fun v6 => (cLet (o3 pkF (rdV v4) (rdV (.b true)) (rdV v6)) fun v7 => (cLet (oG false (rdV v7) (oV (rdV v2))) fun v8 => (cLet (oG false (rdV v7) (oCallS 64 [(rdV v8)])) fun v9 => (cLet (oG false (rdV v7) (o1 notF (rdV v9))) fun v10 => (cLet (o3 pkF (rdV v7) (rdV (.b true)) (rdV v10)) fun v11 => (cSeq (cCond (rdV v11) (cWr X6 (.o .ptr) (cWr X7 (.n .i64 1) cRet)) cSkip) (cLet (nL (O.bu [.n .i64 0, .o .ptr, .n .i64 0, .n .i64 0, .n .i64 0, .n .i64 0, .n .i64 0, .n .i64 0, .n .i64 0, .n .i64 0, .n .i64 0, .n .i64 0, .n .i64 0, .n .i64 0, .n .i64 0, .n .i64 0, .n .i64 0, .n .i64 0, .n .i64 0, .n .i64 0, .n .i64 0, .n .i64 0, .n .i64 0, .n .i64 0, .n .i64 0, .n .i64 0, .n .i64 0, .n .i64 0, .n .i64 0, .n .i64 0, .n .i64 0, .n .i64 0, .n .i64 0, .n .i64 0, .n .i64 0, .n .i64 0, .n .i64 0, .o .sl, .o .sl, .o .sl, .o .sl, .o .sl, .o .sl, .o .sl, .n .i64 0, .b false] [(.int .i64 0), .nilptr, (.int .i64 0), (.int .i64 0), (.int .i64 0), (.int .i64 0), (.int .i64 0), (.int .i64 0), (.int .i64 0), (.int .i64 0), (.int .i64 0), (.int .i64 0), (.int .i64 0), (.int .i64 0), (.int .i64 0), (.int .i64 0), (.int .i64 0), (.int .i64 0), (.int .i64 0), (.int .i64 0), (.int .i64 0), (.int .i64 0), (.int .i64 0), (.int .i64 0), (.int .i64 0), (.int .i64 0), (.int .i64 0), (.int .i64 0), (.int .i64 0), (.int .i64 0), (.int .i64 0), (.int .i64 0), (.int .i64 0), (.int .i64 0), (.int .i64 0), (.int .i64 0), (.int .i64 0), .nilsl, .nilsl, .nilsl, .nilsl, .nilsl, .nilsl, .nilsl, (.int .i64 0), (.bool false)] [(0, 1), (1, 1), (44, 1)]) [(rdV v1), (rdV v3), (rdV (.z .i64 0))]) fun v12 => (cLet (n1 (O.bx 195) (rdV v12)) fun v13 => (cWr X9 (.n .i64 0) (cSeq (cBlk 0 (cLoop 1000000 (cLet (oV R9) fun v14 => (cLet (o2 bLss (rdV v14) (rdV (.n .i64 5))) fun v15 => (cSeq (cCond (rdV v15) cSkip (cExit 0)) (cSeq (cBlk 1 (cLet (oV R9) fun v16 => (cLet (nL (O.bu [.n .i64 0, .n .i64 0, .n .i64 0] [(.int .i64 0), (.int .i64 0), (.int .i64 0)] [(0, 1), (1, 1)]) [(rdV v2), (rdV v2)]) fun v17 => (cLet (o1 ncF (rdV v13)) fun v18 => (cLet (o1 (faF 2) (rdV v18)) fun v19 => (cLet (o2 (iaF 5 3) (rdV v19) (rdV v16)) fun v20 => (cDo (n2 (O.st 3) (rdV v20) (rdV v17)) (cLet (oV R9) fun v21 => (cLet (nL (O.bu [.n .i64 0, .n .i64 0, .n .i64 0, .n .i64 0] [(.int .i64 0), (.int .i64 0), (.int .i64 0), (.int .i64 0)] [(0, 1), (1, 1)]) [(rdV v2), (rdV v2)]) fun v22 => (cLet (o1 ncF (rdV v13)) fun v23 => (cLet (o1 (faF 17) (rdV v23)) fun v24 => (cLet (o2 (iaF 5 4) (rdV v24) (rdV v21)) fun v25 => (cDo (n2 (O.st 4) (rdV v25) (rdV v22)) cSkip))))))))))))) (cLet (oV R9) fun v26 => (cLet (o2 bAdd (rdV v26) (rdV (.n .i64 1))) fun v27 => (cWr X9 v27 cSkip))))))))) (cWr X6 v13 (cWr X7 (.n .i64 0) cRet))))))))))))))))) [vT R6, vT R7]))))
def p58 (O : Ops) : Phi → HF := fnQ (aLet fun v1 => (aLet fun v2 => (aLet fun v3 => (aEnd (cWr X6 (.o .ptr) (cWr X7 (.n .i64 0) (cLet (oCallS 103 [(rdV v1)]) fun v4 => (cLet (o1 (exG 0) (rdV v4)) fun v5 => (cLet (o1 (exG 1) (rdV v4)) fun v6 => (cLet (o2 bNeq (rdV v6) (rdV (.n .i64 0))) fun v7 => (cLet (oG false (rdV v7) (oV (rdV v2))) fun v8 => (cLet (oG false (rdV v7) (o2 bLss (rdV v8) (rdV (.n .i64 1)))) fun v9 => (cLet (o3 pkF (rdV v7) (rdV (.b true)) (rdV v9)) fun v10 => (cLet (oG false (rdV v10) (oV (rdV v2))) fun v11 => (cLet (oG false (rdV v10) (oV (rdV v3))) fun v12 => (cLet (oG false (rdV v10) (o2 bGtr (rdV v11) (rdV v12))) fun v13 => (cLet (o3 pkF (rdV v10) (rdV (.b true)) (rdV v13)) fun v14 => (cLet (oG false (rdV v14) (oV (rdV v3))) fun v15 => (cLet (oG false (rdV v14) (o2 bGtr (rdV v15) (rdV (.n .i64 1099511627776)))) fun v16 => (cLet (o3 pkF (rdV v14) (rdV (.b true)) (rdV v16)) fun v17 => (cSeq (cCond (rdV v17) (cWr X6 (.o .ptr) (cWr X7 (.n .i64 1) cRet)) cSkip) (cLet (nL mmQ []) fun v18 => (cLet (nL (O.bu [.o .ptr, .n .i64 0, .n .i64 0, .o .map] [.nilptr, (.int .i64 0), (.int .i64 0), .nilmap] [(0, 1), (1, 1), (2, 1), (3, 1)]) [(rdV v5), (rdV v2), (rdV v3), (rdV v18)]) fun v19 => (cLet (n1 (O.bx 242) (rdV v19)) fun v20 => (cWr X6 v20 (cWr X7 (.n .i64 0) cRet)))))))))))))))))))))) [vT R6, vT R7]))))
def p59 (O : Ops) : Phi → HF := fnQ (aEnd (cWr X0 (.o .ptr) (cLet (nL mmQ []) fun v1 => (cLet (nL (O.bu [.n .u32 0, .o .map] [(.int .u32 0), .nilmap] [(1, 1)]) [(rdV v1)]) fun v2 => (cLet (n1 (O.bx 245) (rdV v2)) fun v3 => (cWr X0 v3 cRet))))) [vT R0])
def p60 (O : Ops) : Phi → HF := fnQ (aLet fun v1 => (aEnd (cWr X2 (.o .ptr) (cWr X3 (.n .i64 0) (cLet (oCallS 104 [(rdV v1)]) fun v2 => (cLet (o1 (exG 0) (rdV v2)) fun v3 => (cLet (o1 (exG 1) (rdV v2)) fun v4 => (cLet (n0O O.al (.ints .u64 [Int.ofNat 0, Int.ofNat 0] 247 .exact)) fun v5 => (cDo (n2 (O.st 2) (rdV v5) (rdV v3)) (cLet (o1 notF (rdV v4)) fun v6 => (cSeq (cCond (rdV v6) (cWr X2 (.o .ptr) (cWr X3 (.n .i64 1) cRet)) cSkip) (cLet (m1 (O.ln 2) (rdV v5)) fun v7 => (cLet (nL (O.bu [.n .u64 0, .n .u64 0, .n .u64 0] [(.int .u64 0), (.int .u64 0), (.int .u64 0)] [(0, 2)]) [(rdV v7)]) fun v8 => (cLet (n1 (O.bx 251) (rdV v8)) fun v9 => (cWr X2 v9 (cWr X3 (.n .i64 0) cRet)))))))))))))) [vT R2, vT R3]))
def p61 (O : Ops) : Phi → HF := fnQ (aLet fun v1 => (aEnd (cWr X2 (.o .ptr) (cWr X3 (.n .i64 0) (cLet (oCallS 104 [(rdV v1)]) fun v2 => (cLet (o1 (exG 0) (rdV v2)) fun v3 => (cLet (o1 (exG 1) (rdV v2)) fun v4 => (cLet (n0O O.al (.ints .u64 [Int.ofNat 0, Int.ofNat 0] 247 .exact)) fun v5 => (cDo (n2 (O.st 2) (rdV v5) (rdV v3)) (cLet (o1 notF (rdV v4)) fun v6 => (cSeq (cCond (rdV v6) (cWr X2 (.o .ptr) (cWr X3 (.n .i64 1) cRet)) cSkip) (cLet (m1 (O.ln 2) (rdV v5)) fun v7 => (cLet (nL (O.bu [.n .u64 0, .n .u64 0, .n .u64 0, .n .u64 0] [(.int .u64 0), (.int .u64 0), (.int .u64 0), (.int .u64 0)] [(0, 2)]) [(rdV v7)]) fun v8 => (cLet (n1 (O.bx 253) (rdV v8)) fun v9 => (cWr X2 v9 (cWr X3 (.n .i64 0) cRet)))))))))))))) [vT R2, vT R3]))
def p62 (O : Ops) : Phi → HF := fnQ (aLet fun v1 => (aEnd (cWr X2 (.o .ptr) (cLet (oCallS 105 [(rdV v1)]) fun v2 => (cSeq (cCond (rdV v2) (cWr X2 (.o .ptr) cRet) cSkip) (cLet (o1 ncF (rdV v1)) fun v3 => (cLet (o1 (faF 0) (rdV v3)) fun v4 => (cLet (m1 (O.ln 69) (rdV v4)) fun v5 => (cLet (o1 ncF (rdV v1)) fun v6 => (cLet (o1 (faF 69) (rdV v6)) fun v7 => (cLet (m1 O.ld (rdV v7)) fun v8 => (cLet (o1 ncF (rdV v1)) fun v9 => (cLet (o1 (faF 70) (rdV v9)) fun v10 => (cLet (m1 O.ld (rdV v10)) fun v11 => (cLet (o1 ncF (rdV v1)) fun v12 => (cLet (o1 (faF 71) (rdV v12)) fun v13 => (cLet (m1 O.ld (rdV v13)) fun v14 => (cLet (oCallS 106 [(rdV v8)]) fun v15 => (cRckO O.rc (m1 (O.ln 69) (rdV v4)) v5 (cRckO O.rc (m1 O.ld (rdV v10)) v11 (cRckO O.rc (m1 O.ld (rdV v13)) v14 (cLet (oCallS 107 [(rdV v11)]) fun v16 => (cRckO O.rc (m1 (O.ln 69) (rdV v4)) v5 (cRckO O.rc (m1 O.ld (rdV v13)) v14 (cLet (nL (O.bu ([.n .u32 0, .n .u32 0] ++ y8 ++ (y8 ++ [.n .u32 0, .n .i64 0, .n .i64 0, .o .ptr, .o .ptr, .b false])) ([(.int .u32 0), (.int .u32 0)] ++ x8 ++ (x8 ++ [(.int .u32 0), (.int .i64 0), (.int .i64 0), .nilptr, .nilptr, (.bool false)])) [(0, 69), (69, 1), (70, 1), (71, 1)]) [(rdV v5), (rdV v15), (rdV v16), (rdV v14)]) fun v17 => (cLet (n1 (O.bx 164) (rdV v17)) fun v18 => (cWr X2 v18 cRet))))))))))))))))))))))))) [vT R2]))
def p63 (O : Ops) : Phi → HF := fnQ (aLet fun v1 => (aLet fun v2 => (aLet fun v3 => (aEnd (cWr X6 (.o .ptr) (cWr X7 (.n .i64 0) (cLet (oCallS 108 [(rdV v1)]) fun v4 => (cLet (o1 (exG 0) (rdV v4)) fun v5 => (cLet (o1 (exG 1) (rdV v4)) fun v6 => (cLet (o2 bNeq (rdV v6) (rdV (.n .i64 0))) fun v7 => (cLet (oG false (rdV v7) (oV (rdV v2))) fun v8 => (cLet (oG false (rdV v7) (o2 bLss (rdV v8) (rdV (.n .i64 1)))) fun v9 => (cLet (o3 pkF (rdV v7) (rdV (.b true)) (rdV v9)) fun v10 => (cLet (oG false (rdV v10) (oV (rdV v2))) fun v11 => (cLet (oG false (rdV v10) (oV (rdV v3))) fun v12 => (cLet (oG false (rdV v10) (o2 bGtr (rdV v11) (rdV v12))) fun v13 => (cLet (o3 pkF (rdV v10) (rdV (.b true)) (rdV v13)) fun v14 => (cLet (oG false (rdV v14) (oV (rdV v3))) fun v15 => (cLet (oG false (rdV v14) (o2 bGtr (rdV v15) (rdV (.n .i64 1099511627776)))) fun v16 => (cLet (o3 pkF (rdV v14) (rdV (.b true)) (rdV v16)) fun v17 => (cSeq (cCond (rdV v17) (cWr X6 (.o .ptr) (cWr X7 (.n .i64 1) cRet)) cSkip) (cLet (nL (O.bu [.o .ptr, .n .i64 0, .n .i64 0, .o .sl] [.nilptr, (.int .i64 0), (.int .i64 0), .nilsl] [(0, 1), (1, 1), (2, 1)]) [(rdV v5), (rdV v2), (rdV v3)]) fun v18 => (cLet (n1 (O.bx 260) (rdV v18)) fun v19 => (cWr X6 v19 (cWr X7 (.n .i64 0) cRet))))))))))))))))))))) [vT R6, vT R7]))))
def p64 (O : Ops) : Phi → HF := fnQ (aLet fun v1 => (aEnd (cWr X2 (.b false) (cLet (o2 bGeq (rdV v1) (rdV (.n .i64 1))) fun v2 => (cLet (oG true (rdV v2) (oV (rdV v1))) fun v3 => (cLet (oG true (rdV v2) (o2 bLeq (rdV v3) (rdV (.n .i64 8192)))) fun v4 => (cLet (o3 pkF (rdV v2) (rdV v4) (rdV (.b false))) fun v5 => (cWr X2 v5 cRet)))))) [vT R2]))
def p103 (O : Ops) : Phi → HF := fnQ (aLet fun v1 => (aEnd (cWr X2 (.o .ptr) (cWr X3 (.n .i64 0) (cLet (o2 bLss (rdV v1) (rdV (.n .u32 1))) fun v2 => (cLet (oG false (rdV v2) (oV (rdV v1))) fun v3 => (cLet (oG false (rdV v2) (o2 bGtr (rdV v3) (rdV (.n .u32 2147483648)))) fun v4 => (cLet (o3 pkF (rdV v2) (rdV (.b true)) (rdV v4)) fun v5 => (cSeq (cCond (rdV v5) (cWr X2 (.o .ptr) (cWr X3 (.n .i64 1) cRet)) cSkip) (cLet (nL (O.bu [.n .u32 0, .n .u32 0] [(.int .u32 0), (.int .u32 0)] [(1, 1)]) [(rdV v1)]) fun v6 => (cLet (n1 (O.bx 288) (rdV v6)) fun v7 => (cWr X2 v7 (cWr X3 (.n .i64 0) cRet))))))))))) [vT R2, vT R3]))
def p104 (O : Ops) : Phi → HF := fnQ (aLet fun v1 => (aEnd (cLetW (n0O O.al (.ints .u64 [Int.ofNat 0, Int.ofNat 0] 247 .exact)) X2 fun v2 => (cWr X3 (.b false) (cLet (o2 bLss (rdV v1) (rdV (.n .i64 1))) fun v3 => (cLet (oG false (rdV v3) (oV (rdV v1))) fun v4 => (cLet (oG false (rdV v3) (o2 bGtr (rdV v4) (rdV (.n .i64 8192)))) fun v5 => (cLet (o3 pkF (rdV v3) (rdV (.b true)) (rdV v5)) fun v6 => (cSeq (cCond (rdV v6) (cLet (nL (O.bu [.n .u64 0, .n .u64 0] [(.int .u64 0), (.int .u64 0)] []) []) fun v7 => (cDo (n2 (O.st 2) (rdV v2) (rdV v7)) (cWr X3 (.b false) cRet))) cSkip) (cLet (o1 (cvF .u64) (rdV v1)) fun v8 => (cLet (o1 (cvF .u64) (rdV v1)) fun v9 => (cLet (nL (O.bu [.n .u64 0, .n .u64 0] [(.int .u64 0), (.int .u64 0)] [(0, 1), (1, 1)]) [(rdV v8), (rdV v9)]) fun v10 => (cDo (n2 (O.st 2) (rdV v2) (rdV v10)) (cWr X3 (.b true) cRet)))))))))))) [vN 2 R2, vT R3]))
def p105 (O : Ops) : Phi → HF := fnQ (aLet fun v1 => (aEnd (cWr X2 (.b false) (cLet (o2 (eqQ1 false .ptr) (rdV v1) (rdV (.o .ptr))) fun v2 => (cLet (oG false (rdV v2) (oV (rdV v1))) fun v3 => (cLet (oG false (rdV v2) (o1 ncF (rdV v3))) fun v4 => (cLet (oG false (rdV v2) (o1 (faF 69) (rdV v4))) fun v5 => (cLet (oG false (rdV v2) (m1 O.ld (rdV v5))) fun v6 => (cLet (oG false (rdV v2) (o2 (eqQ1 false .ptr) (rdV v6) (rdV (.o .ptr)))) fun v7 => (cLet (o3 pkF (rdV v2) (rdV (.b true)) (rdV v7)) fun v8 => (cWr X2 v8 cRet))))))))) [vT R2]))
def p106 (O : Ops) : Phi → HF := fnQ (aLet fun v1 => (aEnd (cWr X2 (.o .ptr) (cLet (oCallS 139 [(rdV v1)]) fun v2 => (cSeq (cCond (rdV v2) (cWr X2 (.o .ptr) cRet) cSkip) (cLet (o1 ncF (rdV v1)) fun v3 => (cLet (o1 (faF 0) (rdV v3)) fun v4 => (cLet (m1 O.ld (rdV v4)) fun v5 => (cLet (o1 ncF (rdV v5)) fun v6 => (cLet (m1 (O.ln 2) (rdV v6)) fun v7 => (cLet (n0O O.al (.ints .u32 [Int.ofNat 0, Int.ofNat 0] 288 .exact)) fun v8 => (cDo (n2 (O.st 2) (rdV v8) (rdV v7)) (cLet (o1 ncF (rdV v1)) fun v9 => (cLet (o1 (faF 1) (rdV v9)) fun v10 => (cLet (m1 O.ld (rdV v10)) fun v11 => (cLet (o1 ncF (rdV v1)) fun v12 => (cLet (o1 (faF 2) (rdV v12)) fun v13 => (cLet (m1 O.ld (rdV v13)) fun v14 => (cLet (o1 ncF (rdV v1)) fun v15 => (cLet (o1 (faF 3) (rdV v15)) fun v16 => (cLet (m1 O.ld (rdV v16)) fun v17 => (cLet (oCallS 140 [(rdV v17)]) fun v18 => (cRckO O.rc (m1 O.ld (rdV v10)) v11 (cRckO O.rc (m1 O.ld (rdV v13)) v14 (cLet (nL (O.bu [.o .ptr, .n .i64 0, .n .i64 0, .o .map] [.nilptr, (.int .i64 0), (.int .i64 0), .nilmap] [(0, 1), (1, 1), (2, 1), (3, 1)]) [(rdV v8), (rdV v11), (rdV v14), (rdV v18)]) fun v19 => (cLet (n1 (O.bx 242) (rdV v19)) fun v20 => (cWr X2 v20 cRet))))))))))))))))))))))))) [vT R2]))
def p107 (O : Ops) : Phi → HF := fnQ (aLet fun v1 => (aEnd (cWr X2 (.o .ptr) (cLet (oCallS 141 [(rdV v1)]) fun v2 => (cSeq (cCond (rdV v2) (cWr X2 (.o .ptr) cRet) cSkip) (cLet (o1 ncF (rdV v1)) fun v3 => (cLet (o1 (faF 0) (rdV v3)) fun v4 => (cLet (m1 O.ld (rdV v4)) fun v5 => (cLet (o1 ncF (rdV v1)) fun v6 => (cLet (o1 (faF 1) (rdV v6)) fun v7 => (cLet (m1 O.ld (rdV v7)) fun v8 => (cLet (oCallS 142 [(rdV v8)]) fun v9 => (cRckO O.rc (m1 O.ld (rdV v4)) v5 (cLet (nL (O.bu [.n .u32 0, .o .map] [(.int .u32 0), .nilmap] [(0, 1), (1, 1)]) [(rdV v5), (rdV v9)]) fun v10 => (cLet (n1 (O.bx 245) (rdV v10)) fun v11 => (cWr X2 v11 cRet)))))))))))))) [vT R2]))
def p108 (O : Ops) : Phi → HF := fnQ (aLet fun v1 => (aEnd (cWr X2 (.o .ptr) (cWr X3 (.n .i64 0) (cLet (o2 bEql (rdV v1) (rdV (.n .u32 0))) fun v2 => (cLet (oG false (rdV v2) (oV (rdV v1))) fun v3 => (cLet (oG false (rdV v2) (o2 bGtr (rdV v3) (rdV (.n .u32 2147483648)))) fun v4 => (cLet (o3 pkF (rdV v2) (rdV (.b true)) (rdV v4)) fun v5 => (cSeq (cCond (rdV v5) (cWr X2 (.o .ptr) (cWr X3 (.n .i64 1) cRet)) cSkip) (cLet (nL (O.bu [.n .u32 0, .n .u32 0] [(.int .u32 0), (.int .u32 0)] [(1, 1)]) [(rdV v1)]) fun v6 => (cLet (n1 (O.bx 294) (rdV v6)) fun v7 => (cWr X2 v7 (cWr X3 (.n .i64 0) cRet))))))))))) [vT R2, vT R3]))
def p139 (O : Ops) : Phi → HF := fnQ (aLet fun v1 => (aEnd (cWr X2 (.b false) (cLet (o2 (eqQ1 false .ptr) (rdV v1) (rdV (.o .ptr))) fun v2 => (cLet (oG false (rdV v2) (oV (rdV v1))) fun v3 => (cLet (oG false (rdV v2) (o1 ncF (rdV v3))) fun v4 => (cLet (oG false (rdV v2) (o1 (faF 3) (rdV v4))) fun v5 => (cLet (oG false (rdV v2) (m1 O.ld (rdV v5))) fun v6 => (cLet (oG false (rdV v2) (o2 (eqQ1 false .map) (rdV v6) (rdV (.o .map)))) fun v7 => (cLet (o3 pkF (rdV v2) (rdV (.b true)) (rdV v7)) fun v8 => (cWr X2 v8 cRet))))))))) [vT R2]))
def p141 (O : Ops) : Phi → HF := fnQ (aLet fun v1 => (aEnd (cWr X2 (.b false) (cLet (o2 (eqQ1 false .ptr) (rdV v1) (rdV (.o .ptr))) fun v2 => (cLet (oG false (rdV v2) (oV (rdV v1))) fun v3 => (cLet (oG false (rdV v2) (o1 ncF (rdV v3))) fun v4 => (cLet (oG false (rdV v2) (o1 (faF 1) (rdV v4))) fun v5 => (cLet (oG false (rdV v2) (m1 O.ld (rdV v5))) fun v6 => (cLet (oG false (rdV v2) (o2 (eqQ1 false .map) (rdV v6) (rdV (.o .map)))) fun v7 => (cLet (o3 pkF (rdV v2) (rdV (.b true)) (rdV v7)) fun v8 => (cWr X2 v8 cRet))))))))) [vT R2]))
end
end Go.Proofs.YtcbfjmjphpoimaaGreatDoor.V2
namespace Go.Proofs.YtcbfjmjphpoimaaGreatDoor.V2
open Go
mutual
def nt : AV → Bool
  | .top => false
  | .fn _ xs ys => nts xs && nts ys
  | .ifc _ v => nt v
  | .agg l => nts l
  | .tup l => nts l
  | _ => true
def nts : List AV → Bool
  | [] => true
  | a :: l => nt a && nts l
end
mutual
theorem same_self : ∀ a : AV, nt a = true → same std a a = true
  | .top, h => by cases h
  | .fn f xs ys, h => by
    simp only [nt, Bool.and_eq_true] at h
    simp [same, sames_self xs h.1, sames_self ys h.2]
  | .ifc t v, h => by
    simp only [nt] at h
    simp [same, same_self v h]
  | .agg l, h => by
    simp only [nt] at h
    simp [same, sames_self l h]
  | .tup l, h => by
    simp only [nt] at h
    simp [same, sames_self l h]
  | .bool b, _ => by simp [same]
  | .int k n, _ => by simp [same, std]
  | .str l, _ => by simp [same, std]
  | .ptr b o, _ => by simp [same, std]
  | .nilptr, _ => rfl
  | .sl b o n k e z, _ => by simp [same, std]
  | .nilsl, _ => rfl
  | .map b, _ => by simp [same]
  | .nilmap, _ => rfl
  | .yld b, _ => by simp [same]
  | .nilfn, _ => rfl
  | .nilifc, _ => rfl
  | .ints k l, _ => by simp [same, std]
theorem sames_self : ∀ l : List AV, nts l = true → sames std l l = true
  | [], _ => rfl
  | a :: l, h => by
    simp only [nts, Bool.and_eq_true] at h
    simp [sames, same_self a h.1, sames_self l h.2]
end
theorem eqQ_self {v : FV} {r P : FR} (h : nt (αV v) = true) (hr : r = P) : eqQ v v r = P := by
  unfold eqQ
  rw [same_self _ h]
  exact hr
theorem atFn {Φ : Phi} {f : FuncId} {l : List FV} {σ : FH} {k : KV} {P : FR} (h : Phi.fn Φ f l σ k = P) : Phi.fn Φ f l σ k = P := h
theorem atBu {O : Ops} {a : List FV} {b : List AV} {s : List (Nat × Nat)} {l : List FV} {σ : FH} {k : KV} {P : FR} (h : O.bu a b s l σ k = P) : O.bu a b s l σ k = P := h
theorem atB {x y : FR} {b : Bool} {P : FR} (h : (Bool.rec x y b : FR) = P) : (Bool.rec x y b : FR) = P := h
theorem gM_amP {n : Nat} {m : T FObj} {b : Nat} {o : FObj} {f : FObj → FR} {P : FR} (h : Am m b o) (hk : f o = P) : gM ⟨n, m⟩ b f = P := (gM_am h).trans hk
theorem kp_am {n : Nat} {m m' : T FObj} {b : Nat} {o : FObj} (h : Kp n m m') (hb : b < n) (ha : Am m b o) : Am m' b o := h b o hb ha
theorem agF_cells {l : List FV} (h : βV (aggOf (αL l)) = .agg l) (c : FV → FR) : agF l c = c (.agg l) := by
  cases l with
  | nil => rfl
  | cons v t =>
    cases v
    case n k m =>
      show (Bool.rec (c (.agg (.n k m :: t))) (fV (βV (aggOf (αL (.n k m :: t)))) c) (allI t) : FR) = _
      cases allI t
      · rfl
      · show fV (βV (aggOf (αL (.n k m :: t)))) c = _
        rw [h, fV_eq]
    case z k m =>
      show (Bool.rec (c (.agg (.z k m :: t))) (fV (βV (aggOf (αL (.z k m :: t)))) c) (allI t) : FR) = _
      cases allI t
      · rfl
      · show fV (βV (aggOf (αL (.z k m :: t)))) c = _
        rw [h, fV_eq]
    case o j => cases j <;> rfl
    all_goals rfl
theorem bx_cells {O : Ops} (hO : O = stdO) {e : TypeId} {l : List FV} {n : Nat} {m : T FObj} {k : KV} {P : FR} (hn : n < 1000000) (hb : βO (AObj.of (αL l) e .exact) = .cells l e .exact) (h : k (.p n 0) ⟨n + 1, mp m n (.cells l e .exact)⟩ = P) : O.bx e (.agg l) ⟨n, m⟩ k = P := by
  subst hO
  show fO (βO (AObj.of (αL l) e .exact)) (fun o => nM ⟨n, m⟩ o fun b σ => k (.p b 0) σ) = P
  rw [fO_eq, hb, nM_mp hn]
  exact h
theorem ln_all {O : Ops} (hO : O = stdO) {N b : Nat} {l : List FV} {e : TypeId} {t : Tl} {n : Nat} {m : T FObj} {c : FV → FR} {P : FR} (ha : Am m b (.cells l e t)) (hl : l.length = N) (hN : Nat.ble 1 N = true) (hg : βV (aggOf (αL l)) = .agg l) (h : c (.agg l) = P) : O.ln N (.p b 0) ⟨n, m⟩ c = P := by
  subst hO
  show (gM ⟨n, m⟩ b fun ob => FObj.rec (motive := fun _ => FR) .bad (fun l _ _ => dropK 0 l fun l => takeK N l fun l => lenK l 0 fun m => Bool.rec .bad (agF l c) (Nat.beq m N && Nat.ble 1 N)) (fun s _ _ => Bool.rec .bad (fN (bpart s 0 N) fun m => c (.bs m)) (Nat.ble (Nat.add 0 N) (bl s))) (fun k l e t => slV ((αO (.ints k l e t)).readOk std 0 N, (αO (.ints k l e t)).read std 0 N) c) (fun _ => .bad) .bad ob) = P
  rw [gM_am ha]
  show (dropK 0 l fun l => takeK N l fun l => lenK l 0 fun m => (Bool.rec .bad (agF l c) (Nat.beq m N && Nat.ble 1 N) : FR)) = P
  rw [dropK_eq, takeK_eq, lenK_eq, List.drop_zero, ← hl, List.take_length, Nat.zero_add, hl, hN, Nat.beq_refl]
  show agF l c = P
  rw [agF_cells hg]
  exact h
theorem bu_eq {O : Ops} (hO : O = stdO) {a : List FV} {b : List AV} {s : List (Nat × Nat)} {l : List FV} {σ : FH} {k : KV} {P : FR} (r : List FV) (h1 : ∀ g q, bdQ a s l g q = g r) (hg : βV (aggOf (αL r)) = .agg r) (h : k (.agg r) σ = P) : O.bu a b s l σ k = P := by
  subst hO
  show bdQ a s l (fun cs => agF cs fun v => k v σ) _ = P
  rw [h1, agF_cells hg]
  exact h
def winO (f t : Int) : Prop := 1 ≤ f ∧ f ≤ t ∧ t ≤ 1099511627776
def seqO (l : Nat) : Prop := 1 ≤ l ∧ l ≤ 2147483648
def creO (c : Int) : Prop := 1 ≤ c ∧ c ≤ 8192
def patO (c : Int) : Prop := 1 ≤ c ∧ c ≤ 1099511627776
end Go.Proofs.YtcbfjmjphpoimaaGreatDoor.V2
namespace Go.Proofs.YtcbfjmjphpoimaaGreatDoor.V2
open Go
set_option maxRecDepth 100000
set_option maxHeartbeats 4000000
attribute [local irreducible] fN fO nM gM pM Phi.fn mp bl bpart bapp top1 eqQ
def MayS (H : HF) : Prop := ∀ (b o L K : Nat) (e : Bool) (n : Nat) (m : T FObj) (k : KV) (P : FR), (1 ≤ L → L ≤ 64 → k (.b true) ⟨n, m⟩ = P) → ((L < 1 ∨ 64 < L) → k (.b false) ⟨n, m⟩ = P) → H [.sl b o L K e 1] ⟨n, m⟩ k = P
theorem may_s {O : Ops} (_hO : O = stdO) (Φ : Phi) : MayS (p24 O Φ) := fun b o L K e n m k P h1 h0 => by
  repeat' ((conv => lhs; whnf); first | ((with_reducible refine atB ?_); refine brecB (fun h => ?_) (fun h => ?_)))
  all_goals (conv => lhs; whnf)
  all_goals first
    | exact h1 (by omega) (by omega)
    | exact h0 (by omega)
def CloneS (H : HF) : Prop := ∀ (b o p K c : Nat) (e : Bool) (t : TypeId) (tl : Tl) (n : Nat) (m : T FObj) (k : KV) (P : FR), n + 2 ≤ 1000000 → b < n → Am m b (.bs c t tl) → o + (p + 1) ≤ bl c → p < 1000 →
  (∀ b' n' m', n ≤ n' → n' ≤ n + 2 → Kp n m m' → k (.sl b' 0 (p + 1) (p + 1) false 1) ⟨n', m'⟩ = P) → H [.sl b o (p + 1) K e 1] ⟨n, m⟩ k = P
theorem slc_s {O : Ops} (hO : O = stdO) (Φ : Phi) : CloneS (p25 O Φ) := fun b o p K c e t tl n m k P hn hb ha hl hp h => by
  repeat' ((conv => lhs; whnf); first | (with_reducible refine apO hO ?_) | (with_reducible refine bsO hO ?_) | (with_reducible refine (fN_eq _ _).trans ?_) | (with_reducible refine (nM_mp (by omega)).trans ?_) | (((with_reducible apply gM_amP); · repeat (first | assumption | exact am_same (by omega) | apply am_ne (by omega) (by omega) | apply kp_am (by assumption) (by omega)))) | ((with_reducible refine atB ?_); refine brecBT (by simp only [Nat.add_eq, Nat.mul_eq, Nat.succ_eq_add_one]; omega) ?_))
  all_goals (conv => lhs; whnf)
  all_goals (simp only [Nat.zero_add, Nat.add_eq, Nat.succ_eq_add_one]; exact h _ _ _ (by omega) (by omega) (by repeat (first | assumption | exact Kp.refl _ _ | refine Kp.mp ?_ (by omega) (by omega) | refine Kp.trans ?_ (by assumption) (by omega))))
theorem byc_s {O : Ops} (hO : O = stdO) (Φ : Phi) : CloneS (p9 O Φ) := fun b o p K c e t tl n m k P hn hb ha hl hp h => by
  repeat' ((conv => lhs; whnf); first | (with_reducible refine apO hO ?_) | (with_reducible refine bsO hO ?_) | (with_reducible refine (fN_eq _ _).trans ?_) | (with_reducible refine (nM_mp (by omega)).trans ?_) | (((with_reducible apply gM_amP); · repeat (first | assumption | exact am_same (by omega) | apply am_ne (by omega) (by omega) | apply kp_am (by assumption) (by omega)))) | ((with_reducible refine atB ?_); refine brecBT (by simp only [Nat.add_eq, Nat.mul_eq, Nat.succ_eq_add_one]; omega) ?_))
  all_goals (conv => lhs; whnf)
  all_goals (simp only [Nat.zero_add, Nat.add_eq, Nat.succ_eq_add_one]; exact h _ _ _ (by omega) (by omega) (by repeat (first | assumption | exact Kp.refl _ _ | refine Kp.mp ?_ (by omega) (by omega) | refine Kp.trans ?_ (by assumption) (by omega))))
def SealNewS (H : HF) : Prop := ∀ (b o L K c : Nat) (e : Bool) (t : TypeId) (tl : Tl) (n : Nat) (m : T FObj) (k : KV) (P : FR), n + 4 ≤ 1000000 → b < n → Am m b (.bs c t tl) → o + L ≤ bl c →
  (1 ≤ L → L ≤ 64 → (∀ b' n' m', n ≤ n' → n' ≤ n + 4 → Kp n m m' → k (.tup [.p b' 0, .n .i64 0]) ⟨n', m'⟩ = P)) → ((L < 1 ∨ 64 < L) → (∀ n' m', n ≤ n' → n' ≤ n + 4 → Kp n m m' → k (.tup [.o .ptr, .n .i64 1]) ⟨n', m'⟩ = P)) → H [.sl b o L K e 1] ⟨n, m⟩ k = P
theorem sealNew_s {O : Ops} (hO : O = stdO) (Φ : Phi) (H1 : MayS (Phi.fn Φ 24)) (H2 : CloneS (Phi.fn Φ 25)) : SealNewS (p7 O Φ) := fun b o L K c e t tl n m k P hn hb ha hl h1 h0 => by
  cases L with
  | zero =>
    repeat' ((conv => lhs; whnf); first | ((with_reducible refine atFn ?_); refine H1 _ _ _ _ _ _ _ _ _ (fun h _ => absurd h (by omega)) (fun h => ?_)))
    all_goals (conv => lhs; whnf)
    all_goals first | exact h0 (by omega) _ _ (by omega) (by omega) (by repeat (first | assumption | exact Kp.refl _ _ | refine Kp.mp ?_ (by omega) (by omega) | refine Kp.trans ?_ (by assumption) (by omega))) | (exfalso; omega)
  | succ p =>
    repeat' ((conv => lhs; whnf); first | (with_reducible refine bxO' hO ?_) | (with_reducible refine buO hO ?_) | (with_reducible refine (nM_mp (by omega)).trans ?_) | (with_reducible refine (fO_eq _ _).trans ?_) | ((with_reducible refine atFn ?_); first | refine H1 _ _ _ _ _ _ _ _ _ (fun h g => ?_) (fun h => ?_) | refine H2 _ _ _ _ _ _ _ _ _ _ _ _ (by omega) (by omega) (by repeat (first | assumption | exact am_same (by omega) | apply am_ne (by omega) (by omega) | apply kp_am (by assumption) (by omega))) (by omega) (by omega) (fun b3 n3 m3 h3 g3 k3 => ?_)))
    all_goals (conv => lhs; whnf)
    all_goals first | exact h1 (by omega) (by omega) _ _ _ (by omega) (by omega) (by repeat (first | assumption | exact Kp.refl _ _ | refine Kp.mp ?_ (by omega) (by omega) | refine Kp.trans ?_ (by assumption) (by omega))) | exact h0 (by omega) _ _ (by omega) (by omega) (by repeat (first | assumption | exact Kp.refl _ _ | refine Kp.mp ?_ (by omega) (by omega) | refine Kp.trans ?_ (by assumption) (by omega)))
def SeqNewS (H : HF) : Prop := ∀ (l n : Nat) (m : T FObj) (k : KV) (P : FR), n < 1000000 → (seqO l → k (.tup [.p n 0, .n .i64 0]) ⟨n + 1, mp m n (.ints .u32 [0, Int.ofNat l] 288 .exact)⟩ = P) → (¬ seqO l → k (.tup [.o .ptr, .n .i64 1]) ⟨n, m⟩ = P) → H [.n .u32 l] ⟨n, m⟩ k = P
theorem seqNew_s {O : Ops} (hO : O = stdO) (Φ : Phi) : SeqNewS (p103 O Φ) := fun l n m k P hn h1 h0 => by
  unfold seqO at h1 h0
  repeat' ((conv => lhs; whnf); first | (with_reducible refine bxO' hO ?_) | (with_reducible refine buO hO ?_) | (with_reducible refine (fN_eq _ _).trans ?_) | (with_reducible refine (nM_mp (by omega)).trans ?_) | (with_reducible refine (fO_eq _ _).trans ?_) | ((with_reducible refine atB ?_); refine brecB (fun h => ?_) (fun h => ?_)))
  all_goals (conv => lhs; whnf)
  all_goals first
    | exact h1 (by omega)
    | exact h0 (by omega)
def InNewS (H : HF) : Prop := ∀ (n : Nat) (m : T FObj) (k : KV) (P : FR), n + 2 ≤ 1000000 → k (.p (n + 1) 0) ⟨n + 2, mp (mp m n (.map [])) (n + 1) (.cells [.n .u32 0, .m n] 245 .exact)⟩ = P → H [] ⟨n, m⟩ k = P
theorem inNew_s {O : Ops} (hO : O = stdO) (Φ : Phi) : InNewS (p59 O Φ) := fun n m k P hn h1 => by
  repeat' ((conv => lhs; whnf); first | (with_reducible refine bxO' hO ?_) | (with_reducible refine buO hO ?_) | (with_reducible refine (nM_mp (by omega)).trans ?_) | (with_reducible refine (fO_eq _ _).trans ?_))
  all_goals (conv => lhs; whnf)
  all_goals exact h1
def WinNewS (H : HF) : Prop := ∀ (l : Nat) (f t : Int) (vf vt : FV) (_ : vf = iF f) (_ : vt = iF t) (n : Nat) (m : T FObj) (k : KV) (P : FR), n + 3 ≤ 1000000 →
  (seqO l → winO f t → k (.tup [.p (n + 2) 0, .n .i64 0]) ⟨n + 3, mp (mp (mp m n (.ints .u32 [0, Int.ofNat l] 288 .exact)) (n + 1) (.map [])) (n + 2) (.cells [.p n 0, iF f, iF t, .m (n + 1)] 242 .exact)⟩ = P) →
  (¬ (seqO l ∧ winO f t) → (∀ n' m', n ≤ n' → n' ≤ n + 3 → Kp n m m' → k (.tup [.o .ptr, .n .i64 1]) ⟨n', m'⟩ = P)) → H [.n .u32 l, vf, vt] ⟨n, m⟩ k = P
theorem winNew_s {O : Ops} (hO : O = stdO) (Φ : Phi) (H1 : SeqNewS (Phi.fn Φ 103)) : WinNewS (p58 O Φ) := fun l f t vf vt hf ht n m k P hn h1 h0 => by
  subst hf ht
  cases f <;> cases t
  all_goals
    repeat' ((conv => lhs; whnf); first | (with_reducible refine bxO' hO ?_) | (with_reducible refine buO hO ?_) | (with_reducible refine (nM_mp (by omega)).trans ?_) | (with_reducible refine (fO_eq _ _).trans ?_) | ((with_reducible refine atFn ?_); refine H1 _ _ _ _ _ (by omega) (fun h => ?_) (fun h => ?_)) | ((with_reducible refine atB ?_); refine brecB (fun h => ?_) (fun h => ?_)))
    all_goals (conv => lhs; whnf)
  all_goals first
    | exact h1 (by simp only [winO, seqO, Int.ofNat_eq_natCast, Int.negSucc_eq] at *; omega) (by simp only [winO, seqO, Int.ofNat_eq_natCast, Int.negSucc_eq] at *; omega)
    | exact h0 (by simp only [winO, seqO, Int.ofNat_eq_natCast, Int.negSucc_eq] at *; omega) _ _ (by omega) (by omega) (by repeat (first | assumption | exact Kp.refl _ _ | refine Kp.mp ?_ (by omega) (by omega) | refine Kp.trans ?_ (by assumption) (by omega)))
end Go.Proofs.YtcbfjmjphpoimaaGreatDoor.V2
namespace Go.Proofs.YtcbfjmjphpoimaaGreatDoor.V2
open Go
set_option maxRecDepth 100000
theorem bu_arq {O : Ops} (hO : O = stdO) {l w i : Nat} {f t : Int} {vf vt : FV} (hf : vf = iF f) (ht : vt = iF t) {σ : FH} {k : KV} {P : FR} (h : k (.agg ([.n .u32 0, .n .u32 0] ++ y8 ++ (y8 ++ [.n .u32 l, vf, vt, .p w 0, .p i 0, .b false]))) σ = P) : O.bu ([.n .u32 0, .n .u32 0] ++ y8 ++ (y8 ++ [.n .u32 0, .n .i64 0, .n .i64 0, .o .ptr, .o .ptr, .b false])) ([(.int .u32 0), (.int .u32 0)] ++ x8 ++ (x8 ++ [(.int .u32 0), (.int .i64 0), (.int .i64 0), .nilptr, .nilptr, (.bool false)])) [(0, 69), (69, 1), (70, 1)] [.agg ([.n .u32 0, .n .u32 0] ++ y8 ++ (y8 ++ [.n .u32 l, vf, vt])), .p w 0, .p i 0] σ k = P := by
  subst hf ht
  cases f <;> cases t <;> exact bu_eq hO _ (fun _ _ => by kernel_rfl) (by kernel_rfl) h
end Go.Proofs.YtcbfjmjphpoimaaGreatDoor.V2
namespace Go.Proofs.YtcbfjmjphpoimaaGreatDoor.V2
open Go
set_option maxRecDepth 100000
theorem bu_copy {O : Ops} (hO : O = stdO) {l w i : Nat} {f t : Int} {vf vt : FV} (hf : vf = iF f) (ht : vt = iF t) {o : Bool} {σ : FH} {k : KV} {P : FR} (h : k (.agg ([.n .u32 0, .n .u32 0] ++ y8 ++ (y8 ++ [.n .u32 l, vf, vt, .p w 0, .p i 0, .b o]))) σ = P) : O.bu ([.n .u32 0, .n .u32 0] ++ y8 ++ (y8 ++ [.n .u32 0, .n .i64 0, .n .i64 0, .o .ptr, .o .ptr, .b false])) ([(.int .u32 0), (.int .u32 0)] ++ x8 ++ (x8 ++ [(.int .u32 0), (.int .i64 0), (.int .i64 0), .nilptr, .nilptr, (.bool false)])) [(0, 69), (69, 1), (70, 1), (71, 1)] [.agg ([.n .u32 0, .n .u32 0] ++ y8 ++ (y8 ++ [.n .u32 l, vf, vt])), .p w 0, .p i 0, .b o] σ k = P := by
  subst hf ht
  cases f <;> cases t <;> exact bu_eq hO _ (fun _ _ => by kernel_rfl) (by kernel_rfl) h
theorem ln_take {O : Ops} (hO : O = stdO) {N b off : Nat} {l r : List FV} {e : TypeId} {t : Tl} {n : Nat} {m : T FObj} {c : FV → FR} {P : FR} (ha : Am m b (.cells l e t)) (hr : (l.drop off).take N = r) (hl : (Nat.beq (0 + r.length) N && Nat.ble 1 N) = true) (hg : βV (aggOf (αL r)) = .agg r) (h : c (.agg r) = P) : O.ln N (.p b off) ⟨n, m⟩ c = P := by
  subst hO
  show (gM ⟨n, m⟩ b fun ob => FObj.rec (motive := fun _ => FR) .bad (fun l _ _ => dropK off l fun l => takeK N l fun l => lenK l 0 fun m => Bool.rec .bad (agF l c) (Nat.beq m N && Nat.ble 1 N)) (fun s _ _ => Bool.rec .bad (fN (bpart s off N) fun m => c (.bs m)) (Nat.ble (Nat.add off N) (bl s))) (fun k l e t => slV ((αO (.ints k l e t)).readOk std off N, (αO (.ints k l e t)).read std off N) c) (fun _ => .bad) .bad ob) = P
  rw [gM_am ha]
  show (dropK off l fun l => takeK N l fun l => lenK l 0 fun m => (Bool.rec .bad (agF l c) (Nat.beq m N && Nat.ble 1 N) : FR)) = P
  rw [dropK_eq, takeK_eq, lenK_eq, hr, hl]
  show agF r c = P
  rw [agF_cells hg]
  exact h
theorem ln_arq {O : Ops} (hO : O = stdO) {l w i : Nat} {f t : Int} {vf vt : FV} (hf : vf = iF f) (ht : vt = iF t) {o : Bool} {b : Nat} {e : TypeId} {tl : Tl} {n : Nat} {m : T FObj} {c : FV → FR} {P : FR} (ha : Am m b (.cells ([.n .u32 0, .n .u32 0] ++ y8 ++ (y8 ++ [.n .u32 l, vf, vt, .p w 0, .p i 0, .b o])) e tl)) (h : c (.agg ([.n .u32 0, .n .u32 0] ++ y8 ++ (y8 ++ [.n .u32 l, vf, vt]))) = P) : O.ln 69 (.p b 0) ⟨n, m⟩ c = P := by
  subst hf ht
  cases f <;> cases t <;> exact ln_take hO ha (by kernel_rfl) (by kernel_rfl) (by kernel_rfl) h
theorem at_ln {O : Ops} {N : Nat} {x : FV} {σ : FH} {c : FV → FR} {P : FR} (h : O.ln N x σ c = P) : O.ln N x σ c = P := h
theorem bu_mux {O : Ops} (hO : O = stdO) {b : Nat} {σ : FH} {k : KV} {P : FR} (h : k (.agg [.n .i64 0, .p b 0, .o .ptr, .o .ptr, .o .ptr, .o .ptr, .o .ptr, .o .ptr, .o .ptr, .o .ptr, .o .ptr, .o .ptr, .o .sl, .o .sl, .o .sl, .o .sl, .o .sl, .o .sl, .n .i64 0, .o .sl, .b false, .b false]) σ = P) : O.bu [.n .i64 0, .o .ptr, .o .ptr, .o .ptr, .o .ptr, .o .ptr, .o .ptr, .o .ptr, .o .ptr, .o .ptr, .o .ptr, .o .ptr, .o .sl, .o .sl, .o .sl, .o .sl, .o .sl, .o .sl, .n .i64 0, .o .sl, .b false, .b false] [(.int .i64 0), .nilptr, .nilptr, .nilptr, .nilptr, .nilptr, .nilptr, .nilptr, .nilptr, .nilptr, .nilptr, .nilptr, .nilsl, .nilsl, .nilsl, .nilsl, .nilsl, .nilsl, (.int .i64 0), .nilsl, (.bool false), (.bool false)] [(0, 1), (1, 1)] [.n .i64 0, .p b 0] σ k = P := bu_eq hO _ (fun _ _ => by kernel_rfl) (by kernel_rfl) h
end Go.Proofs.YtcbfjmjphpoimaaGreatDoor.V2
namespace Go.Proofs.YtcbfjmjphpoimaaGreatDoor.V2
open Go
set_option maxRecDepth 100000
theorem bx_cl {O : Ops} (hO : O = stdO) {b o L K l : Nat} {e : Bool} {f t c p : Int} {y : TypeId} {n : Nat} {m : T FObj} {k : KV} {P : FR} (hn : n < 1000000) (h : k (.p n 0) ⟨n + 1, mp m n (.cells [.sl b o L K e 1, .n .u32 l, iF f, iF t, iF c, iF p] y .exact)⟩ = P) : O.bx y (.agg [.sl b o L K e 1, .n .u32 l, iF f, iF t, iF c, iF p]) ⟨n, m⟩ k = P :=
  bx_cells hO hn (by cases f <;> cases t <;> cases c <;> cases p <;> rfl) h
theorem ln_cl {O : Ops} (hO : O = stdO) {b o L K l a : Nat} {e : Bool} {f t c p : Int} {y : TypeId} {tl : Tl} {n : Nat} {m : T FObj} {g : FV → FR} {P : FR} (ha : Am m a (.cells [.sl b o L K e 1, .n .u32 l, iF f, iF t, iF c, iF p] y tl)) (h : g (.agg [.sl b o L K e 1, .n .u32 l, iF f, iF t, iF c, iF p]) = P) : O.ln 6 (.p a 0) ⟨n, m⟩ g = P :=
  ln_all hO ha rfl rfl (by cases f <;> cases t <;> cases c <;> cases p <;> rfl) h
theorem bu_bg {O : Ops} (hO : O = stdO) {σ : FH} {k : KV} {P : FR} (h : k (.agg ([.n .u32 0, .n .u32 0, .n .u32 0] ++ y8 ++ y8)) σ = P) : O.bu ([.n .u32 0, .n .u32 0, .n .u32 0] ++ y8 ++ y8) ([(.int .u32 0), (.int .u32 0), (.int .u32 0)] ++ x8 ++ x8) [] [] σ k = P := bu_eq hO _ (fun _ _ => by kernel_rfl) (by kernel_rfl) h
theorem bu_cfg {O : Ops} (hO : O = stdO) {l : Nat} {f t : Int} {σ : FH} {k : KV} {P : FR} (h : k (.agg ([.n .u32 0, .n .u32 0] ++ y8 ++ (y8 ++ [.n .u32 l, iF f, iF t]))) σ = P) : O.bu ([.n .u32 0, .n .u32 0] ++ y8 ++ (y8 ++ [.n .u32 0, .n .i64 0, .n .i64 0])) ([(.int .u32 0), (.int .u32 0)] ++ x8 ++ (x8 ++ [(.int .u32 0), (.int .i64 0), (.int .i64 0)])) [(0, 1), (1, 1), (2, 32), (34, 32), (66, 1), (67, 1), (68, 1)] [.n .u32 0, .n .u32 0, .bs 115792089237316195423570985008687907853269984665640564039457584007913129639936, .bs 115792089237316195423570985008687907853269984665640564039457584007913129639936, .n .u32 l, iF f, iF t] σ k = P := by
  subst hO
  show bdQ ([.n .u32 0, .n .u32 0] ++ y8 ++ (y8 ++ [.n .u32 0, .n .i64 0, .n .i64 0])) [(0, 1), (1, 1), (2, 32), (34, 32), (66, 1), (67, 1), (68, 1)] [.n .u32 0, .n .u32 0, .bs 115792089237316195423570985008687907853269984665640564039457584007913129639936, .bs 115792089237316195423570985008687907853269984665640564039457584007913129639936, .n .u32 l, iF f, iF t] (fun cs => agF cs fun v => k v σ) (slV (pstep std (.build ([(.int .u32 0), (.int .u32 0)] ++ x8 ++ (x8 ++ [(.int .u32 0), (.int .i64 0), (.int .i64 0)])) [(0, 1), (1, 1), (2, 32), (34, 32), (66, 1), (67, 1), (68, 1)]) (αL [.n .u32 0, .n .u32 0, .bs 115792089237316195423570985008687907853269984665640564039457584007913129639936, .bs 115792089237316195423570985008687907853269984665640564039457584007913129639936, .n .u32 l, iF f, iF t])) fun v => k v σ) = P
  have h1 : ∀ (g : List FV → FR) (q : FR), bdQ ([.n .u32 0, .n .u32 0] ++ y8 ++ (y8 ++ [.n .u32 0, .n .i64 0, .n .i64 0])) [(0, 1), (1, 1), (2, 32), (34, 32), (66, 1), (67, 1), (68, 1)] [.n .u32 0, .n .u32 0, .bs 115792089237316195423570985008687907853269984665640564039457584007913129639936, .bs 115792089237316195423570985008687907853269984665640564039457584007913129639936, .n .u32 l, iF f, iF t] g q = q := fun g q => by kernel_rfl
  rw [h1]
  have h2 : pstep std (.build ([(.int .u32 0), (.int .u32 0)] ++ x8 ++ (x8 ++ [(.int .u32 0), (.int .i64 0), (.int .i64 0)])) [(0, 1), (1, 1), (2, 32), (34, 32), (66, 1), (67, 1), (68, 1)]) (αL [.n .u32 0, .n .u32 0, .bs 115792089237316195423570985008687907853269984665640564039457584007913129639936, .bs 115792089237316195423570985008687907853269984665640564039457584007913129639936, .n .u32 l, iF f, iF t]) = (true, αV (.agg ([.n .u32 0, .n .u32 0] ++ y8 ++ (y8 ++ [.n .u32 l, iF f, iF t])))) := by cases f <;> cases t <;> kernel_rfl
  rw [h2]
  show fV (βV (αV (.agg ([.n .u32 0, .n .u32 0] ++ y8 ++ (y8 ++ [.n .u32 l, iF f, iF t]))))) (fun v => k v σ) = P
  rw [fV_eq, show βV (αV (.agg ([.n .u32 0, .n .u32 0] ++ y8 ++ (y8 ++ [.n .u32 l, iF f, iF t])))) = .agg ([.n .u32 0, .n .u32 0] ++ y8 ++ (y8 ++ [.n .u32 l, iF f, iF t])) from by cases f <;> cases t <;> kernel_rfl]
  exact h
theorem ln_y8 {O : Ops} (hO : O = stdO) {N b off : Nat} {l : List FV} {e : TypeId} {t : Tl} {n : Nat} {m : T FObj} {c : FV → FR} {P : FR} (ha : Am m b (.cells l e t)) (hr : (l.drop off).take N = y8) (hN : N = 32) (h : c (.bs 115792089237316195423570985008687907853269984665640564039457584007913129639936) = P) : O.ln N (.p b off) ⟨n, m⟩ c = P := by
  subst hO hN
  show (gM ⟨n, m⟩ b fun ob => FObj.rec (motive := fun _ => FR) .bad (fun l _ _ => dropK off l fun l => takeK 32 l fun l => lenK l 0 fun m => Bool.rec .bad (agF l c) (Nat.beq m 32 && Nat.ble 1 32)) (fun s _ _ => Bool.rec .bad (fN (bpart s off 32) fun m => c (.bs m)) (Nat.ble (Nat.add off 32) (bl s))) (fun k l e t => slV ((αO (.ints k l e t)).readOk std off 32, (αO (.ints k l e t)).read std off 32) c) (fun _ => .bad) .bad ob) = P
  rw [gM_am ha]
  show (dropK off l fun l => takeK 32 l fun l => lenK l 0 fun m => (Bool.rec .bad (agF l c) (Nat.beq m 32 && Nat.ble 1 32) : FR)) = P
  rw [dropK_eq, takeK_eq, lenK_eq, hr]
  refine Eq.trans (?_ : _ = c (.bs 115792089237316195423570985008687907853269984665640564039457584007913129639936)) h
  kernel_rfl
theorem bu_client {O : Ops} (hO : O = stdO) {b o L K l r q : Nat} {e : Bool} {f t c p : Int} {σ : FH} {k : KV} {P : FR} (h : k (.agg [.sl b o L K e 1, .n .u32 l, iF f, iF t, iF c, iF p, .p r 0, .p q 0, .o .ptr, .o .sl, .n .u32 0, .n .i64 0, .n .i64 0, iF f]) σ = P) : O.bu [.o .sl, .n .u32 0, .n .i64 0, .n .i64 0, .n .i64 0, .n .i64 0, .o .ptr, .o .ptr, .o .ptr, .o .sl, .n .u32 0, .n .i64 0, .n .i64 0, .n .i64 0] [.nilsl, (.int .u32 0), (.int .i64 0), (.int .i64 0), (.int .i64 0), (.int .i64 0), .nilptr, .nilptr, .nilptr, .nilsl, (.int .u32 0), (.int .i64 0), (.int .i64 0), (.int .i64 0)] [(0, 6), (6, 1), (7, 1), (13, 1)] [.agg [.sl b o L K e 1, .n .u32 l, iF f, iF t, iF c, iF p], .p r 0, .p q 0, iF f] σ k = P := by
  cases f <;> cases t <;> cases c <;> cases p <;> exact bu_eq hO _ (fun _ _ => by kernel_rfl) (by kernel_rfl) h
theorem bx_client {O : Ops} (hO : O = stdO) {b o L K l r q : Nat} {e : Bool} {f t c p : Int} {y : TypeId} {n : Nat} {m : T FObj} {k : KV} {P : FR} (hn : n < 1000000) (h : ∀ ob, k (.p n 0) ⟨n + 1, mp m n ob⟩ = P) : O.bx y (.agg [.sl b o L K e 1, .n .u32 l, iF f, iF t, iF c, iF p, .p r 0, .p q 0, .o .ptr, .o .sl, .n .u32 0, .n .i64 0, .n .i64 0, iF f]) ⟨n, m⟩ k = P :=
  bx_cells hO hn (by cases f <;> cases t <;> cases c <;> cases p <;> rfl) (h _)
end Go.Proofs.YtcbfjmjphpoimaaGreatDoor.V2
namespace Go.Proofs.YtcbfjmjphpoimaaGreatDoor.V2
open Go
set_option maxRecDepth 100000
set_option maxHeartbeats 4000000
attribute [local irreducible] fN fO nM gM pM Phi.fn mp bl bpart bapp top1 eqQ
structure EndAt (m : T FObj) (b : Nat) (w i s mw mi : Nat) (l : Nat) (f t : Int) : Prop where
  e : Am m b (.cells ([.n .u32 0, .n .u32 0] ++ y8 ++ (y8 ++ [.n .u32 l, iF f, iF t, .p w 0, .p i 0, .b false])) 164 .exact)
  w : Am m w (.cells [.p s 0, iF f, iF t, .m mw] 242 .exact)
  s : Am m s (.ints .u32 [0, Int.ofNat l] 288 .exact)
  mw : Am m mw (.map [])
  i : Am m i (.cells [.n .u32 0, .m mi] 245 .exact)
  mi : Am m mi (.map [])
  blt : b < 1000000
def ArqNewS (H : HF) : Prop := ∀ (l : Nat) (f t : Int) (n : Nat) (m : T FObj) (k : KV) (P : FR), n + 7 ≤ 1000000 →
  (seqO l → winO f t → ∀ b w i s mw mi n' m', n ≤ n' → n' ≤ n + 7 → b < n' → w < n' → i < n' → s < n' → mw < n' → mi < n' → Kp n m m' → EndAt m' b w i s mw mi l f t → k (.tup [.p b 0, .n .i64 0]) ⟨n', m'⟩ = P) →
  (¬ (seqO l ∧ winO f t) → (∀ n' m', n ≤ n' → n' ≤ n + 7 → Kp n m m' → k (.tup [.o .ptr, .n .i64 1]) ⟨n', m'⟩ = P)) → H [.agg ([.n .u32 0, .n .u32 0] ++ y8 ++ (y8 ++ [.n .u32 l, iF f, iF t]))] ⟨n, m⟩ k = P
theorem iF_or (z : Int) : (∃ a, iF z = .n .i64 a) ∨ (∃ a, iF z = .z .i64 a) := by cases z; exact .inl ⟨_, rfl⟩; exact .inr ⟨_, rfl⟩
theorem arqNew_s {O : Ops} (hO : O = stdO) (Φ : Phi) (H1 : WinNewS (Phi.fn Φ 58)) (H2 : InNewS (Phi.fn Φ 59)) : ArqNewS (p26 O Φ) := fun l f t n m k P hn h1 h0 => by
  rcases iF_or f with ⟨a, hf⟩ | ⟨a, hf⟩ <;> rcases iF_or t with ⟨a', ht⟩ | ⟨a', ht⟩ <;> rw [hf, ht]
  all_goals
    repeat' ((conv => lhs; whnf); first | (with_reducible refine bx_cells hO (by omega) (by kernel_rfl) ?_) | (with_reducible refine ln_all hO (by repeat (first | assumption | exact am_same (by omega) | apply am_ne (by omega) (by omega) | apply kp_am (by assumption) (by omega))) (by kernel_rfl) rfl (by kernel_rfl) ?_) | (((with_reducible refine atBu ?_); refine bu_arq hO hf.symm ht.symm ?_)) | (with_reducible refine ldO hO ?_) | (with_reducible refine rcO hO ?_) | (with_reducible refine (fN_eq _ _).trans ?_) | (((with_reducible apply gM_amP); · repeat (first | assumption | exact am_same (by omega) | apply am_ne (by omega) (by omega) | apply kp_am (by assumption) (by omega)))) | (((with_reducible apply eqQ_self); · kernel_rfl)) | ((with_reducible refine atFn ?_); first | refine H1 l f t _ _ hf.symm ht.symm _ _ _ _ (by omega) (fun h g => ?_) (fun h n3 m3 h3 g3 k3 => ?_) | refine H2 _ _ _ _ (by omega) ?_))
    all_goals (conv => lhs; whnf)
  all_goals first
    | exact h1 h g (n + 1 + 3 + 2) (n + 1 + 2) (n + 1 + 3 + 1) (n + 1) (n + 1 + 1) (n + 1 + 3) _ _ (by omega) (by omega) (by omega) (by omega) (by omega) (by omega) (by omega) (by omega) (by repeat (first | assumption | exact Kp.refl _ _ | refine Kp.mp ?_ (by omega) (by omega) | refine Kp.trans ?_ (by assumption) (by omega))) ⟨by rw [hf, ht]; exact am_same (by omega), (by repeat (first | assumption | exact am_same (by omega) | apply am_ne (by omega) (by omega) | apply kp_am (by assumption) (by omega))), (by repeat (first | assumption | exact am_same (by omega) | apply am_ne (by omega) (by omega) | apply kp_am (by assumption) (by omega))), (by repeat (first | assumption | exact am_same (by omega) | apply am_ne (by omega) (by omega) | apply kp_am (by assumption) (by omega))), (by repeat (first | assumption | exact am_same (by omega) | apply am_ne (by omega) (by omega) | apply kp_am (by assumption) (by omega))), (by repeat (first | assumption | exact am_same (by omega) | apply am_ne (by omega) (by omega) | apply kp_am (by assumption) (by omega))), by omega⟩
    | exact h0 (by assumption) _ _ (by omega) (by omega) (by repeat (first | assumption | exact Kp.refl _ _ | refine Kp.mp ?_ (by omega) (by omega) | refine Kp.trans ?_ (by assumption) (by omega)))
end Go.Proofs.YtcbfjmjphpoimaaGreatDoor.V2
namespace Go.Proofs.YtcbfjmjphpoimaaGreatDoor.V2
open Go
set_option maxRecDepth 100000
set_option maxHeartbeats 4000000
attribute [local irreducible] fN fO nM gM pM Phi.fn mp bl bpart bapp top1 eqQ
def CreS (H : HF) : Prop := ∀ (c : Int) (vc : FV) (_ : vc = iF c) (n : Nat) (m : T FObj) (k : KV) (P : FR), n + 4 ≤ 1000000 → (creO c → (∀ b' n' m', n ≤ n' → n' ≤ n + 4 → Kp n m m' → k (.tup [.p b' 0, .n .i64 0]) ⟨n', m'⟩ = P)) → (¬ creO c → (∀ n' m', n ≤ n' → n' ≤ n + 4 → Kp n m m' → k (.tup [.o .ptr, .n .i64 1]) ⟨n', m'⟩ = P)) → H [vc] ⟨n, m⟩ k = P
theorem spend_s {O : Ops} (hO : O = stdO) (Φ Φ1 : Phi) (H1 : Phi.fn Φ 104 = p104 O Φ1) : CreS (p60 O Φ) := fun c vc hc n m k P hn h1 h0 => by
  subst hc
  cases c
  all_goals
    repeat' ((conv => lhs; whnf); first | (with_reducible refine stO hO ?_) | (with_reducible refine lnO hO ?_) | (with_reducible refine bxO' hO ?_) | (with_reducible refine buO hO ?_) | (with_reducible refine alO hO ?_) | (with_reducible refine (fN_eq _ _).trans ?_) | (with_reducible refine (nM_mp (by omega)).trans ?_) | (with_reducible refine pM_mp.trans ?_) | (((with_reducible apply gM_amP); · repeat (first | assumption | exact am_same (by omega) | apply am_ne (by omega) (by omega) | apply kp_am (by assumption) (by omega)))) | (with_reducible refine (fO_eq _ _).trans ?_) | ((with_reducible refine atFn ?_); rw [H1]) | ((with_reducible refine atB ?_); first | refine brecBT (by omega) ?_ | refine brecBF (by omega) ?_ | refine brecB (fun h => ?_) (fun h => ?_)))
    all_goals (conv => lhs; whnf)
  all_goals first
    | exact h1 (by simp only [creO, Int.ofNat_eq_natCast, Int.negSucc_eq] at *; omega) _ _ _ (by omega) (by omega) (by repeat (first | assumption | exact Kp.refl _ _ | refine Kp.mp ?_ (by omega) (by omega) | refine Kp.trans ?_ (by assumption) (by omega)))
    | exact h0 (by simp only [creO, Int.ofNat_eq_natCast, Int.negSucc_eq] at *; omega) _ _ (by omega) (by omega) (by repeat (first | assumption | exact Kp.refl _ _ | refine Kp.mp ?_ (by omega) (by omega) | refine Kp.trans ?_ (by assumption) (by omega)))
theorem give_s {O : Ops} (hO : O = stdO) (Φ Φ1 : Phi) (H1 : Phi.fn Φ 104 = p104 O Φ1) : CreS (p61 O Φ) := fun c vc hc n m k P hn h1 h0 => by
  subst hc
  cases c
  all_goals
    repeat' ((conv => lhs; whnf); first | (with_reducible refine stO hO ?_) | (with_reducible refine lnO hO ?_) | (with_reducible refine bxO' hO ?_) | (with_reducible refine buO hO ?_) | (with_reducible refine alO hO ?_) | (with_reducible refine (fN_eq _ _).trans ?_) | (with_reducible refine (nM_mp (by omega)).trans ?_) | (with_reducible refine pM_mp.trans ?_) | (((with_reducible apply gM_amP); · repeat (first | assumption | exact am_same (by omega) | apply am_ne (by omega) (by omega) | apply kp_am (by assumption) (by omega)))) | (with_reducible refine (fO_eq _ _).trans ?_) | ((with_reducible refine atFn ?_); rw [H1]) | ((with_reducible refine atB ?_); first | refine brecBT (by omega) ?_ | refine brecBF (by omega) ?_ | refine brecB (fun h => ?_) (fun h => ?_)))
    all_goals (conv => lhs; whnf)
  all_goals first
    | exact h1 (by simp only [creO, Int.ofNat_eq_natCast, Int.negSucc_eq] at *; omega) _ _ _ (by omega) (by omega) (by repeat (first | assumption | exact Kp.refl _ _ | refine Kp.mp ?_ (by omega) (by omega) | refine Kp.trans ?_ (by assumption) (by omega)))
    | exact h0 (by simp only [creO, Int.ofNat_eq_natCast, Int.negSucc_eq] at *; omega) _ _ (by omega) (by omega) (by repeat (first | assumption | exact Kp.refl _ _ | refine Kp.mp ?_ (by omega) (by omega) | refine Kp.trans ?_ (by assumption) (by omega)))
end Go.Proofs.YtcbfjmjphpoimaaGreatDoor.V2
namespace Go.Proofs.YtcbfjmjphpoimaaGreatDoor.V2
open Go
set_option maxRecDepth 100000
set_option maxHeartbeats 4000000
attribute [local irreducible] fN fO nM gM pM Phi.fn mp bl bpart bapp top1 eqQ
theorem brecE {P x y : FR} {a b : Nat} (h1 : a = b → y = P) (h0 : a ≠ b → x = P) : (Bool.rec x y (Nat.beq a b) : FR) = P := brec (fun h => h1 (Nat.eq_of_beq_eq_true h)) (fun h => h0 (fun e => by rw [e, Nat.beq_refl] at h; cases h))
def RSeqS (H : HF) : Prop := ∀ (l n : Nat) (m : T FObj) (k : KV) (P : FR), n + 1 ≤ 1000000 → (seqO l → (∀ b' n' m', n ≤ n' → n' ≤ n + 1 → Kp n m m' → k (.tup [.p b' 0, .n .i64 0]) ⟨n', m'⟩ = P)) → (¬ seqO l → (∀ n' m', n ≤ n' → n' ≤ n + 1 → Kp n m m' → k (.tup [.o .ptr, .n .i64 1]) ⟨n', m'⟩ = P)) → H [.n .u32 l] ⟨n, m⟩ k = P
theorem rSeq_s {O : Ops} (hO : O = stdO) (Φ : Phi) : RSeqS (p108 O Φ) := fun l n m k P hn h1 h0 => by
  unfold seqO at h1 h0
  repeat' ((conv => lhs; whnf); first | (with_reducible refine bxO' hO ?_) | (with_reducible refine buO hO ?_) | (with_reducible refine (fN_eq _ _).trans ?_) | (with_reducible refine (nM_mp (by omega)).trans ?_) | (with_reducible refine (fO_eq _ _).trans ?_) | ((with_reducible refine atB ?_); first | refine brecB (fun h => ?_) (fun h => ?_) | refine brecE (fun h => ?_) (fun h => ?_)))
  all_goals (conv => lhs; whnf)
  all_goals first
    | exact h1 (by omega) _ _ _ (by omega) (by omega) (by repeat (first | assumption | exact Kp.refl _ _ | refine Kp.mp ?_ (by omega) (by omega) | refine Kp.trans ?_ (by assumption) (by omega)))
    | exact h0 (by omega) _ _ (by omega) (by omega) (by repeat (first | assumption | exact Kp.refl _ _ | refine Kp.mp ?_ (by omega) (by omega) | refine Kp.trans ?_ (by assumption) (by omega)))
def RWinS (H : HF) : Prop := ∀ (l : Nat) (f t : Int) (vf vt : FV) (_ : vf = iF f) (_ : vt = iF t) (n : Nat) (m : T FObj) (k : KV) (P : FR), n + 3 ≤ 1000000 → (seqO l → winO f t → (∀ b' n' m', n ≤ n' → n' ≤ n + 3 → Kp n m m' → k (.tup [.p b' 0, .n .i64 0]) ⟨n', m'⟩ = P)) → (¬ (seqO l ∧ winO f t) → (∀ n' m', n ≤ n' → n' ≤ n + 3 → Kp n m m' → k (.tup [.o .ptr, .n .i64 1]) ⟨n', m'⟩ = P)) → H [.n .u32 l, vf, vt] ⟨n, m⟩ k = P
theorem rWin_s {O : Ops} (hO : O = stdO) (Φ : Phi) (H1 : RSeqS (Phi.fn Φ 108)) : RWinS (p63 O Φ) := fun l f t vf vt hf ht n m k P hn h1 h0 => by
  subst hf ht
  cases f <;> cases t
  all_goals
    repeat' ((conv => lhs; whnf); first | (with_reducible refine bxO' hO ?_) | (with_reducible refine buO hO ?_) | (with_reducible refine (nM_mp (by omega)).trans ?_) | (with_reducible refine (fO_eq _ _).trans ?_) | ((with_reducible refine atFn ?_); refine H1 _ _ _ _ _ (by omega) (fun h b3 n3 m3 h3 g3 k3 => ?_) (fun h n3 m3 h3 g3 k3 => ?_)) | ((with_reducible refine atB ?_); refine brecB (fun h => ?_) (fun h => ?_)))
    all_goals (conv => lhs; whnf)
  all_goals first
    | exact h1 (by simp only [winO, seqO, Int.ofNat_eq_natCast, Int.negSucc_eq] at *; omega) (by simp only [winO, seqO, Int.ofNat_eq_natCast, Int.negSucc_eq] at *; omega) _ _ _ (by omega) (by omega) (by repeat (first | assumption | exact Kp.refl _ _ | refine Kp.mp ?_ (by omega) (by omega) | refine Kp.trans ?_ (by assumption) (by omega)))
    | exact h0 (by simp only [winO, seqO, Int.ofNat_eq_natCast, Int.negSucc_eq] at *; omega) _ _ (by omega) (by omega) (by repeat (first | assumption | exact Kp.refl _ _ | refine Kp.mp ?_ (by omega) (by omega) | refine Kp.trans ?_ (by assumption) (by omega)))
def RMayS (H : HF) : Prop := ∀ (c : Int) (vc : FV) (_ : vc = iF c) (n : Nat) (m : T FObj) (k : KV) (P : FR), (creO c → k (.b true) ⟨n, m⟩ = P) → (¬ creO c → k (.b false) ⟨n, m⟩ = P) → H [vc] ⟨n, m⟩ k = P
theorem rMay_s {O : Ops} (_hO : O = stdO) (Φ : Phi) : RMayS (p64 O Φ) := fun c vc hc n m k P h1 h0 => by
  subst hc
  cases c
  all_goals
    repeat' ((conv => lhs; whnf); first | ((with_reducible refine atB ?_); refine brecB (fun h => ?_) (fun h => ?_)))
    all_goals (conv => lhs; whnf)
  all_goals first
    | exact h1 (by simp only [creO, Int.ofNat_eq_natCast, Int.negSucc_eq] at *; omega)
    | exact h0 (by simp only [creO, Int.ofNat_eq_natCast, Int.negSucc_eq] at *; omega)
def RArqS (H : HF) : Prop := ∀ (l : Nat) (f t : Int) (n : Nat) (m : T FObj) (k : KV) (P : FR), n + 7 ≤ 1000000 → (seqO l → winO f t → (∀ b' n' m', n ≤ n' → n' ≤ n + 7 → Kp n m m' → k (.tup [.p b' 0, .n .i64 0]) ⟨n', m'⟩ = P)) → (¬ (seqO l ∧ winO f t) → (∀ n' m', n ≤ n' → n' ≤ n + 7 → Kp n m m' → k (.tup [.o .ptr, .n .i64 1]) ⟨n', m'⟩ = P)) → H [.agg ([.n .u32 0, .n .u32 0] ++ y8 ++ (y8 ++ [.n .u32 l, iF f, iF t]))] ⟨n, m⟩ k = P
theorem rArq_s {O : Ops} (hO : O = stdO) (Φ : Phi) (H1 : RWinS (Phi.fn Φ 63)) : RArqS (p28 O Φ) := fun l f t n m k P hn h1 h0 => by
  rcases iF_or f with ⟨a, hf⟩ | ⟨a, hf⟩ <;> rcases iF_or t with ⟨a', ht⟩ | ⟨a', ht⟩ <;> rw [hf, ht]
  all_goals
    repeat' ((conv => lhs; whnf); first | (with_reducible refine bx_cells hO (by omega) (by kernel_rfl) ?_) | (with_reducible refine ln_all hO (by repeat (first | assumption | exact am_same (by omega) | apply am_ne (by omega) (by omega) | apply kp_am (by assumption) (by omega))) (by kernel_rfl) rfl (by kernel_rfl) ?_) | (((with_reducible refine atBu ?_); refine bu_arq hO hf.symm ht.symm ?_)) | (with_reducible refine ldO hO ?_) | (with_reducible refine buO hO ?_) | (with_reducible refine (fN_eq _ _).trans ?_) | (((with_reducible apply gM_amP); · repeat (first | assumption | exact am_same (by omega) | apply am_ne (by omega) (by omega) | apply kp_am (by assumption) (by omega)))) | ((with_reducible refine atFn ?_); refine H1 l f t _ _ hf.symm ht.symm _ _ _ _ (by omega) (fun h g b3 n3 m3 h3 g3 k3 => ?_) (fun h n3 m3 h3 g3 k3 => ?_)))
    all_goals (conv => lhs; whnf)
  all_goals first
    | exact h1 (by assumption) (by assumption) _ _ _ (by omega) (by omega) (by repeat (first | assumption | exact Kp.refl _ _ | refine Kp.mp ?_ (by omega) (by omega) | refine Kp.trans ?_ (by assumption) (by omega)))
    | exact h0 (by assumption) _ _ (by omega) (by omega) (by repeat (first | assumption | exact Kp.refl _ _ | refine Kp.mp ?_ (by omega) (by omega) | refine Kp.trans ?_ (by assumption) (by omega)))
theorem all_one_ints (k : IntKind) : ∀ q : List Int, (q.map (AV.int k)).all AV.one = true
  | [] => rfl
  | _ :: q => by rw [List.map_cons, List.all_cons, all_one_ints k q]; rfl
theorem βL_len : ∀ l : List AV, (βL l).length = l.length
  | [] => rfl
  | v :: l => by rw [βL, List.length_cons, List.length_cons, βL_len l]
theorem st_ints {O : Ops} (hO : O = stdO) {N b i : Nat} {q : List Int} {l : List FV} {e : TypeId} {n : Nat} {m : T FObj} {k : KV} {P : FR} (ha : Am m b (.cells l e .exact)) (hN : q.length = N) (hi : i + N ≤ l.length) (h : ∀ l', l'.length = l.length → k (.tup []) ⟨n, mp m b (.cells l' e .exact)⟩ = P) : O.st N (.p b i) (.ints .i64 q) ⟨n, m⟩ k = P := by
  subst hO
  show (gM ⟨n, m⟩ b fun ob => woF ob N i (.ints .i64 q) fun ob => pM ⟨n, m⟩ b ob fun σ => k (.tup []) σ) = P
  rw [gM_am ha]
  show slW (.cells l e .exact) N i (.ints .i64 q) (fun ob => pM ⟨n, m⟩ b ob fun σ => k (.tup []) σ) = P
  unfold slW
  have h1 : ((αO (.cells l e .exact)).writeOk std i (αV (.ints .i64 q)) && Nat.beq ((αV (.ints .i64 q)).size std) N) = true := by
    rw [Bool.and_eq_true]
    constructor
    · show (!Tl.exact.isRo && ((AV.ints .i64 q).known && (q.map (AV.int .i64)).all AV.one && Nat.ble (i + (q.map (AV.int .i64)).length) (αL l).length)) = true
      rw [all_one_ints, αL_length, List.length_map, hN, ble_t hi]; rfl
    · show Nat.beq q.length N = true
      rw [hN, Nat.beq_refl]
  rw [h1]
  show fO (βO (.cells ((αL l).take i ++ q.map (AV.int .i64) ++ (αL l).drop (i + q.length)) e .exact)) (fun ob => pM ⟨n, m⟩ b ob fun σ => k (.tup []) σ) = P
  rw [fO_eq]
  show pM ⟨n, m⟩ b (.cells (βL ((αL l).take i ++ q.map (AV.int .i64) ++ (αL l).drop (i + q.length))) e .exact) (fun σ => k (.tup []) σ) = P
  rw [pM_mp]
  refine h _ ?_
  rw [βL_len]
  simp only [List.length_append, List.length_take, List.length_drop, List.length_map, αL_length]
  omega
theorem bx_any {O : Ops} (hO : O = stdO) {e : TypeId} {l : List FV} {n L : Nat} {m : T FObj} {k : KV} {P : FR} (hn : n < 1000000) (hL : l.length = L) (hb : βO (AObj.of (αL l) e .exact) = .cells l e .exact) (h : ∀ l', l'.length = L → k (.p n 0) ⟨n + 1, mp m n (.cells l' e .exact)⟩ = P) : O.bx e (.agg l) ⟨n, m⟩ k = P := bx_cells hO hn hb (h l hL)
end Go.Proofs.YtcbfjmjphpoimaaGreatDoor.V2
namespace Go.Proofs.YtcbfjmjphpoimaaGreatDoor.V2
open Go
set_option maxRecDepth 100000
set_option maxHeartbeats 4000000
attribute [local irreducible] fN fO nM gM pM Phi.fn mp bl bpart bapp top1 eqQ
def RMuxS (H : HF) : Prop := ∀ (b : Nat) (c : Int) (vc : FV) (_ : vc = iF c) (n : Nat) (m : T FObj) (k : KV) (P : FR), n + 2 ≤ 1000000 → (creO c → (∀ b' n' m', n ≤ n' → n' ≤ n + 2 → Kp n m m' → k (.tup [.p b' 0, .n .i64 0]) ⟨n', m'⟩ = P)) → (¬ creO c → (∀ n' m', n ≤ n' → n' ≤ n + 2 → Kp n m m' → k (.tup [.o .ptr, .n .i64 1]) ⟨n', m'⟩ = P)) → H [.n .i64 0, vc, .p b 0] ⟨n, m⟩ k = P
theorem at_st {O : Ops} {N : Nat} {x y : FV} {σ : FH} {k : KV} {P : FR} (h : O.st N x y σ k = P) : O.st N x y σ k = P := h
theorem bu_rmux {O : Ops} (hO : O = stdO) {b : Nat} {σ : FH} {k : KV} {P : FR} (h : k (.agg [.n .i64 0, .p b 0, .n .i64 0, .n .i64 0, .n .i64 0, .n .i64 0, .n .i64 0, .n .i64 0, .n .i64 0, .n .i64 0, .n .i64 0, .n .i64 0, .n .i64 0, .n .i64 0, .n .i64 0, .n .i64 0, .n .i64 0, .n .i64 0, .n .i64 0, .n .i64 0, .n .i64 0, .n .i64 0, .n .i64 0, .n .i64 0, .n .i64 0, .n .i64 0, .n .i64 0, .n .i64 0, .n .i64 0, .n .i64 0, .n .i64 0, .n .i64 0, .n .i64 0, .n .i64 0, .n .i64 0, .n .i64 0, .n .i64 0, .o .sl, .o .sl, .o .sl, .o .sl, .o .sl, .o .sl, .o .sl, .z .i64 0, .b false]) σ = P) : O.bu [.n .i64 0, .o .ptr, .n .i64 0, .n .i64 0, .n .i64 0, .n .i64 0, .n .i64 0, .n .i64 0, .n .i64 0, .n .i64 0, .n .i64 0, .n .i64 0, .n .i64 0, .n .i64 0, .n .i64 0, .n .i64 0, .n .i64 0, .n .i64 0, .n .i64 0, .n .i64 0, .n .i64 0, .n .i64 0, .n .i64 0, .n .i64 0, .n .i64 0, .n .i64 0, .n .i64 0, .n .i64 0, .n .i64 0, .n .i64 0, .n .i64 0, .n .i64 0, .n .i64 0, .n .i64 0, .n .i64 0, .n .i64 0, .n .i64 0, .o .sl, .o .sl, .o .sl, .o .sl, .o .sl, .o .sl, .o .sl, .n .i64 0, .b false] [(.int .i64 0), .nilptr, (.int .i64 0), (.int .i64 0), (.int .i64 0), (.int .i64 0), (.int .i64 0), (.int .i64 0), (.int .i64 0), (.int .i64 0), (.int .i64 0), (.int .i64 0), (.int .i64 0), (.int .i64 0), (.int .i64 0), (.int .i64 0), (.int .i64 0), (.int .i64 0), (.int .i64 0), (.int .i64 0), (.int .i64 0), (.int .i64 0), (.int .i64 0), (.int .i64 0), (.int .i64 0), (.int .i64 0), (.int .i64 0), (.int .i64 0), (.int .i64 0), (.int .i64 0), (.int .i64 0), (.int .i64 0), (.int .i64 0), (.int .i64 0), (.int .i64 0), (.int .i64 0), (.int .i64 0), .nilsl, .nilsl, .nilsl, .nilsl, .nilsl, .nilsl, .nilsl, (.int .i64 0), (.bool false)] [(0, 1), (1, 1), (44, 1)] [.n .i64 0, .p b 0, .z .i64 0] σ k = P := bu_eq hO _ (fun _ _ => by kernel_rfl) (by kernel_rfl) h
theorem rMux_s {O : Ops} (hO : O = stdO) (Φ : Phi) (H1 : RMayS (Phi.fn Φ 64)) : RMuxS (p29 O Φ) := fun b c vc hc n m k P hn h1 h0 => by
  by_cases hcr : creO c
  · obtain ⟨a, rfl⟩ : ∃ a, c = Int.ofNat a := ⟨c.toNat, by unfold creO at hcr; simp only [Int.ofNat_eq_natCast]; omega⟩
    subst hc
    repeat' ((conv => lhs; whnf); first | (((with_reducible refine atBu ?_); refine bu_rmux hO ?_)) | (with_reducible refine bx_any (L := 46) hO (by omega) (by kernel_rfl) (by kernel_rfl) (fun l1 hl1 => ?_)) | (((with_reducible refine at_st ?_); refine st_ints hO (by repeat (first | assumption | exact am_same (by omega) | apply am_ne (by omega) (by omega) | apply kp_am (by assumption) (by omega))) rfl (by simp only [Nat.add_eq, Nat.mul_eq] at *; omega) (fun l2 hl2 => ?_))) | (with_reducible refine buO hO ?_) | (with_reducible refine (fN_eq _ _).trans ?_) | ((with_reducible refine atFn ?_); refine H1 _ _ rfl _ _ _ _ (fun h => ?_) (fun h => absurd hcr h)) | ((with_reducible refine atB ?_); refine brecBT (by omega) ?_))
    all_goals (conv => lhs; whnf)
    all_goals first
      | exact h1 hcr _ _ _ (by omega) (by omega) (by repeat (first | assumption | exact Kp.refl _ _ | refine Kp.mp ?_ (by omega) (by omega) | refine Kp.trans ?_ (by assumption) (by omega)))
  · 
    repeat' ((conv => lhs; whnf); first | ((with_reducible refine atFn ?_); refine H1 _ _ hc _ _ _ _ (fun h => absurd h hcr) (fun h => ?_)))
    all_goals (conv => lhs; whnf)
    all_goals first
      | exact h0 hcr _ _ (by omega) (by omega) (by repeat (first | assumption | exact Kp.refl _ _ | refine Kp.mp ?_ (by omega) (by omega) | refine Kp.trans ?_ (by assumption) (by omega)))
end Go.Proofs.YtcbfjmjphpoimaaGreatDoor.V2
namespace Go.Proofs.YtcbfjmjphpoimaaGreatDoor.V2
open Go
set_option maxRecDepth 100000
theorem bu_rclient {O : Ops} (hO : O = stdO) {b o L K l r : Nat} {e : Bool} {f t c p : Int} {σ : FH} {k : KV} {P : FR} (h : k (.agg [.sl b o L K e 1, .n .u32 l, iF f, iF t, iF c, iF p, .p r 0, .o .ptr, .o .sl, .n .i64 0, .n .i64 0, .n .i64 0, iF f]) σ = P) : O.bu [.o .sl, .n .u32 0, .n .i64 0, .n .i64 0, .n .i64 0, .n .i64 0, .o .ptr, .o .ptr, .o .sl, .n .i64 0, .n .i64 0, .n .i64 0, .n .i64 0] [.nilsl, (.int .u32 0), (.int .i64 0), (.int .i64 0), (.int .i64 0), (.int .i64 0), .nilptr, .nilptr, .nilsl, (.int .i64 0), (.int .i64 0), (.int .i64 0), (.int .i64 0)] [(0, 6), (6, 1), (12, 1)] [.agg [.sl b o L K e 1, .n .u32 l, iF f, iF t, iF c, iF p], .p r 0, iF f] σ k = P := by
  cases f <;> cases t <;> cases c <;> cases p <;> exact bu_eq hO _ (fun _ _ => by kernel_rfl) (by kernel_rfl) h
theorem bx_rclient {O : Ops} (hO : O = stdO) {b o L K l r : Nat} {e : Bool} {f t c p : Int} {y : TypeId} {n : Nat} {m : T FObj} {k : KV} {P : FR} (hn : n < 1000000) (h : ∀ ob, k (.p n 0) ⟨n + 1, mp m n ob⟩ = P) : O.bx y (.agg [.sl b o L K e 1, .n .u32 l, iF f, iF t, iF c, iF p, .p r 0, .o .ptr, .o .sl, .n .i64 0, .n .i64 0, .n .i64 0, iF f]) ⟨n, m⟩ k = P :=
  bx_cells hO hn (by cases f <;> cases t <;> cases c <;> cases p <;> rfl) (h _)
end Go.Proofs.YtcbfjmjphpoimaaGreatDoor.V2
namespace Go.Proofs.YtcbfjmjphpoimaaGreatDoor.V2
open Go
set_option maxRecDepth 100000
set_option maxHeartbeats 4000000
attribute [local irreducible] fN fO nM gM pM Phi.fn mp bl bpart bapp top1 eqQ
theorem winCopy_s {O : Ops} (hO : O = stdO) (Φ Φ1 : Phi) (H1 : Phi.fn Φ 139 = p139 O Φ1) (H2 : ∀ l σ k, Phi.fn Φ 140 l σ k = cmQ l σ k) {w s mw l : Nat} {f t : Int} {n : Nat} {m : T FObj} {k : KV} {P : FR} (hn : n + 3 ≤ 1000000) (hw : w < n) (_hs : s < n) (hmw : mw < n)
    (aw : Am m w (.cells [.p s 0, iF f, iF t, .m mw] 242 .exact)) (asx : Am m s (.ints .u32 [0, Int.ofNat l] 288 .exact)) (amx : Am m mw (.map [])) (h : ∀ b' n' m', n ≤ n' → n' ≤ n + 3 → Kp n m m' → k (.p b' 0) ⟨n', m'⟩ = P) : p106 O Φ [.p w 0] ⟨n, m⟩ k = P := by
  rcases iF_or f with ⟨a, hf⟩ | ⟨a, hf⟩ <;> rcases iF_or t with ⟨a', ht⟩ | ⟨a', ht⟩ <;> rw [hf, ht] at aw
  all_goals
    repeat' ((conv => lhs; whnf); first | (with_reducible refine ldO hO ?_) | (with_reducible refine stO hO ?_) | (with_reducible refine lnO hO ?_) | (with_reducible refine bxO' hO ?_) | (with_reducible refine buO hO ?_) | (with_reducible refine alO hO ?_) | (with_reducible refine rcO hO ?_) | (with_reducible refine (fN_eq _ _).trans ?_) | (with_reducible refine (nM_mp (by omega)).trans ?_) | (with_reducible refine pM_mp.trans ?_) | (((with_reducible apply gM_amP); · repeat (first | assumption | exact am_same (by omega) | apply am_ne (by omega) (by omega) | apply kp_am (by assumption) (by omega)))) | (((with_reducible apply eqQ_self); · kernel_rfl)) | (with_reducible refine (fO_eq _ _).trans ?_) | ((with_reducible refine atFn ?_); first | rw [H1] | rw [H2]))
    all_goals (conv => lhs; whnf)
  all_goals first
    | exact h _ _ _ (by omega) (by omega) (by repeat (first | assumption | exact Kp.refl _ _ | refine Kp.mp ?_ (by omega) (by omega) | refine Kp.trans ?_ (by assumption) (by omega)))
theorem inCopy_s {O : Ops} (hO : O = stdO) (Φ Φ1 : Phi) (H1 : Phi.fn Φ 141 = p141 O Φ1) (H2 : ∀ l σ k, Phi.fn Φ 142 l σ k = cmQ l σ k) {i mi : Nat} {n : Nat} {m : T FObj} {k : KV} {P : FR} (hn : n + 2 ≤ 1000000) (hi : i < n) (_hmi : mi < n)
    (ai : Am m i (.cells [.n .u32 0, .m mi] 245 .exact)) (amx : Am m mi (.map [])) (h : ∀ b' n' m', n ≤ n' → n' ≤ n + 2 → Kp n m m' → k (.p b' 0) ⟨n', m'⟩ = P) : p107 O Φ [.p i 0] ⟨n, m⟩ k = P := by
  repeat' ((conv => lhs; whnf); first | (with_reducible refine ldO hO ?_) | (with_reducible refine bxO' hO ?_) | (with_reducible refine buO hO ?_) | (with_reducible refine rcO hO ?_) | (with_reducible refine (fN_eq _ _).trans ?_) | (with_reducible refine (nM_mp (by omega)).trans ?_) | (((with_reducible apply gM_amP); · repeat (first | assumption | exact am_same (by omega) | apply am_ne (by omega) (by omega) | apply kp_am (by assumption) (by omega)))) | (((with_reducible apply eqQ_self); · kernel_rfl)) | (with_reducible refine (fO_eq _ _).trans ?_) | ((with_reducible refine atFn ?_); first | rw [H1] | rw [H2]))
  all_goals (conv => lhs; whnf)
  all_goals first
    | exact h _ _ _ (by omega) (by omega) (by repeat (first | assumption | exact Kp.refl _ _ | refine Kp.mp ?_ (by omega) (by omega) | refine Kp.trans ?_ (by assumption) (by omega)))
theorem EndAt.kp {m m' : T FObj} {b w i s mw mi l n : Nat} {f t : Int} (h : EndAt m b w i s mw mi l f t) (hk : Kp n m m') (hb : b < n) (hw : w < n) (hi : i < n) (hs : s < n) (hmw : mw < n) (hmi : mi < n) : EndAt m' b w i s mw mi l f t :=
  ⟨hk _ _ hb h.e, hk _ _ hw h.w, hk _ _ hs h.s, hk _ _ hmw h.mw, hk _ _ hi h.i, hk _ _ hmi h.mi, h.blt⟩
def CopyS (H : HF) : Prop := ∀ (b w i s mw mi l : Nat) (f t : Int) (n : Nat) (m : T FObj) (k : KV) (P : FR), n + 6 ≤ 1000000 → b < n → w < n → i < n → s < n → mw < n → mi < n → EndAt m b w i s mw mi l f t → (∀ b' n' m', n ≤ n' → n' ≤ n + 6 → Kp n m m' → k (.p b' 0) ⟨n', m'⟩ = P) → H [.p b 0] ⟨n, m⟩ k = P
theorem copy_s {O : Ops} (hO : O = stdO) (Φ Φ1 Φ2 : Phi) (H0 : Phi.fn Φ 105 = p105 O Φ1) (H3 : Phi.fn Φ 106 = p106 O Φ1) (H4 : Phi.fn Φ 107 = p107 O Φ1) (H1 : Phi.fn Φ1 139 = p139 O Φ2) (H2 : ∀ l σ k, Phi.fn Φ1 140 l σ k = cmQ l σ k) (H5 : Phi.fn Φ1 141 = p141 O Φ2) (H6 : ∀ l σ k, Phi.fn Φ1 142 l σ k = cmQ l σ k) : CopyS (p62 O Φ) := fun b w i s mw mi l f t n m k P hn hb hw hi hs hmw hmi hE h => by
  obtain ⟨he, hw2, hs2, hm2, hi2, hn2, _⟩ := hE
  rcases iF_or f with ⟨a, hf⟩ | ⟨a, hf⟩ <;> rcases iF_or t with ⟨a', ht⟩ | ⟨a', ht⟩ <;> rw [hf, ht] at he
  all_goals
    repeat' ((conv => lhs; whnf); first | ((with_reducible refine at_ln ?_); refine ln_arq hO hf.symm ht.symm (by repeat (first | assumption | exact am_same (by omega) | apply am_ne (by omega) (by omega) | apply kp_am (by assumption) (by omega))) ?_) | (((with_reducible refine atBu ?_); refine bu_copy hO hf.symm ht.symm ?_)) | (with_reducible refine bx_cells hO (by omega) (by kernel_rfl) ?_) | (with_reducible refine ldO hO ?_) | (with_reducible refine rcO hO ?_) | (with_reducible refine (fN_eq _ _).trans ?_) | (((with_reducible apply gM_amP); · repeat (first | assumption | exact am_same (by omega) | apply am_ne (by omega) (by omega) | apply kp_am (by assumption) (by omega)))) | (((with_reducible apply eqQ_self); · kernel_rfl)) | ((with_reducible refine atFn ?_); first | rw [H0] | (rw [H3]; refine winCopy_s hO Φ1 Φ2 H1 H2 (by omega) hw hs hmw (by repeat (first | assumption | exact am_same (by omega) | apply am_ne (by omega) (by omega) | apply kp_am (by assumption) (by omega))) (by repeat (first | assumption | exact am_same (by omega) | apply am_ne (by omega) (by omega) | apply kp_am (by assumption) (by omega))) (by repeat (first | assumption | exact am_same (by omega) | apply am_ne (by omega) (by omega) | apply kp_am (by assumption) (by omega))) (fun b3 n3 m3 h3 g3 k3 => ?_)) | (rw [H4]; refine inCopy_s (mi := mi) hO Φ1 Φ2 H5 H6 (by omega) (by omega) (by omega) (by repeat (first | assumption | exact am_same (by omega) | apply am_ne (by omega) (by omega) | apply kp_am (by assumption) (by omega))) (by repeat (first | assumption | exact am_same (by omega) | apply am_ne (by omega) (by omega) | apply kp_am (by assumption) (by omega))) (fun b3 n3 m3 h3 g3 k3 => ?_))))
    all_goals (conv => lhs; whnf)
  all_goals first
    | exact h _ _ _ (by omega) (by omega) (by repeat (first | assumption | exact Kp.refl _ _ | refine Kp.mp ?_ (by omega) (by omega) | refine Kp.trans ?_ (by assumption) (by omega)))
end Go.Proofs.YtcbfjmjphpoimaaGreatDoor.V2
namespace Go.Proofs.YtcbfjmjphpoimaaGreatDoor.V2
open Go
set_option maxRecDepth 100000
set_option maxHeartbeats 4000000
attribute [local irreducible] fN fO nM gM pM Phi.fn mp bl bpart bapp top1 eqQ
def MuxNewS (H : HF) : Prop := ∀ (b w i s mw mi l : Nat) (f t c : Int) (vc : FV) (_ : vc = iF c) (n : Nat) (m : T FObj) (k : KV) (P : FR), n + 60 ≤ 1000000 → b < n → w < n → i < n → s < n → mw < n → mi < n → EndAt m b w i s mw mi l f t → (creO c → (∀ b' n' m', n ≤ n' → n' ≤ n + 60 → Kp n m m' → k (.tup [.p b' 0, .n .i64 0]) ⟨n', m'⟩ = P)) → (¬ creO c → (∀ n' m', n ≤ n' → n' ≤ n + 60 → Kp n m m' → k (.tup [.o .ptr, .n .i64 1]) ⟨n', m'⟩ = P)) → H [.n .i64 0, vc, .p b 0] ⟨n, m⟩ k = P
theorem muxNew_s {O : Ops} (hO : O = stdO) (Φ : Phi) (H1 : CreS (Phi.fn Φ 60)) (H2 : CreS (Phi.fn Φ 61)) (H3 : CopyS (Phi.fn Φ 62)) : MuxNewS (p27 O Φ) := fun b w i s mw mi l f t c vc hc n m k P hn hb hw hi hs hmw hmi hE h1 h0 => by
  by_cases hcr : creO c
  · 
    repeat' ((conv => lhs; whnf); first | (((with_reducible refine atBu ?_); refine bu_mux hO ?_)) | (with_reducible refine bx_cells hO (by omega) (by kernel_rfl) ?_) | (with_reducible refine stO hO ?_) | (with_reducible refine (fN_eq _ _).trans ?_) | (with_reducible refine pM_mp.trans ?_) | (((with_reducible apply gM_amP); · repeat (first | assumption | exact am_same (by omega) | apply am_ne (by omega) (by omega) | apply kp_am (by assumption) (by omega)))) | ((with_reducible refine atFn ?_); first | refine H1 c _ hc _ _ _ _ (by omega) (fun _ b3 n3 m3 h3 g3 k3 => ?_) (fun h => absurd hcr h) | refine H2 c _ hc _ _ _ _ (by omega) (fun _ b3 n3 m3 h3 g3 k3 => ?_) (fun h => absurd hcr h) | refine H3 b w i s mw mi l f t _ _ _ _ (by omega) (by omega) (by omega) (by omega) (by omega) (by omega) (by omega) (EndAt.kp hE (by repeat (first | assumption | exact Kp.refl _ _ | refine Kp.mp ?_ (by omega) (by omega) | refine Kp.trans ?_ (by assumption) (by omega))) hb hw hi hs hmw hmi) (fun b3 n3 m3 h3 g3 k3 => ?_)) | ((with_reducible refine atB ?_); refine brecBT (by omega) ?_))
    all_goals (conv => lhs; whnf)
    all_goals first
      | exact h1 hcr _ _ _ (by omega) (by omega) (by repeat (first | assumption | exact Kp.refl _ _ | refine Kp.mp ?_ (by omega) (by omega) | refine Kp.trans ?_ (by assumption) (by omega)))
  · 
    repeat' ((conv => lhs; whnf); first | (((with_reducible refine atBu ?_); refine bu_mux hO ?_)) | (with_reducible refine bx_cells hO (by omega) (by kernel_rfl) ?_) | ((with_reducible refine atFn ?_); first | refine H1 c _ hc _ _ _ _ (by omega) (fun h => absurd h hcr) (fun _ n3 m3 h3 g3 k3 => ?_) | refine H2 c _ hc _ _ _ _ (by omega) (fun h => absurd h hcr) (fun _ n3 m3 h3 g3 k3 => ?_)) | ((with_reducible refine atB ?_); refine brecBT (by omega) ?_))
    all_goals (conv => lhs; whnf)
    all_goals first
      | exact h0 hcr _ _ (by omega) (by omega) (by repeat (first | assumption | exact Kp.refl _ _ | refine Kp.mp ?_ (by omega) (by omega) | refine Kp.trans ?_ (by assumption) (by omega)))
end Go.Proofs.YtcbfjmjphpoimaaGreatDoor.V2
namespace Go.Proofs.YtcbfjmjphpoimaaGreatDoor.V2
open Go
set_option maxRecDepth 100000
set_option maxHeartbeats 4000000
attribute [local irreducible] fN fO nM gM pM Phi.fn mp bl bpart bapp top1 eqQ
def StrO (l : Nat) (f t c : Int) : Prop := seqO l ∧ winO f t ∧ creO c
def StreamS (H : HF) : Prop := ∀ (b o L K l : Nat) (e : Bool) (f t c p : Int) (n : Nat) (m : T FObj) (k : KV) (P : FR), n + 80 ≤ 1000000 → (StrO l f t c → (∀ b' n' m', n ≤ n' → n' ≤ n + 80 → Kp n m m' → k (.tup [.p b' 0, .n .i64 0]) ⟨n', m'⟩ = P)) → (¬ StrO l f t c → (∀ n' m', n ≤ n' → n' ≤ n + 80 → Kp n m m' → k (.tup [.o .ptr, .n .i64 1]) ⟨n', m'⟩ = P)) → H [.agg [.sl b o L K e 1, .n .u32 l, iF f, iF t, iF c, iF p], .agg ([.n .u32 0, .n .u32 0, .n .u32 0] ++ y8 ++ y8)] ⟨n, m⟩ k = P
theorem stream_s {O : Ops} (hO : O = stdO) (Φ : Phi) (H1 : ArqNewS (Phi.fn Φ 26)) (H2 : MuxNewS (Phi.fn Φ 27)) : StreamS (p8 O Φ) := fun b o L K l e f t c p n m k P hn h1 h0 => by
  repeat' ((conv => lhs; whnf); first | (with_reducible refine bx_cl hO (by omega) ?_) | ((with_reducible refine atBu ?_); refine bu_cfg hO ?_) | (((with_reducible refine at_ln ?_); refine ln_y8 hO (by repeat (first | assumption | exact am_same (by omega) | apply am_ne (by omega) (by omega) | apply kp_am (by assumption) (by omega))) (by kernel_rfl) rfl ?_)) | (with_reducible refine bx_cells hO (by omega) (by kernel_rfl) ?_) | (with_reducible refine ldO hO ?_) | (with_reducible refine (fN_eq _ _).trans ?_) | (((with_reducible apply gM_amP); · repeat (first | assumption | exact am_same (by omega) | apply am_ne (by omega) (by omega) | apply kp_am (by assumption) (by omega)))) | ((with_reducible refine atFn ?_); first | refine H1 l f t _ _ _ _ (by omega) (fun hs hw b3 w3 i3 s3 mw3 mi3 n3 m3 h3 g3 q1 q2 q3 q4 q5 q6 k3 hE => ?_) (fun hx n3 m3 h3 g3 k3 => ?_) | refine H2 _ _ _ _ _ _ l f t c _ rfl _ _ _ _ (by omega) q1 q2 q3 q4 q5 q6 hE (fun hc b4 n4 m4 h4 g4 k4 => ?_) (fun hc n4 m4 h4 g4 k4 => ?_)))
  all_goals (conv => lhs; whnf)
  all_goals first
    | exact h1 ⟨by assumption, by assumption, by assumption⟩ _ _ _ (by omega) (by omega) (by repeat (first | assumption | exact Kp.refl _ _ | refine Kp.mp ?_ (by omega) (by omega) | refine Kp.trans ?_ (by assumption) (by omega)))
    | exact h0 (fun hh => by obtain ⟨x1, x2, x3⟩ := hh; first | contradiction | exact hx ⟨x1, x2⟩) _ _ (by omega) (by omega) (by repeat (first | assumption | exact Kp.refl _ _ | refine Kp.mp ?_ (by omega) (by omega) | refine Kp.trans ?_ (by assumption) (by omega)))
end Go.Proofs.YtcbfjmjphpoimaaGreatDoor.V2
namespace Go.Proofs.YtcbfjmjphpoimaaGreatDoor.V2
open Go
set_option maxRecDepth 100000
set_option maxHeartbeats 4000000
attribute [local irreducible] fN fO nM gM pM Phi.fn mp bl bpart bapp top1 eqQ
def NewO (L l : Nat) (f t c p : Int) : Prop := 1 ≤ L ∧ L ≤ 64 ∧ StrO l f t c ∧ patO p
theorem sesNew_s {O : Ops} (hO : O = stdO) (Φ : Phi) {b : Nat} {n : Nat} {m : T FObj} {k : KV} {P : FR} (hn : n + 2 ≤ 1000000) (h : ∀ b' n' m', n ≤ n' → n' ≤ n + 2 → Kp n m m' → k (.tup [.p b' 0, .n .i64 0]) ⟨n', m'⟩ = P) : p10 O Φ [.p b 0, .agg [.n .u32 0, .n .u32 0, .n .u64 0]] ⟨n, m⟩ k = P := by
  repeat' ((conv => lhs; whnf); first | (with_reducible refine ldO hO ?_) | (with_reducible refine lnO hO ?_) | (with_reducible refine bxO' hO ?_) | (with_reducible refine buO hO ?_) | (with_reducible refine (fN_eq _ _).trans ?_) | (with_reducible refine (nM_mp (by omega)).trans ?_) | (((with_reducible apply gM_amP); · repeat (first | assumption | exact am_same (by omega) | apply am_ne (by omega) (by omega) | apply kp_am (by assumption) (by omega)))) | (with_reducible refine (fO_eq _ _).trans ?_))
  all_goals (conv => lhs; whnf)
  all_goals first
    | exact h _ _ _ (by omega) (by omega) (by repeat (first | assumption | exact Kp.refl _ _ | refine Kp.mp ?_ (by omega) (by omega) | refine Kp.trans ?_ (by assumption) (by omega)))
def ClientNewS (H : HF) : Prop := ∀ (b o L K l cb : Nat) (e : Bool) (ty : TypeId) (tl : Tl) (f t c p : Int) (n : Nat) (m : T FObj) (k : KV) (P : FR), n + 100 ≤ 1000000 → b < n → Am m b (.bs cb ty tl) → o + L ≤ bl cb → (NewO L l f t c p → (∀ b' n' m', n ≤ n' → n' ≤ n + 100 → Kp n m m' → k (.tup [.p b' 0, .n .i64 0]) ⟨n', m'⟩ = P)) → (¬ NewO L l f t c p → (∀ n' m', n ≤ n' → n' ≤ n + 100 → Kp n m m' → k (.tup [.o .ptr, .n .i64 1]) ⟨n', m'⟩ = P)) → H [.agg [.sl b o L K e 1, .n .u32 l, iF f, iF t, iF c, iF p]] ⟨n, m⟩ k = P
theorem clientNew_s {O : Ops} (hO : O = stdO) (Φ Φ1 : Phi) (H1 : SealNewS (Phi.fn Φ 7)) (H2 : StreamS (Phi.fn Φ 8)) (H3 : CloneS (Phi.fn Φ 9)) (H4 : Phi.fn Φ 10 = p10 O Φ1) : ClientNewS (p4 O Φ) := fun b o L K l cb e ty tl f t c p n m k P hn hb hab hol h1 h0 => by
  cases p
  all_goals
    repeat' ((conv => lhs; whnf); first | (with_reducible refine bx_cl hO (by omega) ?_) | (with_reducible refine ln_cl hO (by repeat (first | assumption | exact am_same (by omega) | apply am_ne (by omega) (by omega) | apply kp_am (by assumption) (by omega))) ?_) | (with_reducible refine bx_client hO (by omega) (fun ob => ?_)) | ((with_reducible refine atBu ?_); first | refine bu_bg hO ?_ | refine bu_client hO ?_) | (with_reducible refine ldO hO ?_) | (with_reducible refine stO hO ?_) | (with_reducible refine buO hO ?_) | (with_reducible refine (fN_eq _ _).trans ?_) | (with_reducible refine pM_mp.trans ?_) | (((with_reducible apply gM_amP); · repeat (first | assumption | exact am_same (by omega) | apply am_ne (by omega) (by omega) | apply kp_am (by assumption) (by omega)))) | ((with_reducible refine atFn ?_); first | refine H1 b o L K cb _ _ _ _ _ _ _ (by omega) (by omega) (by repeat (first | assumption | exact am_same (by omega) | apply am_ne (by omega) (by omega) | apply kp_am (by assumption) (by omega))) hol (fun q1 q2 b3 n3 m3 h3 g3 k3 => ?_) (fun q1 n3 m3 h3 g3 k3 => ?_) | refine H2 _ _ _ _ _ _ f t c _ _ _ _ _ (by omega) (fun hs b3 n3 m3 h3 g3 k3 => ?_) (fun hs n3 m3 h3 g3 k3 => ?_) | (obtain ⟨L1, rfl⟩ : ∃ L1, L = L1 + 1 := ⟨L - 1, by omega⟩; refine H3 b o L1 K cb _ _ _ _ _ _ _ (by omega) (by omega) (by repeat (first | assumption | exact am_same (by omega) | apply am_ne (by omega) (by omega) | apply kp_am (by assumption) (by omega))) hol (by omega) (fun b3 n3 m3 h3 g3 k3 => ?_)) | (rw [H4]; refine sesNew_s hO Φ1 (by omega) (fun b3 n3 m3 h3 g3 k3 => ?_))) | ((with_reducible refine atB ?_); refine brecB (fun h => ?_) (fun h => ?_)))
    all_goals (conv => lhs; whnf)
  all_goals first
    | exact h1 ⟨by assumption, by assumption, by assumption, by simp only [patO, Int.ofNat_eq_natCast, Int.negSucc_eq] at *; omega⟩ _ _ _ (by omega) (by omega) (by repeat (first | assumption | exact Kp.refl _ _ | refine Kp.mp ?_ (by omega) (by omega) | refine Kp.trans ?_ (by assumption) (by omega)))
    | exact h0 (fun hh => by obtain ⟨x1, x2, x3, x4⟩ := hh; first | contradiction | (simp only [patO, Int.ofNat_eq_natCast, Int.negSucc_eq] at *; omega)) _ _ (by omega) (by omega) (by repeat (first | assumption | exact Kp.refl _ _ | refine Kp.mp ?_ (by omega) (by omega) | refine Kp.trans ?_ (by assumption) (by omega)))
end Go.Proofs.YtcbfjmjphpoimaaGreatDoor.V2
namespace Go.Proofs.YtcbfjmjphpoimaaGreatDoor.V2
open Go
set_option maxRecDepth 100000
set_option maxHeartbeats 4000000
attribute [local irreducible] fN fO nM gM pM Phi.fn mp bl bpart bapp top1 eqQ
def RStreamS (H : HF) : Prop := ∀ (b o L K l : Nat) (e : Bool) (f t c p : Int) (n : Nat) (m : T FObj) (k : KV) (P : FR), n + 80 ≤ 1000000 → (StrO l f t c → (∀ b' n' m', n ≤ n' → n' ≤ n + 80 → Kp n m m' → k (.tup [.p b' 0, .n .i64 0]) ⟨n', m'⟩ = P)) → (¬ StrO l f t c → (∀ n' m', n ≤ n' → n' ≤ n + 80 → Kp n m m' → k (.tup [.o .ptr, .n .i64 1]) ⟨n', m'⟩ = P)) → H [.agg [.sl b o L K e 1, .n .u32 l, iF f, iF t, iF c, iF p], .agg ([.n .u32 0, .n .u32 0, .n .u32 0] ++ y8 ++ y8)] ⟨n, m⟩ k = P
theorem rStream_s {O : Ops} (hO : O = stdO) (Φ : Phi) (H1 : RArqS (Phi.fn Φ 28)) (H2 : RMuxS (Phi.fn Φ 29)) : RStreamS (p11 O Φ) := fun b o L K l e f t c p n m k P hn h1 h0 => by
  repeat' ((conv => lhs; whnf); first | (with_reducible refine bx_cl hO (by omega) ?_) | ((with_reducible refine atBu ?_); refine bu_cfg hO ?_) | (((with_reducible refine at_ln ?_); refine ln_y8 hO (by repeat (first | assumption | exact am_same (by omega) | apply am_ne (by omega) (by omega) | apply kp_am (by assumption) (by omega))) (by kernel_rfl) rfl ?_)) | (with_reducible refine bx_cells hO (by omega) (by kernel_rfl) ?_) | (with_reducible refine ldO hO ?_) | (with_reducible refine (fN_eq _ _).trans ?_) | (((with_reducible apply gM_amP); · repeat (first | assumption | exact am_same (by omega) | apply am_ne (by omega) (by omega) | apply kp_am (by assumption) (by omega)))) | ((with_reducible refine atFn ?_); first | refine H1 l f t _ _ _ _ (by omega) (fun hs hw b3 n3 m3 h3 g3 k3 => ?_) (fun hx n3 m3 h3 g3 k3 => ?_) | refine H2 _ c _ rfl _ _ _ _ (by omega) (fun hc b4 n4 m4 h4 g4 k4 => ?_) (fun hc n4 m4 h4 g4 k4 => ?_)))
  all_goals (conv => lhs; whnf)
  all_goals first
    | exact h1 ⟨by assumption, by assumption, by assumption⟩ _ _ _ (by omega) (by omega) (by repeat (first | assumption | exact Kp.refl _ _ | refine Kp.mp ?_ (by omega) (by omega) | refine Kp.trans ?_ (by assumption) (by omega)))
    | exact h0 (fun hh => by obtain ⟨x1, x2, x3⟩ := hh; first | contradiction | exact hx ⟨x1, x2⟩) _ _ (by omega) (by omega) (by repeat (first | assumption | exact Kp.refl _ _ | refine Kp.mp ?_ (by omega) (by omega) | refine Kp.trans ?_ (by assumption) (by omega)))
theorem rSes_s {O : Ops} (hO : O = stdO) (Φ : Phi) {b o L K : Nat} {e : Bool} {n : Nat} {m : T FObj} {k : KV} {P : FR} (hn : n + 2 ≤ 1000000) (h : ∀ b' n' m', n ≤ n' → n' ≤ n + 2 → Kp n m m' → k (.tup [.p b' 0, .n .i64 0]) ⟨n', m'⟩ = P) : p12 O Φ [.sl b o L K e 1, .agg [.n .u32 0, .n .u32 0, .n .u64 0]] ⟨n, m⟩ k = P := by
  repeat' ((conv => lhs; whnf); first | (with_reducible refine ldO hO ?_) | (with_reducible refine lnO hO ?_) | (with_reducible refine bxO' hO ?_) | (with_reducible refine buO hO ?_) | (with_reducible refine (fN_eq _ _).trans ?_) | (with_reducible refine (nM_mp (by omega)).trans ?_) | (((with_reducible apply gM_amP); · repeat (first | assumption | exact am_same (by omega) | apply am_ne (by omega) (by omega) | apply kp_am (by assumption) (by omega)))) | (with_reducible refine (fO_eq _ _).trans ?_))
  all_goals (conv => lhs; whnf)
  all_goals first
    | exact h _ _ _ (by omega) (by omega) (by repeat (first | assumption | exact Kp.refl _ _ | refine Kp.mp ?_ (by omega) (by omega) | refine Kp.trans ?_ (by assumption) (by omega)))
def RNewS (H : HF) : Prop := ∀ (b o L K l : Nat) (e : Bool) (f t c p : Int) (n : Nat) (m : T FObj) (k : KV) (P : FR), n + 100 ≤ 1000000 → (NewO L l f t c p → (∀ b' n' m', n ≤ n' → n' ≤ n + 100 → Kp n m m' → k (.tup [.p b' 0, .n .i64 0]) ⟨n', m'⟩ = P)) → (¬ NewO L l f t c p → (∀ n' m', n ≤ n' → n' ≤ n + 100 → Kp n m m' → k (.tup [.o .ptr, .n .i64 1]) ⟨n', m'⟩ = P)) → H [.agg [.sl b o L K e 1, .n .u32 l, iF f, iF t, iF c, iF p]] ⟨n, m⟩ k = P
theorem rNew_s {O : Ops} (hO : O = stdO) (Φ Φ1 : Phi) (H2 : RStreamS (Phi.fn Φ 11)) (H4 : Phi.fn Φ 12 = p12 O Φ1) : RNewS (p5 O Φ) := fun b o L K l e f t c p n m k P hn h1 h0 => by
  cases p
  all_goals
    repeat' ((conv => lhs; whnf); first | (with_reducible refine bx_cl hO (by omega) ?_) | (with_reducible refine ln_cl hO (by repeat (first | assumption | exact am_same (by omega) | apply am_ne (by omega) (by omega) | apply kp_am (by assumption) (by omega))) ?_) | (with_reducible refine bx_rclient hO (by omega) (fun ob => ?_)) | ((with_reducible refine atBu ?_); first | refine bu_bg hO ?_ | refine bu_rclient hO ?_) | (with_reducible refine ldO hO ?_) | (with_reducible refine buO hO ?_) | (with_reducible refine (fN_eq _ _).trans ?_) | (((with_reducible apply gM_amP); · repeat (first | assumption | exact am_same (by omega) | apply am_ne (by omega) (by omega) | apply kp_am (by assumption) (by omega)))) | ((with_reducible refine atFn ?_); first | refine H2 _ _ _ _ _ _ f t c _ _ _ _ _ (by omega) (fun hs b3 n3 m3 h3 g3 k3 => ?_) (fun hs n3 m3 h3 g3 k3 => ?_) | (rw [H4]; refine rSes_s hO Φ1 (by omega) (fun b3 n3 m3 h3 g3 k3 => ?_))) | ((with_reducible refine atB ?_); refine brecB (fun h => ?_) (fun h => ?_)))
    all_goals (conv => lhs; whnf)
  all_goals first
    | exact h1 ⟨by omega, by omega, by assumption, by simp only [patO, Int.ofNat_eq_natCast, Int.negSucc_eq] at *; omega⟩ _ _ _ (by omega) (by omega) (by repeat (first | assumption | exact Kp.refl _ _ | refine Kp.mp ?_ (by omega) (by omega) | refine Kp.trans ?_ (by assumption) (by omega)))
    | exact h0 (fun hh => by obtain ⟨x1, x2, x3, x4⟩ := hh; first | contradiction | (simp only [patO, Int.ofNat_eq_natCast, Int.negSucc_eq] at *; omega)) _ _ (by omega) (by omega) (by repeat (first | assumption | exact Kp.refl _ _ | refine Kp.mp ?_ (by omega) (by omega) | refine Kp.trans ?_ (by assumption) (by omega)))
end Go.Proofs.YtcbfjmjphpoimaaGreatDoor.V2
namespace Go.Proofs.YtcbfjmjphpoimaaGreatDoor.V2
open Go
set_option maxRecDepth 100000
set_option linter.unusedVariables false
theorem bx_cl_n {O : Ops} (hO : O = stdO) {l : Nat} {f t c p : Int} {y : TypeId} {n : Nat} {m : T FObj} {k : KV} {P : FR} (hn : n < 1000000) (h : k (.p n 0) ⟨n + 1, mp m n (.cells [.o .sl, .n .u32 l, iF f, iF t, iF c, iF p] y .exact)⟩ = P) : O.bx y (.agg [.o .sl, .n .u32 l, iF f, iF t, iF c, iF p]) ⟨n, m⟩ k = P :=
  bx_cells hO hn (by cases f <;> cases t <;> cases c <;> cases p <;> rfl) h
theorem ln_cl_n {O : Ops} (hO : O = stdO) {l a : Nat} {f t c p : Int} {y : TypeId} {tl : Tl} {n : Nat} {m : T FObj} {g : FV → FR} {P : FR} (ha : Am m a (.cells [.o .sl, .n .u32 l, iF f, iF t, iF c, iF p] y tl)) (h : g (.agg [.o .sl, .n .u32 l, iF f, iF t, iF c, iF p]) = P) : O.ln 6 (.p a 0) ⟨n, m⟩ g = P :=
  ln_all hO ha rfl rfl (by cases f <;> cases t <;> cases c <;> cases p <;> rfl) h
end Go.Proofs.YtcbfjmjphpoimaaGreatDoor.V2
namespace Go.Proofs.YtcbfjmjphpoimaaGreatDoor.V2
open Go
set_option maxRecDepth 100000
set_option maxHeartbeats 4000000
attribute [local irreducible] fN fO nM gM pM Phi.fn mp bl bpart bapp top1 eqQ
set_option linter.unusedVariables false
def SealNewN (H : HF) : Prop := ∀ (n : Nat) (m : T FObj) (k : KV) (P : FR), k (.tup [.o .ptr, .n .i64 1]) ⟨n, m⟩ = P → H [.o .sl] ⟨n, m⟩ k = P
theorem sealNew_n {O : Ops} (hO : O = stdO) (Φ Φ1 : Phi) (H1 : Phi.fn Φ 24 = p24 O Φ1) : SealNewN (p7 O Φ) := fun n m k P h => by
  repeat' ((conv => lhs; whnf); first | ((with_reducible refine atFn ?_); rw [H1]))
  all_goals (conv => lhs; whnf)
  all_goals first
    | exact h
def StreamS_n (H : HF) : Prop := ∀ (l : Nat) (f t c p : Int) (n : Nat) (m : T FObj) (k : KV) (P : FR), n + 80 ≤ 1000000 → (StrO l f t c → (∀ b' n' m', n ≤ n' → n' ≤ n + 80 → Kp n m m' → k (.tup [.p b' 0, .n .i64 0]) ⟨n', m'⟩ = P)) → (¬ StrO l f t c → (∀ n' m', n ≤ n' → n' ≤ n + 80 → Kp n m m' → k (.tup [.o .ptr, .n .i64 1]) ⟨n', m'⟩ = P)) → H [.agg [.o .sl, .n .u32 l, iF f, iF t, iF c, iF p], .agg ([.n .u32 0, .n .u32 0, .n .u32 0] ++ y8 ++ y8)] ⟨n, m⟩ k = P
theorem stream_s_n {O : Ops} (hO : O = stdO) (Φ : Phi) (H1 : ArqNewS (Phi.fn Φ 26)) (H2 : MuxNewS (Phi.fn Φ 27)) : StreamS_n (p8 O Φ) := fun l f t c p n m k P hn h1 h0 => by
  repeat' ((conv => lhs; whnf); first | (with_reducible refine bx_cl_n hO (by omega) ?_) | ((with_reducible refine atBu ?_); refine bu_cfg hO ?_) | (((with_reducible refine at_ln ?_); refine ln_y8 hO (by repeat (first | assumption | exact am_same (by omega) | apply am_ne (by omega) (by omega) | apply kp_am (by assumption) (by omega))) (by kernel_rfl) rfl ?_)) | (with_reducible refine bx_cells hO (by omega) (by kernel_rfl) ?_) | (with_reducible refine ldO hO ?_) | (with_reducible refine (fN_eq _ _).trans ?_) | (((with_reducible apply gM_amP); · repeat (first | assumption | exact am_same (by omega) | apply am_ne (by omega) (by omega) | apply kp_am (by assumption) (by omega)))) | ((with_reducible refine atFn ?_); first | refine H1 l f t _ _ _ _ (by omega) (fun hs hw b3 w3 i3 s3 mw3 mi3 n3 m3 h3 g3 q1 q2 q3 q4 q5 q6 k3 hE => ?_) (fun hx n3 m3 h3 g3 k3 => ?_) | refine H2 _ _ _ _ _ _ l f t c _ rfl _ _ _ _ (by omega) q1 q2 q3 q4 q5 q6 hE (fun hc b4 n4 m4 h4 g4 k4 => ?_) (fun hc n4 m4 h4 g4 k4 => ?_)))
  all_goals (conv => lhs; whnf)
  all_goals first
    | exact h1 ⟨by assumption, by assumption, by assumption⟩ _ _ _ (by omega) (by omega) (by repeat (first | assumption | exact Kp.refl _ _ | refine Kp.mp ?_ (by omega) (by omega) | refine Kp.trans ?_ (by assumption) (by omega)))
    | exact h0 (fun hh => by obtain ⟨x1, x2, x3⟩ := hh; first | contradiction | exact hx ⟨x1, x2⟩) _ _ (by omega) (by omega) (by repeat (first | assumption | exact Kp.refl _ _ | refine Kp.mp ?_ (by omega) (by omega) | refine Kp.trans ?_ (by assumption) (by omega)))
def RStreamS_n (H : HF) : Prop := ∀ (l : Nat) (f t c p : Int) (n : Nat) (m : T FObj) (k : KV) (P : FR), n + 80 ≤ 1000000 → (StrO l f t c → (∀ b' n' m', n ≤ n' → n' ≤ n + 80 → Kp n m m' → k (.tup [.p b' 0, .n .i64 0]) ⟨n', m'⟩ = P)) → (¬ StrO l f t c → (∀ n' m', n ≤ n' → n' ≤ n + 80 → Kp n m m' → k (.tup [.o .ptr, .n .i64 1]) ⟨n', m'⟩ = P)) → H [.agg [.o .sl, .n .u32 l, iF f, iF t, iF c, iF p], .agg ([.n .u32 0, .n .u32 0, .n .u32 0] ++ y8 ++ y8)] ⟨n, m⟩ k = P
theorem rStream_s_n {O : Ops} (hO : O = stdO) (Φ : Phi) (H1 : RArqS (Phi.fn Φ 28)) (H2 : RMuxS (Phi.fn Φ 29)) : RStreamS_n (p11 O Φ) := fun l f t c p n m k P hn h1 h0 => by
  repeat' ((conv => lhs; whnf); first | (with_reducible refine bx_cl_n hO (by omega) ?_) | ((with_reducible refine atBu ?_); refine bu_cfg hO ?_) | (((with_reducible refine at_ln ?_); refine ln_y8 hO (by repeat (first | assumption | exact am_same (by omega) | apply am_ne (by omega) (by omega) | apply kp_am (by assumption) (by omega))) (by kernel_rfl) rfl ?_)) | (with_reducible refine bx_cells hO (by omega) (by kernel_rfl) ?_) | (with_reducible refine ldO hO ?_) | (with_reducible refine (fN_eq _ _).trans ?_) | (((with_reducible apply gM_amP); · repeat (first | assumption | exact am_same (by omega) | apply am_ne (by omega) (by omega) | apply kp_am (by assumption) (by omega)))) | ((with_reducible refine atFn ?_); first | refine H1 l f t _ _ _ _ (by omega) (fun hs hw b3 n3 m3 h3 g3 k3 => ?_) (fun hx n3 m3 h3 g3 k3 => ?_) | refine H2 _ c _ rfl _ _ _ _ (by omega) (fun hc b4 n4 m4 h4 g4 k4 => ?_) (fun hc n4 m4 h4 g4 k4 => ?_)))
  all_goals (conv => lhs; whnf)
  all_goals first
    | exact h1 ⟨by assumption, by assumption, by assumption⟩ _ _ _ (by omega) (by omega) (by repeat (first | assumption | exact Kp.refl _ _ | refine Kp.mp ?_ (by omega) (by omega) | refine Kp.trans ?_ (by assumption) (by omega)))
    | exact h0 (fun hh => by obtain ⟨x1, x2, x3⟩ := hh; first | contradiction | exact hx ⟨x1, x2⟩) _ _ (by omega) (by omega) (by repeat (first | assumption | exact Kp.refl _ _ | refine Kp.mp ?_ (by omega) (by omega) | refine Kp.trans ?_ (by assumption) (by omega)))
def ClientNewS_n (H : HF) : Prop := ∀ (l : Nat) (f t c p : Int) (n : Nat) (m : T FObj) (k : KV) (P : FR), n + 100 ≤ 1000000 → (NewO 0 l f t c p → (∀ b' n' m', n ≤ n' → n' ≤ n + 100 → Kp n m m' → k (.tup [.p b' 0, .n .i64 0]) ⟨n', m'⟩ = P)) → (¬ NewO 0 l f t c p → (∀ n' m', n ≤ n' → n' ≤ n + 100 → Kp n m m' → k (.tup [.o .ptr, .n .i64 1]) ⟨n', m'⟩ = P)) → H [.agg [.o .sl, .n .u32 l, iF f, iF t, iF c, iF p]] ⟨n, m⟩ k = P
theorem clientNew_s_n {O : Ops} (hO : O = stdO) (Φ Φ1 : Phi) (H1 : SealNewN (Phi.fn Φ 7)) (H2 : StreamS_n (Phi.fn Φ 8)) (H3 : CloneS (Phi.fn Φ 9)) (H4 : Phi.fn Φ 10 = p10 O Φ1) : ClientNewS_n (p4 O Φ) := fun l f t c p n m k P hn h1 h0 => by
  cases p
  all_goals
    repeat' ((conv => lhs; whnf); first | (with_reducible refine bx_cl_n hO (by omega) ?_) | (with_reducible refine ln_cl_n hO (by repeat (first | assumption | exact am_same (by omega) | apply am_ne (by omega) (by omega) | apply kp_am (by assumption) (by omega))) ?_) | ((with_reducible refine atBu ?_); refine bu_bg hO ?_) | (with_reducible refine ldO hO ?_) | (with_reducible refine (fN_eq _ _).trans ?_) | (((with_reducible apply gM_amP); · repeat (first | assumption | exact am_same (by omega) | apply am_ne (by omega) (by omega) | apply kp_am (by assumption) (by omega)))) | ((with_reducible refine atFn ?_); first | refine H1 _ _ _ _ ?_ | refine H2 _ f t c _ _ _ _ _ (by omega) (fun hs b3 n3 m3 h3 g3 k3 => ?_) (fun hs n3 m3 h3 g3 k3 => ?_)))
    all_goals (conv => lhs; whnf)
  all_goals first
    | exact h1 ⟨by assumption, by assumption, by assumption, by simp only [patO, Int.ofNat_eq_natCast, Int.negSucc_eq] at *; omega⟩ _ _ _ (by omega) (by omega) (by repeat (first | assumption | exact Kp.refl _ _ | refine Kp.mp ?_ (by omega) (by omega) | refine Kp.trans ?_ (by assumption) (by omega)))
    | exact h0 (fun hh => by obtain ⟨x1, x2, x3, x4⟩ := hh; first | contradiction | (simp only [patO, Int.ofNat_eq_natCast, Int.negSucc_eq] at *; omega)) _ _ (by omega) (by omega) (by repeat (first | assumption | exact Kp.refl _ _ | refine Kp.mp ?_ (by omega) (by omega) | refine Kp.trans ?_ (by assumption) (by omega)))
def RNewS_n (H : HF) : Prop := ∀ (l : Nat) (f t c p : Int) (n : Nat) (m : T FObj) (k : KV) (P : FR), n + 100 ≤ 1000000 → (NewO 0 l f t c p → (∀ b' n' m', n ≤ n' → n' ≤ n + 100 → Kp n m m' → k (.tup [.p b' 0, .n .i64 0]) ⟨n', m'⟩ = P)) → (¬ NewO 0 l f t c p → (∀ n' m', n ≤ n' → n' ≤ n + 100 → Kp n m m' → k (.tup [.o .ptr, .n .i64 1]) ⟨n', m'⟩ = P)) → H [.agg [.o .sl, .n .u32 l, iF f, iF t, iF c, iF p]] ⟨n, m⟩ k = P
theorem rNew_s_n {O : Ops} (hO : O = stdO) (Φ Φ1 : Phi) (H2 : RStreamS_n (Phi.fn Φ 11)) (H4 : Phi.fn Φ 12 = p12 O Φ1) : RNewS_n (p5 O Φ) := fun l f t c p n m k P hn h1 h0 => by
  cases p
  all_goals
    repeat' ((conv => lhs; whnf); first | (with_reducible refine bx_cl_n hO (by omega) ?_) | (with_reducible refine ln_cl_n hO (by repeat (first | assumption | exact am_same (by omega) | apply am_ne (by omega) (by omega) | apply kp_am (by assumption) (by omega))) ?_) | ((with_reducible refine atBu ?_); refine bu_bg hO ?_) | (with_reducible refine ldO hO ?_) | (with_reducible refine (fN_eq _ _).trans ?_) | (((with_reducible apply gM_amP); · repeat (first | assumption | exact am_same (by omega) | apply am_ne (by omega) (by omega) | apply kp_am (by assumption) (by omega)))) | ((with_reducible refine atFn ?_); refine H2 _ f t c _ _ _ _ _ (by omega) (fun hs b3 n3 m3 h3 g3 k3 => ?_) (fun hs n3 m3 h3 g3 k3 => ?_)))
    all_goals (conv => lhs; whnf)
  all_goals first
    | exact h1 ⟨by omega, by omega, by assumption, by simp only [patO, Int.ofNat_eq_natCast, Int.negSucc_eq] at *; omega⟩ _ _ _ (by omega) (by omega) (by repeat (first | assumption | exact Kp.refl _ _ | refine Kp.mp ?_ (by omega) (by omega) | refine Kp.trans ?_ (by assumption) (by omega)))
    | exact h0 (fun hh => by obtain ⟨x1, x2, x3, x4⟩ := hh; first | contradiction | (simp only [patO, Int.ofNat_eq_natCast, Int.negSucc_eq] at *; omega)) _ _ (by omega) (by omega) (by repeat (first | assumption | exact Kp.refl _ _ | refine Kp.mp ?_ (by omega) (by omega) | refine Kp.trans ?_ (by assumption) (by omega)))
end Go.Proofs.YtcbfjmjphpoimaaGreatDoor.V2
