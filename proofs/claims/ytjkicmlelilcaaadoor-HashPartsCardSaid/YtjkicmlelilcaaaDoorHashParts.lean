/- Proved here: the law HashParts returns true for every list of parts and every key, and leaves its arguments as they were. Condition: the tables of package hash hold what their initialisers lay (the card ties them). -/
import Derived.Test.YtjkicmlelilcaaaDoorRow
import Derived.Test.YtjkicmlelilcaaaDoorW12
import Derived.Test.YtjkicmlelilcaaaDoorW13
namespace Go.Proofs.YtjkicmlelilcaaaDoor.hashParts
open Go.ChangeShapes Go.WideShapes Go.ChangeAt Go.RowKit

set_option maxRecDepth 100000 in
theorem parts_any (pv kv : Value) (vs : List Value) (ps : List (List UInt8)) (key : List UInt8) (w : World) (hP : PSl w pv vs ps) (hpm : ps.length ≤ 9223372036854775807) (hk : BSl w kv key)
    (hK : GlobK w) (hS : GlobS w) (h3 : 3 < w.heap.size) : Calls Tryd.prog 4 #[pv, kv] w fun e w' => e = .returned (.bool true) ∧ Below w.heap.size w w' := by
  obtain ⟨ka, kc, rfl⟩ := hk.len
  have core : ∀ (b off cp : Nat) (pa : Option Addr), (0 < ps.length → pa = some ⟨b, off, none⟩) → (0 < ps.length → b < w.heap.size) → ps.length ≤ cp → (∀ j, j < ps.length → w.cell? ⟨b, off + j, none⟩ = some (atV vs j)) →
      Calls Tryd.prog 4 #[.slice pa ps.length cp, .slice ka key.length kc] w fun e w' => e = .returned (.bool true) ∧ Below w.heap.size w w' := by
    intro b off cp pa hpa hlt hcp hcell
    by_cases h : key.length ≤ 100
    · exact parts_le b off cp key.length kc ka pa vs ps key w hpa hlt hcp hpm hcell hP.each hk h hK hS h3
    · have hk' := hk
      rcases hk' with ⟨_, rfl⟩ | ⟨kb, ko, c', e, _⟩ | ⟨_, _, rfl⟩
      · exact absurd (Nat.zero_le 100) h
      · cases e
        exact parts_gt b off cp key.length kc kb ko pa vs ps key w hpa hlt hcp hpm hcell hP.each hk (by omega) hK hS h3
      · exact absurd (Nat.zero_le 100) h
  rcases hP.lies with ⟨rfl, rfl⟩ | ⟨b, off, c, rfl, hc, hlt, hcell⟩
  · exact core 0 0 0 none (fun h => absurd h (by decide)) (fun h => absurd h (by decide)) (Nat.le_refl _) (fun j hj => absurd hj (by simp))
  · exact core b off c _ (fun _ => rfl) (fun _ => hlt) hc hcell

theorem ptypes : ∀ t ∈ Tryd.f4.params.toList, Tryd.prog.readableRec t = true ∧ t < Tryd.prog.types.size := by
  rw [Tryd.params4]
  intro t ht
  simp only [List.mem_cons, List.not_mem_nil, or_false] at ht
  rcases ht with rfl | rfl
  · exact ⟨by kernel_rfl, of_decide_eq_true (by kernel_rfl)⟩
  · exact ⟨by kernel_rfl, of_decide_eq_true (by kernel_rfl)⟩

set_option maxRecDepth 100000 in
theorem contract (H : Type) (enc : TypeId × Value → H) (W : World) (base : Nat) (args : Array Value) (ds gs : List (DataW H)) (before : List MemPlace)
    (hval : ∀ (j : Nat) t v, Tryd.f4.params[j]? = some t → args[j]? = some v → Value.okWide Tryd.prog W .any base t v)
    (hW : DataW.Whole enc Tryd.prog Tryd.f4.params.toList Rows.hashPartsSpec.vars false W args.toList ds gs before) (hL : laidMetH Tryd.prog Rows.hashPartsRow.laid W) :
    Calls Tryd.prog 4 args W fun e W' => ∃ v, e = .returned v ∧ Rows.hashPartsSpec.post enc Tryd.prog Tryd.f4 false true false false W args v W' := by
  have hW' := hW
  obtain ⟨p, q, hA0, hV, rfl, hfz, hnd⟩ := hW
  have hA : DataW.TrodAll enc Tryd.prog W 0 (fun _ => true) true Tryd.f4.params.toList args.toList ds p := hA0
  rw [Tryd.params4] at hA hval
  obtain ⟨v0, v1, d0, d1, p0, p1, rfl, rfl, rfl, h0, h1⟩ := trodAll_two hA
  obtain ⟨rfl, rfl⟩ := trodVars_none hV
  obtain ⟨vs, ps, hP, hpm⟩ := open_parts (hval 0 31 v0 rfl rfl) h0
  obtain ⟨_, _, _, key, _, hk, _⟩ := open_bytes (hval 1 22 v1 rfl rfl) h1
  obtain ⟨hK, hS, h3⟩ := globs_of hL
  refine (parts_any v0 v1 vs ps key W hP hpm hk hK hS h3).mono fun e W' ⟨he, hb⟩ => ?_
  subst he
  exact ⟨_, rfl, post_of_below hW' laidOut rfl ptypes hb rfl rfl (fun _ _ _ => trodAll_cons_mk (shut_bool Tryd.underlying4 _) trodAll_mk0) (ok_one (by kernel_rfl) rfl (okWide_bool_mk Tryd.underlying4 _))⟩

/-- A world for the witness. -/
def setRow (cs : Array Value) : Obj → Obj
  | .cells _ t frozen => .cells cs t frozen
  | o => o
noncomputable def laidWorld (os : Os) : World :=
  { World.holding Tryd.prog os ⟨#[], #[], []⟩ with heap := ((World.holding Tryd.prog os ⟨#[], #[], []⟩).heap.modify 0 (setRow (cw S0))).modify 3 (setRow (cw KK)) }
theorem laid_met (os : Os) : laidMet Tryd.prog Rows.hashPartsRow.laid ((laidWorld os).forCall (fun _ _ => 0) ⟨#[], #[.slice none 0 0, .slice none 0 0], []⟩).memory :=
  laidMet_of_run' 8 (by kernel_rfl) (by kernel_rfl)
theorem reads (os : Os) {H : Type} (enc : TypeId × Value → H) : ∃ places, DataW.whole enc Tryd.prog ((laidWorld os).forCall (fun _ _ => 0) ⟨#[], #[.slice none 0 0, .slice none 0 0], []⟩).memory Tryd.f4.params.toList Rows.hashPartsSpec.vars false #[Value.slice none 0 0, Value.slice none 0 0].toList 8 = some ([.nil, .nil], [], places) :=
  ⟨[], by kernel_rfl⟩

set_option maxRecDepth 100000 in
theorem lifted (os : Os) (started : os.Started) (H : Type) (enc : TypeId × Value → H) (F : Stop.Interp) :
    ReturnsInHanded {} Tryd.checked os 4 .any ((OpenSpec.ofChange Rows.hashPartsSpec).preRow enc Tryd.prog Tryd.f4 Rows.hashPartsRow.domain false Rows.hashPartsRow.laid) (((OpenSpec.ofChange Rows.hashPartsSpec).at F).post enc Tryd.prog Tryd.f4 false true false false) := by
  obtain ⟨places, hx⟩ := reads os enc
  refine returnsInHanded_of_row (C := Tryd.checked) (s := OpenSpec.ofChange Rows.hashPartsSpec) own started (by kernel_rfl) Tryd.func4
    (witness_row_at (enc := enc) (C := Tryd.checked) false (laidWorld os) #[.slice none 0 0, .slice none 0 0] rfl (by kernel_rfl) (by kernel_rfl) (by kernel_rfl)
      (OpenSpec.preRow_of_cond 8 hx (by kernel_rfl) (fun k hk => by cases hk) (by kernel_rfl) (laid_met os))) ?_
  intro W base args ds gs before hval hW _ _ _ hL _ _
  exact contract H enc W base args ds gs before hval hW hL

theorem said : Rows.HashPartsSaid :=
  OpenClaim.holds_of_cond 4 Tryd.f4 rfl rfl rfl rfl rfl rfl rfl ⟨rfl, rfl, rfl, rfl, rfl⟩ rfl rfl rfl rfl rfl (by kernel_rfl) Tryd.func4 (by kernel_rfl)
    (of_decide_eq_true (by kernel_rfl)) (by unfold Func.isWrapper; first | (rw [if_pos (by decide +kernel)]; kernel_rfl) | (rw [if_neg (by decide +kernel)]; exact ⟨rfl, rfl⟩))
    (fun os started H enc _ F => by rw [OpenClaim.pre_eq_preRow]; exact lifted os started H enc F)

theorem plain (f : FuncId) (fn : Func) (hf : Tryd.pinned.checked.prog.funcNamed "longwire/longwirelaw02.HashParts" = some f) (hfn : Tryd.pinned.checked.prog.funcs[f]? = some fn) :
    false = Tryd.pinned.checked.prog.looks [] ∧ ∀ (j : Nat) t, fn.params[j]? = some t → Tryd.pinned.checked.prog.wantsStandIn t = false := by
  obtain rfl : f = 4 := Option.some.inj ((show Tryd.prog.funcNamed "longwire/longwirelaw02.HashParts" = some 4 by kernel_rfl).symm.trans hf) |>.symm
  obtain rfl : fn = Tryd.f4 := (Option.some.inj (Tryd.func4.symm.trans hfn)).symm
  refine ⟨by kernel_rfl, fun j t ht => ?_⟩
  rw [Tryd.params4] at ht
  have := Array.mem_of_getElem? ht
  simp only [List.mem_toArray, List.mem_cons, List.not_mem_nil, or_false] at this
  rcases this with rfl | rfl
  · exact (show Tryd.prog.wantsStandIn 31 = false by kernel_rfl)
  · exact (show Tryd.prog.wantsStandIn 22 = false by kernel_rfl)

theorem card : Rows.HashPartsCardSaid :=
  Claim7.holds_tied_plain_at .later [] _ _ _ _ said (fun _ h => by cases h) (by kernel_rfl) (fun _ h => by cases h) hashParts_row_tie rfl ⟨rfl, rfl⟩ (by kernel_rfl) rfl plain (by kernel_rfl)
end Go.Proofs.YtjkicmlelilcaaaDoor.hashParts
