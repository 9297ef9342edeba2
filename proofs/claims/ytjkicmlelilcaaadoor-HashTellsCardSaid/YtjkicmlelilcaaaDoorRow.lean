/- What the rows of this seat share: the arguments opened as bytes, the tables, what is behind the call. -/
import Derived.Test.YtjkicmlelilcaaaDoorCards
import Derived.Test.YtjkicmlelilcaaaDoorTie
import Derived.Test.YtjkicmlelilcaaaDoorW6
import Derived.ProofKit
import Derived.OpenShut
import Derived.Carry
import Derived.Deep.DeepHandedRow
import Derived.Deep.Matrix
import Derived.Lib.LaidTab
import Derived.Stop.LaidErr
namespace Go.Proofs.YtjkicmlelilcaaaDoor
open Go.ChangeShapes Go.WideShapes Go.ChangeAt Go.RowKit

section
variable {H : Type} {enc : TypeId × Value → H} {P : Program}

theorem trodAll_stays (hl : laidOutB P = true) {W W' : World} {sp' : Nat → Bool} : ∀ {ts : List TypeId} {vs : List Value} {ds : List (DataW H)} {ps : List MemPlace}, (∀ t ∈ ts, P.readableRec t = true ∧ t < P.types.size) →
    DataW.TrodAll enc P W 0 (fun _ => true) true ts vs ds ps → (∀ p ∈ ps, W.sameAt W' p) → (∀ p ∈ ps, sp' p.block = true) → DataW.TrodAll enc P W' 0 sp' true ts vs ds ps
  | [], _, _, _, _, h, _, _ => by
    obtain ⟨rfl, rfl, rfl⟩ := trodAll_nil h
    exact trodAll_mk0
  | t :: ts, _, _, _, ht, h, h1, h2 => by
    obtain ⟨v, vs1, d, ds1, a, b, rfl, rfl, rfl, ha, hb⟩ := trodAll_cons h
    exact trodAll_cons_mk (WideElems.Trod_stays hl (ht t (by simp)).1 (ht t (by simp)).2 ha (fun p hp => h1 p (by simp [hp])) (fun p hp => h2 p (by simp [hp])))
      (trodAll_stays hl (fun t' h' => ht t' (by simp [h'])) hb (fun p hp => h1 p (by simp [hp])) (fun p hp => h2 p (by simp [hp])))

/-- The row's end: what was there before the call is as it was; the arguments read as they did; the result is of no memory. -/
theorem post_of_below {f : Func} {s : ChangeSpec} {apart fresh handsOn again : Bool} {W W' : World} {args : Array Value} {v : Value} {ds gs : List (DataW H)} {before : List MemPlace}
    (hW : DataW.Whole enc P f.params.toList s.vars apart W args.toList ds gs before) (hl : laidOutB P = true) (hsv : s.vars = []) (hts : ∀ t ∈ f.params.toList, P.readableRec t = true ∧ t < P.types.size)
    (hb : Below W.heap.size W W') (ha : (s.fn H (ds ++ gs)).args = ds) (hgv : (s.fn H (ds ++ gs)).vars = [])
    (hres : ∀ (b : Nat) (sp : Nat → Bool) (hd : Bool), DataW.TrodAll enc P W' b sp hd f.resultTypes.toList (v.resultList f.resultTypes.size) (s.fn H (ds ++ gs)).results [])
    (hok : ∀ (j : Nat) (t : TypeId) (r : Value), f.resultTypes[j]? = some t → (v.resultList f.resultTypes.size)[j]? = some r → Value.okWide P W' .any 0 t r) :
    s.post enc P f apart fresh handsOn again W args v W' := by
  have hlt := hW.lt
  have hW0 := hW
  obtain ⟨p, q, hA0, hV, rfl, hz, hn⟩ := hW
  have hA : DataW.TrodAll enc P W 0 (fun _ => true) true f.params.toList args.toList ds p := hA0
  rw [hsv] at hV
  obtain ⟨rfl, rfl⟩ := trodVars_none hV
  rw [List.append_nil] at hlt hz hn
  have hs : ∀ x ∈ p, W.sameAt W' x := fun x hx => hb.same (hlt x hx)
  have hargs : ∀ sp : Nat → Bool, (∀ x ∈ p, sp x.block = true) → DataW.TrodAll enc P W' 0 sp true f.params.toList args.toList (s.fn H (ds ++ [])).args p := fun sp hsp => by
    rw [ha]; exact trodAll_stays hl hts hA hs hsp
  have hvars : ∀ sp : Nat → Bool, DataW.TrodVars enc P W' sp s.vars (s.fn H (ds ++ [])).vars [] := fun sp => by rw [hgv, hsv]; rfl
  have hold : ∀ x ∈ p, (fun b => decide (b < W.heap.size)) x.block = true := fun x hx => by simpa using hlt x hx
  refine ⟨ds, [], p ++ [], [], p, [], hW0, hres _ _ _, hargs _ hold, hvars _, ?_, fun _ => ?_⟩
  · exact hb.frame _
  · refine ⟨hok, _, _, ([] ++ p) ++ [], ⟨[] ++ p, [], trodAll_append (hargs _ (fun _ _ => rfl)) (hres _ _ _), hvars _, rfl, ?_, ?_⟩, ?_⟩
    · intro b off hp
      simp only [List.nil_append, List.append_nil] at hp
      rw [hb.frozen (hlt _ hp)]
      exact hz b off hp
    · intro h'
      simpa using hn h'
    · intro x hx _
      simpa using hx
end

theorem cells22 : Tryd.prog.cellsOf 22 = 1 := by kernel_rfl
theorem cellsB5 : Tryd.prog.cellsOf 5 = 1 := by kernel_rfl
theorem laidOut : laidOutB Tryd.prog = true := by kernel_rfl
theorem own : ownKnob Tryd.prog.godebug = none := by kernel_rfl

/-- Integers that are bytes, as bytes. -/
def toB (zs : List Int) : List UInt8 := zs.map fun z => UInt8.ofNat z.toNat
theorem toB_length (zs : List Int) : (toB zs).length = zs.length := by simp [toB]
theorem toB_at {zs : List Int} (h : ∀ n ∈ zs, (Lit.int .u8 n).wf = true) {j : Nat} (hj : j < zs.length) : N8 (at8 (toB zs) j) = zs.getD j 0 := by
  have h1 := h zs[j] (List.getElem_mem hj)
  simp only [Lit.wf, Bool.and_eq_true, decide_eq_true_eq] at h1
  have h2 : (0 : Int) ≤ zs[j] ∧ zs[j] ≤ 255 := h1
  unfold N8 at8 toB
  rw [List.getD_eq_getElem?_getD, List.getD_eq_getElem?_getD, List.getElem?_map, List.getElem?_eq_getElem hj]
  simp only [Option.map_some, Option.getD_some]
  rw [UInt8.toNat_ofNat']
  omega

theorem add_none {a : Addr} (h : a.spot = none) (j : Nat) : a.add j = ⟨a.block, a.off + j, none⟩ := by
  obtain ⟨b, o, sp⟩ := a
  cases h
  unfold Addr.add; split <;> simp_all
theorem spot_of_cell {w : World} {a : Addr} {v : Value} (h : w.cell? (a.add 0) = some v) : a.spot = none ∧ a.block < w.heap.size := by
  have e : a.add 0 = a := by unfold Addr.add; simp
  rw [e] at h
  unfold World.cell? at h
  split at h
  · rename_i hh
    refine ⟨?_, (Array.getElem?_eq_some_iff.1 hh).1⟩
    cases hs : a.spot with
    | none => rfl
    | some x => simp [hs] at h
  · cases h
/-- A slice of bytes somewhere in memory. -/
theorem bsl_of {W : World} {A : Option Addr} {L C : Nat} {zs : List Int} (hl : L ≤ C) (hz : zs.length = C) (hw : ∀ n ∈ zs, (Lit.int .u8 n).wf = true) (h0 : A = none → C = 0)
    (hc : ∀ a, A = some a → ∀ c, c < C → W.cell? (a.add c) = some (.int .u8 (zs.getD c 0))) : BSl W (.slice A L C) (toB (zs.take L)) := by
  have hlen : (toB (zs.take L)).length = L := by rw [toB_length, List.length_take]; omega
  cases A with
  | none =>
    have := h0 rfl
    subst this
    obtain rfl : L = 0 := by omega
    exact .inl ⟨rfl, rfl⟩
  | some a =>
    by_cases hC : C = 0
    · subst hC
      obtain rfl : L = 0 := by omega
      exact .inr (.inr ⟨a, rfl, rfl⟩)
    · obtain ⟨hs, hb⟩ := spot_of_cell (hc a rfl 0 (by omega))
      refine .inr (.inl ⟨a.block, a.off, C, by rw [hlen]; obtain ⟨b, o, sp⟩ := a; cases hs; rfl, by rw [hlen]; exact hl, hb, fun j hj => ?_⟩)
      rw [hlen] at hj
      have := hc a rfl j (by omega)
      rw [add_none hs] at this
      rw [this, toB_at (fun n hn => hw n (List.mem_of_mem_take hn)) (by rw [List.length_take]; omega)]
      rw [List.getD_eq_getElem?_getD, List.getD_eq_getElem?_getD, List.getElem?_take, if_pos hj]
set_option maxRecDepth 100000 in
/-- An argument of type []byte. -/
theorem open_bytes {H : Type} {enc : TypeId × Value → H} {W : World} {v : Value} {d : DataW H} {p : List MemPlace} {r : Reach} {base : Nat} (hv : Value.okWide Tryd.prog W r base 22 v) (h : DataW.Trod enc Tryd.prog W 0 (fun _ => true) true 22 v d p) :
    ∃ A L C bs, v = .slice A L C ∧ BSl W v bs ∧ bs.length ≤ 9223372036854775807 := by
  obtain ⟨A, L, C, rfl⟩ := okWide_slice Tryd.underlying22 hv
  obtain ⟨n, h⟩ := h
  rcases open_ints Tryd.underlying22 Tryd.underlying5 cellsB5 h with ⟨e, _⟩ | ⟨a, len, cap, zs, e, _, hl, hm, hz, _, hc, hw⟩
  · obtain ⟨rfl, rfl, rfl⟩ : A = none ∧ L = 0 ∧ C = 0 := by simpa [Value.cells] using e
    exact ⟨_, _, _, [], rfl, .inl ⟨rfl, rfl⟩, Nat.zero_le _⟩
  · obtain ⟨rfl, rfl, rfl⟩ : A = some a ∧ L = len ∧ C = cap := by simpa [Value.cells] using e
    simp only [if_true] at hz
    have hB := bsl_of (W := W) (A := some a) hl hz hw (fun h => by cases h) (fun a' ha c hc' => by cases ha; exact hc c (by omega))
    refine ⟨_, _, _, _, rfl, hB, ?_⟩
    rw [toB_length, List.length_take]
    unfold maxLen at hm
    omega

set_option maxRecDepth 100000 in
/-- An argument of type [][]byte. -/
theorem open_parts {H : Type} {enc : TypeId × Value → H} {W : World} {v : Value} {d : DataW H} {p : List MemPlace} {r : Reach} {base : Nat} (hv : Value.okWide Tryd.prog W r base 31 v) (h : DataW.Trod enc Tryd.prog W 0 (fun _ => true) true 31 v d p) :
    ∃ vs ps, PSl W v vs ps ∧ ps.length ≤ 9223372036854775807 := by
  have hv0 := hv
  obtain ⟨A, L, C, rfl⟩ := okWide_slice Tryd.underlying31 hv
  obtain ⟨n, h⟩ := h
  rcases Deep.open_int_rows Tryd.underlying31 Tryd.underlying22 Tryd.underlying5 cells22 cellsB5 h with ⟨e, _⟩ | ⟨a, len, cap, A', L', C', Z, e, _, hl, hm, _, hx⟩
  · obtain ⟨rfl, rfl, rfl⟩ : A = none ∧ L = 0 ∧ C = 0 := by simpa [Value.cells] using e
    exact ⟨[], [], ⟨rfl, .inl ⟨rfl, rfl⟩, fun j hj => by simp at hj⟩, Nat.zero_le _⟩
  · obtain ⟨rfl, rfl, rfl⟩ : A = some a ∧ L = len ∧ C = cap := by simpa [Value.cells] using e
    obtain ⟨hs, hb⟩ : a.spot = none ∧ a.block < W.heap.size := by
      simp only [Value.okWide, Tryd.underlying31, Cell.okWide, Cell.ok] at hv0
      obtain ⟨_, _, _, hsp, row, cells, hsh, _⟩ := hv0
      refine ⟨hsp, ?_⟩
      unfold World.shape? at hsh
      split at hsh
      · rename_i hh; exact (Array.getElem?_eq_some_iff.1 hh).1
      · cases hsh
    have hlen : ((List.range L).map fun j => toB ((Z j).take (L' j))).length = L := by simp
    refine ⟨(List.range L).map fun j => .slice (A' j) (L' j) (C' j), (List.range L).map fun j => toB ((Z j).take (L' j)), ⟨by simp, .inr ⟨a.block, a.off, C, ?_, by rw [hlen]; exact hl, hb, fun j hj => ?_⟩, fun j hj => ?_⟩, ?_⟩
    · rw [hlen]; obtain ⟨b, o, sp⟩ := a; cases hs; rfl
    · rw [hlen] at hj
      have := (hx j (by omega)).1
      rw [add_none hs] at this
      rw [this]
      simp [atV, hj]
    · rw [hlen] at hj
      obtain ⟨_, h1, h2, h3, h4, h5, h6⟩ := hx j (by omega)
      have e1 : atV ((List.range L).map fun j => Value.slice (A' j) (L' j) (C' j)) j = .slice (A' j) (L' j) (C' j) := by simp [atV, hj]
      have e2 : atP ((List.range L).map fun j => toB ((Z j).take (L' j))) j = toB ((Z j).take (L' j)) := by simp [atP, hj]
      rw [e1, e2]
      exact bsl_of h1 h3 h4 h5 (fun a' ha c hc => (h6 a' ha).2 c hc)
    · rw [hlen]; unfold maxLen at hm; omega

/-! The hash's tables. -/
theorem gStart : Tryd.prog.globalNamed "longwire/hash.start" = some 0 := by kernel_rfl
theorem gConst : Tryd.prog.globalNamed "longwire/hash.constants" = some 3 := by kernel_rfl
theorem gStartType : (Tryd.prog.globals[0]?).map (·.type) = some 88 := by kernel_rfl
theorem gConstType : (Tryd.prog.globals[3]?).map (·.type) = some 119 := by kernel_rfl
theorem cells62 : Tryd.prog.cellsOf 62 = 1 := by kernel_rfl
theorem cells88 : Tryd.prog.cellsOf 88 = 8 := by kernel_rfl
theorem cells119 : Tryd.prog.cellsOf 119 = 64 := by kernel_rfl
theorem tabS_eq {H : Type} : (Rows.laid_longwire_hash_start : DataW H) = Lib.tabData .u32 (S0.map N32) := by kernel_rfl
theorem tabK_eq {H : Type} : (Rows.laid_longwire_hash_constants : DataW H) = Lib.tabData .u32 (KK.map N32) := by kernel_rfl
theorem globS_of {W : World} {rest : List (String × DataW Unit)} (h : laidMet Tryd.prog (("longwire/hash.start", Rows.laid_longwire_hash_start) :: rest) W) : GlobS W := by
  rw [tabS_eq] at h
  intro i hi
  have := (Lib.tabIs_of_head gStart gStartType Tryd.underlying88 Tryd.underlying62 cells62 cells88 h).cell gStart i (by simpa [S0] using hi)
  rw [this]
  simp [at32, List.getD_eq_getElem?_getD, show i < S0.length from hi]
theorem globK_of {W : World} {rest : List (String × DataW Unit)} (h : laidMet Tryd.prog (("longwire/hash.constants", Rows.laid_longwire_hash_constants) :: rest) W) : GlobK W := by
  rw [tabK_eq] at h
  intro i hi
  have := (Lib.tabIs_of_head gConst gConstType Tryd.underlying119 Tryd.underlying62 cells62 cells119 h).cell gConst i (by simpa [KK] using hi)
  rw [this]
  simp [at32, List.getD_eq_getElem?_getD, show i < KK.length from hi]
theorem globs_of {W : World} {rest : List (String × DataW Unit)} (h : laidMet Tryd.prog (("longwire/hash.start", Rows.laid_longwire_hash_start) :: ("longwire/hash.constants", Rows.laid_longwire_hash_constants) :: rest) W) : GlobK W ∧ GlobS W ∧ 3 < W.heap.size := by
  have hK := globK_of h.tail
  refine ⟨hK, globS_of h, ?_⟩
  have := hK 0 (by decide)
  unfold World.cell? at this
  split at this
  · rename_i hh; exact (Array.getElem?_eq_some_iff.1 hh).1
  · cases this
end Go.Proofs.YtjkicmlelilcaaaDoor
