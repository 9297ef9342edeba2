/- Part 10 of the proof: texts of the proof. -/
import Derived.Test.YtjoakhpdajlhiaaGreatDoorQY9
import Derived.Test.YtjoakhpdajlhiaaGreatDoorCards
import Derived.Test.YtjoakhpdajlhiaaGreatDoorTie
import Derived.LaidMore
import Derived.ProofKit
import Derived.OpenShut
import Derived.Carry
import Derived.Deep.DeepHandedRow
import Derived.Deep.Strs
import Derived.Deep.Matrix
import Derived.Lib.LaidTab
import Derived.Stop.LaidErr
import Derived.Laws.Externs
import Derived.MapKept
import Derived.Shelf.Strings.Count
import Derived.Shelf.Strings.Search3
import Derived.Shelf.Strings.LastIndexAll
import Derived.Shelf.SlIter.Nil
import Derived.Shelf.SortM.Plain
import Derived.Shelf.SortM.SortNone
import Derived.Shelf.Strings.Prefix
import Derived.Test.YtjoakhpdajlhiaaGreatDoorChecked
import Derived.Maps.AppendAt
namespace Go.Proofs.YtjoakhpdajlhiaaGreatDoor.V2.S
open Go
set_option linter.unusedVariables false
set_option maxRecDepth 100000
open Go.RowKit
def Sc : AV → Bool
  | .int _ _ => true
  | .str _ => true
  | _ => false
def vO : AV → Value
  | .int k n => .int k n
  | .str l => .string ⟨l.toArray⟩
  | _ => .bool false
theorem Sc.vr {ρ : Ren} {a : AV} (h : Sc a = true) : VR ρ a (vO a) := by
  cases a <;> first | (cases h; done) | (unfold VR; rfl)
def RowV (w : World) (v : Value) (z n : Nat) (L : List AV) : Prop := L.length = n * z ∧ (∀ a ∈ L, Sc a = true) ∧ ((v = .slice none 0 0 ∧ n = 0) ∨ ∃ b off c, v = .slice (some ⟨b, off, none⟩) n c ∧ n ≤ c ∧ b < w.heap.size ∧ ∀ i a, L[i]? = some a → w.cell? ⟨b, off + i, none⟩ = some (vO a))
theorem or_row {ρ : Ren} {w : World} {b off D : Nat} {L : List AV} {e : TypeId} (hD : L.length + off ≤ D) (hsc : ∀ a ∈ L, Sc a = true) (h : ∀ i a, L[i]? = some a → w.cell? ⟨b, off + i, none⟩ = some (vO a)) : OR ρ (off, D) (.cells L e .ro) w.heap[b]? := ⟨fun _ => by
  refine ⟨hD, fun hl => ?_⟩
  have hl : 0 < L.length := hl rfl
  have h0 : ∀ i (hi : i < L.length), w.cell? ⟨b, off + i, none⟩ = some (vO L[i]) := fun i hi => h i _ (List.getElem?_eq_getElem hi)
  obtain ⟨c, t, fr, hb, _⟩ := cell_row (h0 0 hl)
  have hat : ∀ i (hi : i < L.length), c[i + off]? = some (vO L[i]) := fun i hi => by
    obtain ⟨c', t', fr', hb', hc⟩ := cell_row (h0 i hi)
    rw [hb] at hb'; cases hb'
    rw [Nat.add_comm]; exact hc
  refine ⟨c, t, fr, hb, (fun hh => by cases hh), ?_, hD, fun i a hi => ?_⟩
  · have := (Array.getElem?_eq_some_iff.1 (hat (L.length - 1) (by omega))).1
    show L.length + off ≤ c.size
    omega
  · have hi : L[i]? = some a := hi
    have hil := (List.getElem?_eq_some_iff.1 hi).1
    have ha := (List.getElem?_eq_some_iff.1 hi).2
    refine ⟨_, hat i hil, ?_⟩
    rw [ha]
    exact Sc.vr (hsc a (List.mem_of_getElem? hi)), fun l e => by cases e⟩
def gE : AObj := .cells [] 0 .ro
def memF (os : List AObj) : List AObj := gE :: gE :: gE :: os
def rF (rs : List (Option (Nat × (Nat × Nat)))) : List (Option (Nat × (Nat × Nat))) := some (0, (0, 0)) :: some (1, (0, 0)) :: some (2, (0, 0)) :: rs
noncomputable def sF (os : List AObj) : T FObj := (hL (memF os)).mem.map βO
theorem sF_am {os : List AObj} (hl : os.length ≤ 900000) {i : Nat} {o : AObj} (h : os[i]? = some o) : Am (sF os) (3 + i) (βO o) := by
  unfold Am
  show ((hL (memF os)).mem.map βO).get (3 + i) = _
  rw [T.map_get]
  have := Ls (l := memF os) (by show os.length + 1 + 1 + 1 ≤ _; omega) (3 + i)
  show ((hL (memF os)).get (3 + i)).map βO = _
  rw [this, show 3 + i = i + 1 + 1 + 1 by omega]
  show (os[i]?).map βO = _
  rw [h]; rfl
theorem rF_glob (rs : List (Option (Nat × (Nat × Nat)))) : ∀ g, g < 3 → ∃ s, rL (rF rs) g = some (g, (0, s)) := fun g hg => by
  match g, hg with
  | 0, _ => exact ⟨0, rfl⟩
  | 1, _ => exact ⟨0, rfl⟩
  | 2, _ => exact ⟨0, rfl⟩
theorem memF_sh {os : List AObj} (h : ∀ o ∈ os, o.isSh = true) : ∀ o ∈ memF os, o.isSh = true := fun o ho => by
  unfold memF at ho
  simp only [List.mem_cons] at ho
  rcases ho with rfl | rfl | rfl | ho
  · rfl
  · rfl
  · rfl
  · exact h o ho
theorem hrF {w : World} (hs : 3 ≤ w.heap.size) {os : List AObj} {rs : List (Option (Nat × (Nat × Nat)))} (hl : os.length ≤ 900000) (hlen : rs.length = os.length) (hsh : ∀ o ∈ os, o.isSh = true)
    (h : ∀ (i c : Nat) (d : Nat × Nat) (o : AObj), rs[i]? = some (some (c, d)) → os[i]? = some o → c < w.heap.size ∧ ∀ ρ, OR ρ d o w.heap[c]?) : HR (rL (rF rs)) (hL (memF os)) w := by
  have hg : ∀ ρ g, OR ρ (0, 0) gE w.heap[g]? := fun ρ g => or_row (by show 0 + 0 ≤ 0; omega) (fun a ha => absurd ha List.not_mem_nil) fun i a hi => by simp at hi
  refine hr_ro (by show os.length + 1 + 1 + 1 ≤ _; omega) (by show rs.length + 1 + 1 + 1 = os.length + 1 + 1 + 1; omega) (memF_sh hsh) fun b c d o hb ho => ?_
  match b with
  | 0 => cases hb; cases ho; exact ⟨by omega, hg _ _⟩
  | 1 => cases hb; cases ho; exact ⟨by omega, hg _ _⟩
  | 2 => cases hb; cases ho; exact ⟨by omega, hg _ _⟩
  | i + 3 =>
    obtain ⟨h1, h2⟩ := h i c d o hb ho
    exact ⟨h1, h2 _⟩
def reF : Value → Nat → Option (Nat × (Nat × Nat))
  | .slice (some a) _ c, z => some (a.block, (a.off, a.off + c * z))
  | _, _ => none
def fvF (v : Value) (b z n : Nat) : FV := match v with
  | .slice (some _) _ _ => .sl b 0 n n false z
  | _ => .o .sl
theorem RowV.or {w : World} {v : Value} {z n : Nat} {L : List AV} {e : TypeId} (h : RowV w v z n L) (c : Nat) (d : Nat × Nat) (hr : reF v z = some (c, d)) : c < w.heap.size ∧ ∀ ρ, OR ρ d (.cells L e .ro) w.heap[c]? := by
  obtain ⟨h1, h2, h3⟩ := h
  rcases h3 with ⟨rfl, _⟩ | ⟨b, off, cc, rfl, hc, hb, h4⟩
  · cases hr
  · cases hr
    exact ⟨hb, fun ρ => or_row (by rw [h1]; have := Nat.mul_le_mul_right z hc; omega) h2 h4⟩
theorem RowV.vr {w : World} {v : Value} {z n : Nat} {L : List AV} {ρ : Ren} {b : Nat} (h : RowV w v z n L) (hr : ρ b = reF v z) : VR ρ (αV (fvF v b z n)) v := by
  obtain ⟨h1, h2, h3⟩ := h
  rcases h3 with ⟨rfl, _⟩ | ⟨b', off, cc, rfl, hc, hb, h4⟩
  · rfl
  · show VR ρ (.sl b 0 n n false z) _
    unfold VR
    exact .inl ⟨b', (off, off + cc * z), off, cc, hr, rfl, fun _ => by simp, Nat.le_refl _, hc, (fun h => by cases h), Nat.le_refl _⟩
def aA (a : Ac) : List AV := [.int .i64 a.w, .str a.p, .str a.d, .int .u16 a.m]
def aAs (l : List Ac) : List AV := l.flatMap aA
theorem aAs_len : ∀ l : List Ac, (aAs l).length = l.length * 4
  | [] => rfl
  | a :: l => by
    show (aA a ++ aAs l).length = _
    rw [List.length_append, aAs_len l, List.length_cons]; show 4 + _ = _; omega
theorem βL_app : ∀ a b : List AV, βL (a ++ b) = βL a ++ βL b
  | [], b => rfl
  | x :: a, b => by
    show βV x :: βL (a ++ b) = βV x :: βL a ++ βL b
    rw [βL_app a b]; rfl
theorem aA_β (a : Ac) : βL (aA a) = acV a := by
  rcases a with ⟨w | w, p, d, m⟩ <;> rfl
theorem aAs_β : ∀ l : List Ac, βL (aAs l) = acs l
  | [] => rfl
  | a :: l => by
    show βL (aA a ++ aAs l) = acV a ++ acs l
    rw [βL_app, aA_β, aAs_β l]
theorem aAs_sc (l : List Ac) : ∀ a ∈ aAs l, Sc a = true := fun a ha => by
  unfold aAs at ha
  obtain ⟨x, _, hx⟩ := List.mem_flatMap.1 ha
  simp only [aA, List.mem_cons, List.not_mem_nil, or_false] at hx
  rcases hx with rfl | rfl | rfl | rfl <;> rfl
theorem aAs_at : ∀ (l : List Ac) (k j : Nat) (a : Ac), l[k]? = some a → j < 4 → (aAs l)[k * 4 + j]? = (aA a)[j]?
  | [], k, j, a, h, _ => by simp at h
  | b :: l, 0, j, a, h, hj => by
    simp at h; subst h
    show (aA b ++ aAs l)[0 * 4 + j]? = _
    rw [Nat.zero_mul, Nat.zero_add, List.getElem?_append_left (by show j < 4; exact hj)]
  | b :: l, k + 1, j, a, h, hj => by
    have h' : l[k]? = some a := by simpa using h
    show (aA b ++ aAs l)[(k + 1) * 4 + j]? = _
    rw [List.getElem?_append_right (by show 4 ≤ _; omega), show (k + 1) * 4 + j - (aA b).length = k * 4 + j by show _ - 4 = _; omega]
    exact aAs_at l k j a h' hj
theorem rowA_of {w : World} {v : Value} {os : List AObj} {l : List Ac} {i : Nat} {e : TypeId} (hl : os.length ≤ 900000) (h : RowV w v 4 l.length (aAs l)) (ho : os[i]? = some (.cells (aAs l) e .ro)) : RowA (sF os) (3 + os.length) (fvF v (3 + i) 4 l.length) l := by
  have ha := sF_am hl ho
  have hi := (List.getElem?_eq_some_iff.1 ho).1
  rw [show βO (.cells (aAs l) e .ro) = .cells (βL (aAs l)) e .ro from rfl, aAs_β] at ha
  obtain ⟨h1, h2, h3⟩ := h
  rcases h3 with ⟨rfl, h0⟩ | ⟨b', off, cc, rfl, hc, hb, h4⟩
  · exact .inl ⟨List.length_eq_zero_iff.1 h0, rfl⟩
  · exact .inr ⟨3 + i, _, _, _, _, rfl, by omega, ha⟩
end Go.Proofs.YtjoakhpdajlhiaaGreatDoor.V2.S
namespace Go.Proofs.YtjoakhpdajlhiaaGreatDoor
open Go.ChangeShapes Go.WideShapes Go.ChangeAt Go.RowKit
section
variable {H : Type} {enc : TypeId × Value → H} {P : Program}
theorem Iy (hl : laidOutB P = true) {W W' : World} {sp' : Nat → Bool} : ∀ {ts : List TypeId} {vs : List Value} {ds : List (DataW H)} {ps : List MemPlace}, (∀ t ∈ ts, P.readableRec t = true ∧ t < P.types.size) →
    DataW.TrodAll enc P W 0 (fun _ => true) true ts vs ds ps → (∀ p ∈ ps, W.sameAt W' p) → (∀ p ∈ ps, sp' p.block = true) → DataW.TrodAll enc P W' 0 sp' true ts vs ds ps
  | [], _, _, _, _, h, _, _ => by
    obtain ⟨rfl, rfl, rfl⟩ := trodAll_nil h
    exact trodAll_mk0
  | t :: ts, _, _, _, ht, h, h1, h2 => by
    obtain ⟨v, vs1, d, ds1, a, b, rfl, rfl, rfl, ha, hb⟩ := trodAll_cons h
    exact trodAll_cons_mk (WideElems.Trod_stays hl (ht t (by simp)).1 (ht t (by simp)).2 ha (fun p hp => h1 p (by simp [hp])) (fun p hp => h2 p (by simp [hp])))
      (Iy hl (fun t' h' => ht t' (by simp [h'])) hb (fun p hp => h1 p (by simp [hp])) (fun p hp => h2 p (by simp [hp])))
theorem post_of_below {f : Func} {s : ChangeSpec} {apart fresh handsOn again : Bool} {W W' : World} {args : Array Value} {v : Value} {ds gs : List (DataW H)} {before : List MemPlace}
    (hW : DataW.Whole enc P f.params.toList s.vars apart W args.toList ds gs before) (hl : laidOutB P = true) (hsv : s.vars = []) (hts : ∀ t ∈ f.params.toList, P.readableRec t = true ∧ t < P.types.size)
    (hb : Below W.heap.size W W') (ha : (s.fn H (ds ++ gs)).args = ds) (hgv : (s.fn H (ds ++ gs)).vars = [])
    (hres : ∀ (b : Nat) (sp : Nat → Bool) (hd : Bool), DataW.TrodAll enc P W' b sp hd f.resultTypes.toList (v.resultList f.resultTypes.size) (s.fn H (ds ++ gs)).results [])
    (hok : ∀ (j : Nat) (t : TypeId) (r : Value), f.resultTypes[j]? = some t → (v.resultList f.resultTypes.size)[j]? = some r → Value.okWide P W' .any 0 t r) :
    s.post enc P f apart fresh handsOn again W args v W' := by
  have hlt := hW.lt
  have hW0 := hW
  obtain ⟨p, q, hA0, hV, rfl, hz, hn⟩ := hW
  have hA : DataW.TrodAll enc P W 0 (fun _ => true) true f.params.toList args.toList ds p := hA0
  rw [hsv] at hV
  obtain ⟨rfl, rfl⟩ := trodVars_none hV
  rw [List.append_nil] at hlt hz hn
  have hs : ∀ x ∈ p, W.sameAt W' x := fun x hx => hb.same (hlt x hx)
  have hargs : ∀ sp : Nat → Bool, (∀ x ∈ p, sp x.block = true) → DataW.TrodAll enc P W' 0 sp true f.params.toList args.toList (s.fn H (ds ++ [])).args p := fun sp hsp => by
    rw [ha]; exact Iy hl hts hA hs hsp
  have hvars : ∀ sp : Nat → Bool, DataW.TrodVars enc P W' sp s.vars (s.fn H (ds ++ [])).vars [] := fun sp => by rw [hgv, hsv]; rfl
  have hold : ∀ x ∈ p, (fun b => decide (b < W.heap.size)) x.block = true := fun x hx => by simpa using hlt x hx
  refine ⟨ds, [], p ++ [], [], p, [], hW0, hres _ _ _, hargs _ hold, hvars _, ?_, fun _ => ?_⟩
  · exact hb.frame _
  · refine ⟨hok, _, _, ([] ++ p) ++ [], ⟨[] ++ p, [], trodAll_append (hargs _ (fun _ _ => rfl)) (hres _ _ _), hvars _, rfl, ?_, ?_⟩, ?_⟩
    · intro b off hp
      simp only [List.nil_append, List.append_nil] at hp
      rw [hb.frozen (hlt _ hp)]
      exact hz b off hp
    · intro h'
      simpa using hn h'
    · intro x hx _
      simpa using hx
end
theorem laidOut : laidOutB Tryz.prog = true := by kernel_rfl
theorem own : ownKnob Tryz.prog.godebug = none := by kernel_rfl
theorem gAcc : Tryz.prog.globalNamed "unicode/utf8.acceptRanges" = some 2 := by kernel_rfl
theorem size3 {W : World} {data : DataW Unit} {rest : List (String × DataW Unit)} (h : laidMet Tryz.prog (("unicode/utf8.acceptRanges", data) :: rest) W) : 3 ≤ W.heap.size := by
  obtain ⟨ps, ⟨g, t, cs, fuel, p, q, hg, _, hv, _⟩, _⟩ := h
  obtain rfl := Option.some.inj (gAcc.symm.trans hg)
  unfold World.var? at hv
  rw [gAcc, Option.bind_some] at hv
  split at hv
  · rename_i hh; have := (Array.getElem?_eq_some_iff.1 hh).1; omega
  · cases hv
mutual
def cellsD : DataW Unit → List Value
  | .lit (.int k n) => [.int k n]
  | .agg l => cellsDs l
  | _ => []
def cellsDs : List (DataW Unit) → List Value
  | [] => []
  | d :: l => cellsD d ++ cellsDs l
end
theorem add_none {a : Addr} (h : a.spot = none) (j : Nat) : a.add j = ⟨a.block, a.off + j, none⟩ := by
  obtain ⟨b, o, sp⟩ := a
  cases h
  unfold Addr.add; split <;> simp_all
theorem cellsAC : Tryz.prog.cellsOf 30 = 4 := by kernel_rfl
theorem cellsIN : Tryz.prog.cellsOf 3 = 1 := by kernel_rfl
theorem cellsST : Tryz.prog.cellsOf 9 = 1 := by kernel_rfl
theorem cellsU6 : Tryz.prog.cellsOf 28 = 1 := by kernel_rfl
theorem str_of (s : ByteArray) : Value.string s = V2.S.vO (.str s.data.toList) := by
  show Value.string s = Value.string ⟨s.data.toList.toArray⟩
  rw [Array.toArray_toList]
set_option maxRecDepth 100000 in
theorem open_act {H : Type} {enc : TypeId × Value → H} {W : World} {base n : Nat} {cs : List Value} {x : DataW H × List MemPlace} (h : DataW.trod enc Tryz.prog W base (fun _ => true) true n 30 cs = some x) :
    ∃ a : V2.S.Ac, cs = (V2.S.aA a).map V2.S.vO ∧ a.m ≤ 65535 := by
  obtain ⟨xs, m, hcs, _, hlen, hxl, hf⟩ := DataW.trod_struct Tryz.underlying30 h
  rw [cellsAC] at hlen
  obtain ⟨a0, a1, a2, a3, rfl⟩ : ∃ a0 a1 a2 a3, cs = [a0, a1, a2, a3] := by
    match cs, hlen with
    | [a0, a1, a2, a3], _ => exact ⟨a0, a1, a2, a3, rfl⟩
  have x0 : DataW.trod enc Tryz.prog W base (fun _ => true) true m 3 (([a0, a1, a2, a3].drop 0).take (Tryz.prog.cellsOf 3)) = xs[0]? := hf 0 _ rfl
  rw [cellsIN, List.getElem?_eq_getElem (by rw [hxl]; decide)] at x0
  have x1 : DataW.trod enc Tryz.prog W base (fun _ => true) true m 9 (([a0, a1, a2, a3].drop 1).take (Tryz.prog.cellsOf 9)) = xs[1]? := hf 1 _ rfl
  rw [cellsST, List.getElem?_eq_getElem (by rw [hxl]; decide)] at x1
  have x2 : DataW.trod enc Tryz.prog W base (fun _ => true) true m 9 (([a0, a1, a2, a3].drop 2).take (Tryz.prog.cellsOf 9)) = xs[2]? := hf 2 _ rfl
  rw [cellsST, List.getElem?_eq_getElem (by rw [hxl]; decide)] at x2
  have x3 : DataW.trod enc Tryz.prog W base (fun _ => true) true m 28 (([a0, a1, a2, a3].drop 3).take (Tryz.prog.cellsOf 28)) = xs[3]? := hf 3 _ rfl
  rw [cellsU6, List.getElem?_eq_getElem (by rw [hxl]; decide)] at x3
  obtain ⟨z0, e0, _, _⟩ := DataW.trod_int Tryz.underlying3 x0
  obtain ⟨s1, e1, _, _⟩ := DataW.trod_string Tryz.underlying9 x1
  obtain ⟨s2, e2, _, _⟩ := DataW.trod_string Tryz.underlying9 x2
  obtain ⟨z3, e3, _, w3⟩ := DataW.trod_int Tryz.underlying28 x3
  have e0 : [a0] = [Value.int .i64 z0] := e0
  have e1 : [a1] = [Value.string s1] := e1
  have e2 : [a2] = [Value.string s2] := e2
  have e3 : [a3] = [Value.int .u16 z3] := e3
  cases e0; cases e1; cases e2; cases e3
  have hz : (0 : Int) ≤ z3 ∧ z3 ≤ 65535 := by
    simp only [Lit.wf, Bool.and_eq_true, decide_eq_true_eq] at w3
    exact w3
  refine ⟨⟨z0, s1.data.toList, s2.data.toList, z3.toNat⟩, ?_, by show z3.toNat ≤ 65535; omega⟩
  rw [str_of s1, str_of s2]
  show _ = [Value.int .i64 z0, V2.S.vO (.str s1.data.toList), V2.S.vO (.str s2.data.toList), Value.int .u16 (Int.ofNat z3.toNat)]
  rw [show (Int.ofNat z3.toNat) = z3 by show ((z3.toNat : Nat) : Int) = z3; exact Int.toNat_of_nonneg hz.1]
instance : Inhabited V2.S.Ac := ⟨⟨0, [], [], 0⟩⟩
set_option maxRecDepth 100000 in
theorem open_acts {H : Type} {enc : TypeId × Value → H} {W : World} {v : Value} {d : DataW H} {p : List MemPlace} {r : Reach} {base : Nat} (hv : Value.okWide Tryz.prog W r base 22 v) (h : DataW.Trod enc Tryz.prog W 0 (fun _ => true) true 22 v d p) :
    ∃ l : List V2.S.Ac, V2.S.RowV W v 4 l.length (V2.S.aAs l) ∧ ∀ a ∈ l, a.m ≤ 65535 := by
  have hv0 := hv
  obtain ⟨A, L, C, rfl⟩ := okWide_slice Tryz.underlying22 hv
  obtain ⟨n, h⟩ := h
  rcases Deep.open_slice Tryz.underlying22 h with ⟨e, _⟩ | ⟨a, len, cap, m, n2, D, Pl, e, _, hl, hm, hmm, _, hx⟩
  · obtain ⟨rfl, rfl, rfl⟩ : A = none ∧ L = 0 ∧ C = 0 := by simpa [Value.cells] using e
    exact ⟨[], ⟨rfl, fun a ha => absurd ha List.not_mem_nil, .inl ⟨rfl, rfl⟩⟩, fun a ha => absurd ha List.not_mem_nil⟩
  · obtain ⟨rfl, rfl, rfl⟩ : A = some a ∧ L = len ∧ C = cap := by simpa [Value.cells] using e
    obtain ⟨hs, hb⟩ : a.spot = none ∧ a.block < W.heap.size := by
      simp only [Value.okWide, Tryz.underlying22, Cell.okWide, Cell.ok] at hv0
      obtain ⟨_, _, _, hsp, row, cells, hsh, _⟩ := hv0
      refine ⟨hsp, ?_⟩
      unfold World.shape? at hsh
      split at hsh
      · rename_i hh; exact (Array.getElem?_eq_some_iff.1 hh).1
      · cases hsh
    simp only [if_true] at hmm
    rw [cellsAC] at hx
    have each : ∀ i, i < L → ∃ x : V2.S.Ac, (∀ j, j < 4 → W.cell? ⟨a.block, a.off + (i * 4 + j), none⟩ = ((V2.S.aA x).map V2.S.vO)[j]?) ∧ x.m ≤ 65535 := fun i hi => by
      obtain ⟨cs', h1, h2⟩ := hx i (by omega)
      obtain ⟨x, rfl, hx2⟩ := open_act h2
      refine ⟨x, fun j hj => ?_, hx2⟩
      have := (World.cells?_some h1).2.2 j hj
      rw [add_none hs, add_none rfl] at this
      rw [← this]
      show W.cell? ⟨a.block, a.off + (i * 4 + j), none⟩ = W.cell? ⟨a.block, a.off + i * 4 + j, none⟩
      rw [Nat.add_assoc]
    obtain ⟨f, hf⟩ := Deep.choose_lt each
    have hlen : ((List.range L).map f).length = L := by simp
    refine ⟨(List.range L).map f, ⟨V2.S.aAs_len _, V2.S.aAs_sc _, .inr ⟨a.block, a.off, C, ?_, by rw [hlen]; exact hl, hb, fun i x hi => ?_⟩⟩, fun x hx => ?_⟩
    · rw [hlen]; obtain ⟨b, o, sp⟩ := a; cases hs; rfl
    · have hi' := (List.getElem?_eq_some_iff.1 hi).1
      rw [V2.S.aAs_len, hlen] at hi'
      have hk : i / 4 < L := by omega
      have hg : ((List.range L).map f)[i / 4]? = some (f (i / 4)) := by simp [hk]
      have h3 := V2.S.aAs_at _ (i / 4) (i % 4) _ hg (by omega)
      rw [show i / 4 * 4 + i % 4 = i by omega, hi] at h3
      have h4 := (hf (i / 4) hk).1 (i % 4) (by omega)
      rw [show i / 4 * 4 + i % 4 = i by omega, List.getElem?_map, ← h3] at h4
      exact h4
    · obtain ⟨i, hi, rfl⟩ := List.mem_map.1 hx
      exact (hf i (by simpa using hi)).2
end Go.Proofs.YtjoakhpdajlhiaaGreatDoor
namespace Go.Proofs.YtjoakhpdajlhiaaGreatDoor.V2
open Go
open Go.RowKit
theorem eqIn_map {Pr : Program} (w : World) (d : Nat) (t k e : TypeId) (p : Option Nat) (h : Pr.underlying t = some (.map k e)) :
    (Op.equalIn (d + 1) t (.map p) (.map none)).run Pr w = .ok p.isNone w := by
  cases p <;> simp [Op.equalIn, run_underlying h]
theorem eql_map {Pr : Program} (w : World) (t k e : TypeId) (p : Option Nat) (h : Pr.underlying t = some (.map k e)) :
    (binOp .eql t (.map p) (.map none)).run Pr w = .ok (.bool p.isNone) w := by
  simp only [binOp]
  simp [show Op.equal t (.map p) (.map none) = Op.equalIn (9999 + 1) t (.map p) (.map none) from rfl, eqIn_map w 9999 t k e p h]
theorem assert_map {Pr : Program} (w : World) (t xT k e : TypeId) (v : Value) (h : Pr.underlying t = some (.map k e)) : (Instr.typeAssert (.iface t v) xT t false).run Pr w = .ok v w := by
  simp [Instr.typeAssert, run_underlying h, go_sem, Result.andThen]
theorem clone_map {Pr : Program} (w : World) {r : Nat} {es : Array MapEntry} {clock : Nat} (t : TypeId) (hb : w.heap[r]? = some (.map es clock)) :
    (Extern.MapsClone.clone #[.iface t (.map (some r))]).run Pr w = .ok (.iface t (.map (some w.heap.size))) (w.alloc (.map es clock)) := by
  have e : Extern.MapsClone.clone #[.iface t (.map (some r))] = (getObj r >>= fun o => match o with
      | .map entries clock => (newObj (.map entries clock) >>= fun n => pure (.iface t (.map (some n))))
      | _ => stuck "maps.clone: a map expected") := rfl
  rw [e]
  simp [MapKept.run_getObj_map hb, Result.andThen, go_sem]
set_option maxRecDepth 100000 in
set_option maxHeartbeats 2000000 in
theorem clone57 (b : Nat) (es : Array MapEntry) (clock : Nat) (w : World) (hb : w.heap[b]? = some (.map es clock)) :
    Calls Tryz.prog 14 #[.map (some b)] w fun e w' => e = .returned (.map (some w.heap.size)) ∧ w' = w.alloc (.map es clock) := by
  have hq := fun w => eql_map (Pr := Tryz.prog) w 37 _ _ (some b) Tryz.underlying37
  go_enter Tryz.func14, Tryz.ntmps14
  go_wp2
  rw [run_callFunc_extern Tryz.func39 (by kernel_rfl) (by kernel_rfl) (by kernel_rfl) (e := Extern.MapsClone.clone) (by kernel_rfl), clone_map w 37 hb]
  simp only [Result.andThen]
  rw [Oper.upon_value]
  go_wp2
  rw [assert_map _ 37 _ _ _ _ Tryz.underlying37]
  simp only [Result.andThen]
  rw [Oper.upon_value]
  go_wp2
  go_ret
  exact ⟨rfl, rfl⟩
noncomputable def mdF (g : FuncId → List AV → AH → Out) (f : FuncId) (args : List AV) (σ : AH) : Out :=
  bif Nat.beq f 14 then (match args with
    | [.map b] => match σ.get b with
      | some (.map l) => (Nat.blt σ.next 1000000, .map σ.next, σ.new (.map l))
      | _ => bad σ
    | _ => bad σ)
  else g f args σ
theorem mdF_ok {Y : List Yl} {g : FuncId → List AV → AH → Out} (hg : FnOk Tryz.prog 3 g Y) : FnOk Tryz.prog 3 (mdF g) Y := by
  intro f args σ h
  unfold mdF at h ⊢
  cases hf : Nat.beq f 14
  case false => rw [hf] at h; rw [cond_false] at h ⊢; exact hg f args σ h
  rw [hf] at h
  simp only [cond_true] at h ⊢
  split at h
  case h_2 => cases h
  rename_i b
  split at h
  case h_2 => cases h
  rename_i l hl
  have hfn : (∃ fn, Tryz.prog.funcs[f]? = some fn ∧ fn.body.isSome = true ∧ (fn.name == "runtime.NumGoroutine") = false) ∧ ∀ (c : Nat) (es : Array MapEntry) (clock : Nat) (w : World), w.heap[c]? = some (.map es clock) → Calls Tryz.prog f #[.map (some c)] w fun e w' => e = .returned (.map (some w.heap.size)) ∧ w' = w.alloc (.map es clock) := by
    have e := Nat.eq_of_beq_eq_true hf; subst e
    exact ⟨⟨_, Tryz.func14, by kernel_rfl, by kernel_rfl⟩, fun c es ck w hw => clone57 c es ck w hw⟩
  refine ⟨hfn.1, fun ρ W vs _ hG hr hvs => ?_⟩
  obtain ⟨v, m, rfl, hv, hm⟩ := hvs
  have hm : m = [] := hm
  subst hm
  unfold VR at hv
  obtain ⟨c, d, hb, rfl⟩ := hv
  obtain ⟨_, hc, ob, ho, hO⟩ := hr.dom b c d hb
  rw [hl] at ho
  cases ho
  obtain ⟨es, ck, hx, h1, h2, h3⟩ := hO.2 l rfl
  refine (hfn.2 c es ck W hx).mono fun e W' ⟨e1, e2⟩ => ?_
  subst e1 e2
  have hOR : OR ρ (0, 0) (.map l) (some (.map es ck)) := ⟨fun h => (by cases h), fun l' hl' => (by cases hl'; exact ⟨es, ck, rfl, h1, h2, h3⟩)⟩
  obtain ⟨ρ', g1, g2, g3, g4⟩ := hr.new (s := 0) h hOR
  refine ⟨_, ρ', rfl, g3, g4, ?_⟩
  unfold VR
  exact ⟨_, _, g1, rfl⟩
noncomputable def cmA (args : List AV) (σ : AH) : Out := match args with
  | [.map b] => match σ.get b with
    | some (.map l) => (Nat.blt σ.next 1000000, .map σ.next, σ.new (.map l))
    | _ => bad σ
  | _ => bad σ
noncomputable def cmQ (l : List FV) (σ : FH) (k : KV) : FR := k1L l fun x => kM (fun b => gM σ b (kMp fun m => nM σ (.map m) fun b σ => k (.m b) σ)) x
theorem cmQ_sm (l : List FV) (σ : FH) (k : KV) : Sm (cmQ l σ k) k (cmA (αL l) (αH σ)) := by
  intro h
  unfold cmQ at h ⊢
  obtain ⟨x, rfl, h1⟩ := Cp h
  rw [h1] at h ⊢
  obtain ⟨b, rfl, h2⟩ := Ka h
  rw [h2] at h ⊢
  obtain ⟨ob, _, h3, h4⟩ := Bz h
  rw [h4] at h ⊢
  obtain ⟨m, rfl, h5⟩ := Ea h
  rw [h5] at h ⊢
  obtain ⟨h6, σ', h7, h8⟩ := Dp h
  rw [h8]
  refine ⟨.m σ.next, σ', ?_, rfl⟩
  unfold cmA
  simp only [αL, αV, h3, αO]
  rw [h6, h7]; rfl
end Go.Proofs.YtjoakhpdajlhiaaGreatDoor.V2
namespace Go.Proofs.YtjoakhpdajlhiaaGreatDoor.V2.S
open Go
def Hx (x : Bs) : List Bs → List Bs
  | [] => [x]
  | y :: l => if y < x then y :: Hx x l else x :: y :: l
def Db : List Bs → List Bs
  | [] => []
  | x :: l => Hx x (Db l)
def insE (x : En) : List En → List En
  | [] => [x]
  | y :: l => if y.path < x.path then y :: insE x l else x :: y :: l
def A2 : List En → List En
  | [] => []
  | x :: l => insE x (A2 l)
theorem insE_map (x : En) : ∀ l : List En, (insE x l).map En.path = Hx x.path (l.map En.path)
  | [] => rfl
  | y :: l => by
    unfold insE
    rw [List.map_cons, Hx]
    split
    · rw [List.map_cons, insE_map x l]
    · rfl
theorem Dt : ∀ l : List En, (A2 l).map En.path = Db (l.map En.path)
  | [] => rfl
  | x :: l => by rw [A2, insE_map, Dt l]; rfl
theorem insE_perm (x : En) : ∀ l : List En, (insE x l).Perm (x :: l)
  | [] => .refl _
  | y :: l => by
    unfold insE
    split
    · exact (List.Perm.cons y (insE_perm x l)).trans (List.Perm.swap x y l)
    · exact .refl _
theorem A0 : ∀ l : List En, (A2 l).Perm l
  | [] => .refl _
  | x :: l => (insE_perm x (A2 l)).trans (List.Perm.cons x (A0 l))
theorem C4 (l : List En) : (A2 l).length = l.length := (A0 l).length_eq
theorem Eh {l l' : List En} (h : l.Perm l') : At l = At l' := by
  induction h with
  | nil => rfl
  | cons x _ ih => simp only [At, ih]
  | swap x y l => simp only [At]; omega
  | trans _ _ h1 h2 => exact h1.trans h2
theorem Hq : ∀ {L : List En} {e : En}, (L.map En.path).Nodup → e ∈ L → Av En.path e.path L = some e
  | [], e, _, h => absurd h List.not_mem_nil
  | b :: L, e, hn, h => by
    rw [List.map_cons, List.nodup_cons] at hn
    unfold Av
    rcases List.mem_cons.1 h with h | h
    · subst h; rw [if_pos rfl]
    · rw [if_neg, Hq hn.2 h]
      intro hb
      exact hn.1 (by rw [hb]; exact List.mem_map_of_mem h)
theorem sortE_at {L : List En} {i : Nat} {e : En} (hn : (L.map En.path).Nodup) (h : (A2 L)[i]? = some e) : Av En.path e.path L = some e := Hq hn ((A0 L).mem_iff.1 (List.mem_of_getElem? h))
theorem sortB_at {L : List En} {i : Nat} {e : En} (h : (A2 L)[i]? = some e) : (Db (L.map En.path))[i]? = some e.path := by rw [← Dt, List.getElem?_map, h]; rfl
theorem sortB_len (L : List En) : (Db (L.map En.path)).length = L.length := by rw [← Dt, List.length_map, C4]
theorem Fl : ∀ {l : List En} {i : Nat} {e : En}, l[i]? = some e → At (l.take (i + 1)) = At (l.take i) + (e.path.length + e.data.length)
  | [], i, e, h => by simp at h
  | b :: l, 0, e, h => by
    simp at h; subst h
    simp [At]
  | b :: l, i + 1, e, h => by
    have h : l[i]? = some e := by simpa using h
    have := Fl h
    simp only [List.take_succ_cons, At, this]; omega
theorem D2 : ∀ (l : List En) (i : Nat), At (l.take i) ≤ At l
  | [], i => by simp [At]
  | b :: l, 0 => by simp [At]
  | b :: l, i + 1 => by
    have := D2 l i
    simp only [List.take_succ_cons, At]; omega
end Go.Proofs.YtjoakhpdajlhiaaGreatDoor.V2.S
namespace Go.Proofs.YtjoakhpdajlhiaaGreatDoor.V2.S
open Go
set_option maxRecDepth 100000
set_option maxHeartbeats 4000000
set_option linter.unusedVariables false
attribute [local irreducible] fN fO nM gM pM Phi.fn Phi.yl Phi.up mp bl Au Be Bh pack
def KeysS (Φ : Phi) : Prop := ∀ {mb : Nat} {L : List En} {n : Nat} {m : T FObj}, Am m mb (.map (L.map fun a => (.s (pack (En.path a)), Eb a))) → mb < n → (L.map En.path).Nodup → L.length ≤ 1000 → (∀ e ∈ L, e.path.length ≤ 1000000) → ∀ (k : KV) (P : FR), n + 2 ≤ 1000000 →
  (∀ v n' m', n ≤ n' → n' ≤ n + 2 → Kp n m m' → (L = [] → v = .o .sl) → (L ≠ [] → ∃ b, v = .sl b 0 L.length L.length false 1 ∧ n ≤ b ∧ b < n' ∧ Am m' b (.cells (vsL (Db (L.map En.path))) 9 .more)) → k v ⟨n', m'⟩ = P) → Phi.fn Φ 57 [.m mb] ⟨n, m⟩ (fun v σ => Phi.fn Φ 56 [v] σ k) = P
def WalkS (H : HF) (y : Nat) (Y : HF) : Prop := ∀ {tb mb : Nat} {t : Tr} {n : Nat} {m : T FObj} (c : Nat) (xs : List Nat) (I : Nat → T FObj → Prop), TreeAt m tb mb 39 t → tb < n → mb < n → WfT t → (∀ x ∈ xs, x < n) → (∀ x ∈ xs, tb ≠ x) → (∀ x ∈ xs, mb ≠ x) → (∀ i n1 m1 m2, n ≤ n1 → Kp n1 m1 m2 → I i m1 → I i m2) →
  (∀ i e n1 m1 (k : KV) (P : FR), (A2 t.L)[i]? = some e → n ≤ n1 → n1 + c ≤ 1000000 → Kq xs n m m1 → I i m1 → (∀ n2 m2, n1 ≤ n2 → n2 ≤ n1 + c → Kq xs n1 m1 m2 → I (i + 1) m2 → k (.b true) ⟨n2, m2⟩ = P) → Y [Eb e] ⟨n1, m1⟩ k = P) →
  ∀ (k : KV) (P : FR), n + 2 + c * t.L.length ≤ 1000000 → I 0 m → (∀ n' m', n ≤ n' → n' ≤ n + 2 + c * t.L.length → Kq xs n m m' → I t.L.length m' → k (.tup []) ⟨n', m'⟩ = P) → H [.p tb 0, .y y] ⟨n, m⟩ k = P
theorem walk_s {O : Oz} (hO : O = zO) (Φ : Phi) (H1 : NoneS (Phi.fn Φ 13)) (H2 : KeysS Φ) (y : Nat) (Y : HF) (hy : Phi.yl Φ y = Y) : WalkS (p38 O Φ) y Y := fun {tb mb t n m} c xs I hT htb hmb hW hx1 hx2 hx3 hI hY k P hn h0 hf => by
  have hT1 := hT.s
  have hT2 := hT.m
  have hwl := hW.len
  have hpw : ∀ e ∈ t.L, e.path.length ≤ 1000000 := fun e he => by have := (hW.pl e he).1; omega
  by_cases hL : t.L = []
  · have hl0 : t.L.length = 0 := by rw [hL]; rfl
    rw [hl0] at hf hn
    repeat' ((conv => lhs; whnf); first | ((with_reducible refine A4 ?_); first | refine H1 (hT.kp kQ htb hmb) _ _ ?_ | (refine H2 hT2 hmb hW.nd (by omega) hpw _ _ (by omega) ?_; rintro v1 n1 m1 h1 g1 k1 q0 q1; obtain rfl := q0 hL)) | ((with_reducible refine fa0 hO ?_)) | ((with_reducible refine Br ?_); refine ldC hO aQ (by rfl) ?_) | ((with_reducible refine lvN hO ?_)))
    all_goals (conv => lhs; whnf)
    all_goals first
      | exact hf _ _ (by omega) (by omega) qQ h0
      | (refine lpI hO (fun t e n' m' => t = 0 ∧ n' = n1 ∧ m' = m1 ∧ e = eof [(15, .n .i64 0)]) ?_ ?_ _ 0 _ _ _ (by omega) ⟨rfl, rfl, rfl, rfl⟩
         · rintro t e n' m' ⟨_, rfl, _⟩; omega
         · rintro t e n' m' ih ⟨rfl, rfl, rfl, rfl⟩ hih
           repeat' ((conv => lhs; whnf); first | ((with_reducible refine ltF hO (by omega) ?_)))
           all_goals (conv => lhs; whnf)
           all_goals first
             | exact hf _ _ (by omega) (by omega) (Kq.of kQ _) (hI 0 n m _ (Nat.le_refl _) kQ h0))
  · 
    repeat' ((conv => lhs; whnf); first | ((with_reducible refine A4 ?_); first | refine H1 (hT.kp kQ htb hmb) _ _ ?_ | (refine H2 hT2 hmb hW.nd (by omega) hpw _ _ (by omega) ?_; rintro v1 n1 m1 h1 g1 k1 q0 q1; obtain ⟨b, rfl, q1, q2, q3⟩ := q1 hL)) | ((with_reducible refine fa0 hO ?_)) | ((with_reducible refine Br ?_); refine ldC hO aQ (by rfl) ?_) | ((with_reducible refine lvS hO ?_)))
    all_goals (conv => lhs; whnf)
    all_goals first
      | exact absurd rfl hL
      | (refine lpI hO (fun q e n' m' => ∃ i, i ≤ t.L.length ∧ q = t.L.length - i ∧ n1 ≤ n' ∧ n' ≤ n1 + c * i ∧ Kq xs n m m' ∧ Kq xs n1 m1 m' ∧ I i m' ∧ e = eof [(15, .n .i64 i)]) ?_ ?_ _ t.L.length _ _ _ (by omega) ⟨0, Nat.zero_le _, by omega, Nat.le_refl _, by omega, Kq.of kQ _, Kq.refl _ _ _, hI 0 n m _ (Nat.le_refl _) kQ h0, rfl⟩
         · rintro q e n' m' ⟨i, _, _, h, _⟩; omega
         · rintro q e n' m' ih ⟨i, z1, rfl, z2, z3, z4, z5, z6, rfl⟩ hih
           have hT' := hT.kq z4 htb hmb hx2 hx3
           have hT1' := hT'.s
           have hT2' := hT'.m
           have hb' : Am m' b (.cells (vsL (Db (t.L.map En.path))) 9 .more) := z5 _ _ q2 (fun x hx => by have := hx1 x hx; omega) q3
           clear hT1 hT2
           rcases Nat.lt_or_ge i t.L.length with hlt | hge
           · obtain ⟨e1, he⟩ : ∃ e1, (A2 t.L)[i]? = some e1 := ⟨_, List.getElem?_eq_getElem (by rw [C4]; omega)⟩
             have hle := sortE_at hW.nd he
             have hci : c * (i + 1) ≤ c * t.L.length := Nat.mul_le_mul_left c (by omega)
             have hcs : c * (i + 1) = c * i + c := Nat.mul_succ c i
             repeat' ((conv => lhs; whnf); first | ((rw [hy]; refine hY _ _ _ _ _ _ he (by omega) (by omega) z4 z6 (fun n5 m5 h5 g5 k5 q5 => ?_))) | ((with_reducible refine fa0 hO ?_)) | ((with_reducible refine Br ?_); first | refine ldC hO aQ (I8 (sortB_at he)) ?_ | refine ldC hO aQ (by rfl) ?_) | ((with_reducible refine ltT hO (by omega) ?_)) | ((with_reducible refine adI hO (by omega) ?_)) | ((with_reducible refine ix01 hO (by omega) ?_)) | ((with_reducible refine atLk ?_); (refine lkS1 hO aQ (fun a hla => ?_) (fun hla => absurd hla (by rw [hle]; simp)); obtain rfl : e1 = a := by rw [hle] at hla; exact Option.some.inj hla)))
             all_goals (conv => lhs; whnf)
             all_goals first
               | exact hih (t.L.length - (i + 1)) _ _ _ (by omega) ⟨i + 1, by omega, rfl, by omega, by omega, z4.trans k5 (by omega), z5.trans k5 (by omega), q5, rfl⟩
           · obtain rfl : i = t.L.length := by omega
             repeat' ((conv => lhs; whnf); first | ((with_reducible refine ltF hO (by omega) ?_)))
             all_goals (conv => lhs; whnf)
             all_goals first
               | exact hf _ _ (by omega) (by omega) z4 z6)
end Go.Proofs.YtjoakhpdajlhiaaGreatDoor.V2.S
namespace Go.Proofs.YtjoakhpdajlhiaaGreatDoor.V2.S
open Go
set_option maxRecDepth 100000
set_option maxHeartbeats 4000000
set_option linter.unusedVariables false
attribute [local irreducible] fN fO nM gM pM Phi.fn Phi.yl Phi.up mp bl Au Be Bh pack
theorem used_aux {t : Tr} {i : Nat} {e : En} (hW : WfT t) (he : (A2 t.L)[i]? = some e) : i < 128 ∧ At ((A2 t.L).take i) + (e.path.length + e.data.length) ≤ 32768 := by
  have h1 := (List.getElem?_eq_some_iff.1 he).1
  rw [C4] at h1
  have h2 := Fl he
  have h3 := D2 (A2 t.L) (i + 1)
  rw [Eh (A0 t.L)] at h3
  exact ⟨by have := hW.len; omega, by have := hW.sz; omega⟩
theorem used_s {O : Oz} (hO : O = zO) (Φ : Phi) (H : ∀ y Y, WalkS (Phi.fn (Phi.up Φ y Y) 38) y Y) : UsedS (p33 O Φ) := fun {tb mb t n m} hT htb hmb hW k P hn hf => by
  have hlen := hW.len
  have ez : At ((A2 t.L).take t.L.length) = At t.L := by rw [List.take_of_length_le (by rw [C4]; exact Nat.le_refl _), Eh (A0 t.L)]
  rw [← ez] at hf
  repeat' ((conv => lhs; whnf); first | ((with_reducible refine A4 ?_); refine H _ _ 1 [n, n + 1] (fun i m2 => Am m2 n (.ints .i64 [Int.ofNat i] 3 .exact) ∧ Am m2 (n + 1) (.ints .i64 [Int.ofNat (At ((A2 t.L).take i))] 3 .exact)) (hT.kp kQ htb hmb) (by omega) (by omega) hW (fun x hx => by simp only [List.mem_cons, List.not_mem_nil, or_false] at hx; omega) (fun x hx => by simp only [List.mem_cons, List.not_mem_nil, or_false] at hx; omega) (fun x hx => by simp only [List.mem_cons, List.not_mem_nil, or_false] at hx; omega) (fun i n1 m1 m2 h1 hk hI => ⟨hk _ _ (by omega) hI.1, hk _ _ (by omega) hI.2⟩) (fun i e n1 m1 k5 P5 he hn1 hc5 hq5 hI5 hk5 => hI5.elim fun ha5 hb5 => (used_aux hW he).elim fun z1 z2 => ?_) _ _ (by omega) ⟨aQ, aQ⟩ (fun n4 m4 h4 g4 k4 hI4 => hI4.elim fun ha4 hb4 => (fun k4l => ?_) (Kq.low (n := n) k4 (by omega) (by simp)))) | ((with_reducible refine fa0 hO ?_)) | ((with_reducible refine Br ?_); first | refine ldC hO aQ (by rfl) ?_ | refine ldI hO aQ (by rfl) ?_) | (((with_reducible refine lsS hO ?_); try simp only [List.length_cons, List.length_nil, Nat.zero_add])) | ((with_reducible refine adI hO (by omega) ?_)) | ((with_reducible refine Hc ?_); refine ust hO ?_) | ((with_reducible refine alO hO (by omega) ?_)) | ((with_reducible refine rcE hO (by kernel_rfl) rfl ?_)) | (with_reducible refine (Aj _ _).trans ?_) | (with_reducible refine (Dl (by omega)).trans ?_) | (with_reducible refine pM_mp.trans ?_) | (refine Hy aQ ?_))
  all_goals (conv => lhs; whnf)
  all_goals first
    | exact hf _ _ (by omega) (by omega) kQ
    | exact hk5 _ _ (by omega) (by omega) qQ ⟨aQ, by rw [Fl he, ← Nat.add_assoc]; repeat (first | assumption | exact Ap (by omega) | apply Ff (by omega) (by omega) | apply kp_am (by assumption) (by omega) | apply Kq.am (by assumption) (by omega) (by simp only [List.mem_cons, List.not_mem_nil, or_false, forall_eq_or_imp, forall_eq, false_implies, implies_true, ne_eq, and_true]; omega))⟩
end Go.Proofs.YtjoakhpdajlhiaaGreatDoor.V2.S
namespace Go.Proofs.YtjoakhpdajlhiaaGreatDoor.V2.S
open Go
set_option maxRecDepth 100000
set_option maxHeartbeats 4000000
set_option linter.unusedVariables false
attribute [local irreducible] fN fO nM gM pM Phi.fn mp bl Au Be Bh pack
theorem dataG_le {t : Tr} (h : At t.L ≤ 32768) (p : Bs) : (C3 t p).length ≤ 32768 := by
  unfold C3 Dy
  cases hl : Av En.path p t.L with
  | none => exact Nat.zero_le _
  | some a => have := (B2 hl).1; show a.data.length ≤ 32768; omega
def WriteS (H : HF) : Prop := ∀ {tb mb : Nat} {t : Tr} {n : Nat} {m : T FObj}, TreeAt m tb mb 39 t → tb < n → mb < n → tb ≠ mb → WfT t → ∀ (path data : Bs) (more : Bool), path.length ≤ 900000 → data.length ≤ 800000 → Iv 760 [mb] H [.p tb 0, .s (pack path), .s (pack data), .b more] n m (fun v n' m' => v = .n .i64 (Bp t path data more).2 ∧ TreeAt m' tb mb 39 (Bp t path data more).1)
theorem write_s {O : Oz} (hO : O = zO) (Φ : Phi) (HA : AbsS (Phi.fn Φ 15)) (HK : KindS (Phi.fn Φ 16)) (HP : PutS (Phi.fn Φ 17)) : WriteS (p19 O Φ) := fun {tb mb t n m} hT htb hmb htm hW path data more hpl hdl k P hn hf => by
  have hT1 := hT.s
  have hT2 := hT.m
  have hal := Ew (t := t) (path := path) hW.c2 hpl
  have hdg := dataG_le hW.sz (Ae t path).1
  have hws := hW.sz
  have key : ∀ (d : Bs), (if more then C3 t (Ae t path).1 ++ data else data) = d → ¬ (Ae t path).2 ≠ 0 → Al t (Ae t path).1 ≠ 1 → ∀ n' m' v, n ≤ n' → n' ≤ n + 760 → Kq [mb] n m m' → (v = .n .i64 (Cn t ⟨(Ae t path).1, false, d⟩).2 ∧ TreeAt m' tb mb 39 (Cn t ⟨(Ae t path).1, false, d⟩).1) → k v ⟨n', m'⟩ = P := fun d hd h1 h2 n' m' v h3 h4 h5 h6 => by
    have e : Bp t path data more = Cn t ⟨(Ae t path).1, false, d⟩ := by unfold Bp; rw [if_neg h1, if_neg h2, hd]
    rw [e] at hf; exact hf _ _ _ h3 h4 h5 h6
  have e1 : (Ae t path).2 ≠ 0 → Bp t path data more = (t, (Ae t path).2) := fun h => by unfold Bp; rw [if_pos h]
  have e2 : ¬ (Ae t path).2 ≠ 0 → Al t (Ae t path).1 = 1 → Bp t path data more = (t, 5) := fun h h2 => by unfold Bp; rw [if_neg h, if_pos h2]
  have ed : ∀ a, Av En.path (Ae t path).1 t.L = some a → C3 t (Ae t path).1 = a.data := fun a hla => by unfold C3 Dy; rw [hla]
  have en : Av En.path (Ae t path).1 t.L = none → C3 t (Ae t path).1 = [] := fun hla => by unfold C3 Dy; rw [hla]
  cases more
  all_goals
    repeat' ((conv => lhs; whnf); first | ((with_reducible refine A4 ?_); first | refine HA (hT.kp kQ htb hmb) (by omega) (by omega) hW.c1 hW.c2 _ (by omega) _ _ (by omega) (fun n3 m3 h3 g3 k3 => ?_) | refine HK (hT.kp kQ htb hmb) (by omega) (by omega) _ _ _ (by omega) (fun n4 m4 h4 g4 k4 => ?_) | refine HP (hT.kp kQ htb hmb) (by omega) (by omega) htm hW ⟨(Ae t path).1, false, data⟩ (by show (Ae t path).1.length ≤ 900000; omega) (by show data.length ≤ 900000; omega) _ _ (by omega) (fun v5 n5 m5 h5 g5 k5 q5 => ?_) | refine HP (hT.kp kQ htb hmb) (by omega) (by omega) htm hW ⟨(Ae t path).1, false, a.data ++ data⟩ (by show (Ae t path).1.length ≤ 900000; omega) (by show (a.data ++ data).length ≤ 900000; rw [List.length_append]; omega) _ _ (by omega) (fun v5 n5 m5 h5 g5 k5 q5 => ?_)) | ((with_reducible refine fa0 hO ?_)) | ((with_reducible refine Br ?_); refine ldC hO aQ (by rfl) ?_) | ((with_reducible refine eqB hO (fun h => ?_) (fun h => ?_))) | ((with_reducible refine neB hO (fun h => ?_) (fun h => ?_))) | ((with_reducible refine adS hO (by first | omega | (simp only [List.length_cons, List.length_nil, List.length_append]; omega)) ?_)) | ((with_reducible refine atLk ?_); refine lkS1 hO aQ (fun a hla => (fun hsz => ?_) (B2 hla)) (fun hla => ?_)) | ((with_reducible first | refine umt hO ?_ | refine uqu hO ?_ | refine urm hO ?_ | refine uan hO ?_ | refine uro hO ?_ | refine uxr hO ?_ | refine uhl hO ?_ | refine uhr hO ?_ | refine uad hO ?_ | refine usb hO ?_ | refine ult hO ?_ | refine ule hO ?_ | refine ugt hO ?_ | refine uge hO ?_ | refine ueq hO ?_ | refine une hO ?_ | refine ucv hO ?_ | refine uia hO ?_ | refine usv hO ?_ | refine ubu hO ?_ | refine uap hO ?_ | refine ubs hO ?_ | refine umm hO ?_ | refine upq hO ?_ | refine unq hO ?_ | refine uln hO ?_)))
    all_goals (conv => lhs; whnf)
  all_goals first
    | (rw [e1 (by assumption)] at hf; exact hf _ _ _ (by omega) (by omega) qQ ⟨rfl, hT.kp kQ htb hmb⟩)
    | (rw [e2 (by simp [*]) (by assumption)] at hf; exact hf _ _ _ (by omega) (by omega) qQ ⟨rfl, hT.kp kQ htb hmb⟩)
    | exact key data rfl (by simp [*]) (by assumption) _ _ _ (by omega) (by omega) qQ q5
    | exact key (a.data ++ data) (by rw [if_pos rfl, ed a hla]) (by simp [*]) (by assumption) _ _ _ (by omega) (by omega) qQ q5
    | exact key ([] ++ data) (by rw [if_pos rfl, en hla]) (by simp [*]) (by assumption) _ _ _ (by omega) (by omega) qQ q5
def CdS (H : HF) : Prop := ∀ {tb mb : Nat} {t : Tr} {n : Nat} {m : T FObj}, TreeAt m tb mb 39 t → tb < n → mb < n → WfT t → ∀ (path : Bs), path.length ≤ 900000 → Iv 601 [tb] H [.p tb 0, .s (pack path)] n m (fun v n' m' => v = .n .i64 (cdG t path).2 ∧ (tb ≠ mb → TreeAt m' tb mb 39 (cdG t path).1))
theorem cd_s {O : Oz} (hO : O = zO) (Φ : Phi) (HI : IsS (Phi.fn Φ 18)) : CdS (p9 O Φ) := fun {tb mb t n m} hT htb hmb hW path hpl k P hn hf => by
  have hT1 := hT.s
  have hT2 := hT.m
  have e1 : (isG t path 1).2 ≠ 0 → cdG t path = (t, (isG t path 1).2) := fun h => by unfold cdG; rw [if_pos h]
  have e2 : (isG t path 1).2 = 0 → cdG t path = ({ t with cwd := (isG t path 1).1 }, 0) := fun h => by unfold cdG; rw [if_neg (by simp [h])]
  repeat' ((conv => lhs; whnf); first | ((with_reducible refine A4 ?_); refine HI (hT.kp kQ htb hmb) (by omega) (by omega) hW _ _ (by omega) _ _ (by omega) (fun n3 m3 h3 g3 k3 => ?_)) | ((with_reducible refine fa0 hO ?_)) | ((with_reducible refine eqB hO (fun h => ?_) (fun h => ?_))) | ((with_reducible refine Hc ?_); refine stC hO aQ (by kernel_rfl) (fun _ _ _ => rfl) (fun _ => rfl) ?_))
  all_goals (conv => lhs; whnf)
  all_goals first
    | (rw [e1 (by assumption)] at hf; exact hf _ _ _ (by omega) (by omega) qQ ⟨rfl, fun _ => hT.kp kQ htb hmb⟩)
    | (have hz : (isG t path 1).2 = 0 := by assumption
       rw [e2 hz] at hf; exact hf _ _ _ (by omega) (by omega) qQ ⟨by rw [hz], fun _ => ⟨Ap (by omega), aQ⟩⟩)
def NewS (H : HF) : Prop := ∀ (n : Nat) (m : T FObj), Iv 2 [] H [] n m (fun v n' m' => ∃ tb mb, v = .p tb 0 ∧ tb ≠ mb ∧ n ≤ tb ∧ tb < n' ∧ n ≤ mb ∧ mb < n' ∧ TreeAt m' tb mb 39 newG)
theorem new_s {O : Oz} (hO : O = zO) (Φ : Phi) : NewS (p4 O Φ) := fun n m k P hn hf => by
  repeat' ((conv => lhs; whnf); first | ((with_reducible refine atBx ?_); refine bxA hO (by omega) (by simp only [αL, αV, AObj.of, Cv, βO, βL, βV, As]) ?_) | ((with_reducible first | refine umt hO ?_ | refine uqu hO ?_ | refine urm hO ?_ | refine uan hO ?_ | refine uro hO ?_ | refine uxr hO ?_ | refine uhl hO ?_ | refine uhr hO ?_ | refine uad hO ?_ | refine usb hO ?_ | refine ult hO ?_ | refine ule hO ?_ | refine ugt hO ?_ | refine uge hO ?_ | refine ueq hO ?_ | refine une hO ?_ | refine ucv hO ?_ | refine uia hO ?_ | refine usv hO ?_ | refine ubu hO ?_ | refine uap hO ?_ | refine ubs hO ?_ | refine umm hO ?_ | refine upq hO ?_ | refine unq hO ?_ | refine uln hO ?_)) | (with_reducible refine (Dl (by omega)).trans ?_))
  all_goals (conv => lhs; whnf)
  all_goals first
    | exact hf _ _ _ (by omega) (by omega) qQ ⟨n + 1, n, rfl, by omega, by omega, by omega, by omega, by omega, ⟨Ap (by omega), aQ⟩⟩
def CwdS (H : HF) : Prop := ∀ {tb mb : Nat} {t : Tr} {n : Nat} {m : T FObj}, TreeAt m tb mb 39 t → tb < n → mb < n → Eq H [.p tb 0] n m (.s (pack t.cwd))
theorem cwd_s {O : Oz} (hO : O = zO) (Φ : Phi) (H1 : NoneS (Phi.fn Φ 13)) : CwdS (p35 O Φ) := fun {tb mb t n m} hT htb hmb k P hf => by
  have hT1 := hT.s
  repeat' ((conv => lhs; whnf); first | ((with_reducible refine A4 ?_); refine H1 (hT.kp kQ htb hmb) _ _ ?_) | ((with_reducible refine fa0 hO ?_)) | ((with_reducible refine Br ?_); refine ldC hO aQ (by rfl) ?_))
  all_goals (conv => lhs; whnf)
  all_goals first
    | exact hf
end Go.Proofs.YtjoakhpdajlhiaaGreatDoor.V2.S
namespace Go.Proofs.YtjoakhpdajlhiaaGreatDoor.V2.S
open Go
set_option maxRecDepth 100000
set_option maxHeartbeats 4000000
set_option linter.unusedVariables false
attribute [local irreducible] fN fO nM gM pM Phi.fn mp bl Au Be Bh pack
theorem setM_len (x : En) : ∀ L : List En, (setM En.path x L).length = match Av En.path x.path L with | some _ => L.length | none => L.length + 1
  | [] => rfl
  | a :: l => by
    unfold setM Av
    by_cases h : a.path = x.path
    · rw [if_pos h, if_pos h]; rfl
    · rw [if_neg h, if_neg h, List.length_cons, setM_len x l]
      cases Av En.path x.path l <;> rfl
theorem Jc (x : En) : ∀ L : List En, At (setM En.path x L) = (match Av En.path x.path L with | some o => At L - o.data.length | none => At L + x.path.length) + x.data.length
  | [] => by show x.path.length + x.data.length + 0 = 0 + x.path.length + x.data.length; omega
  | a :: l => by
    unfold setM Av
    by_cases h : a.path = x.path
    · rw [if_pos h, if_pos h]; show x.path.length + x.data.length + At l = a.path.length + a.data.length + At l - a.data.length + x.data.length; rw [h]; omega
    · rw [if_neg h, if_neg h]
      have := Jc x l
      cases hl : Av En.path x.path l with
      | none => rw [hl] at this; show a.path.length + a.data.length + At (setM En.path x l) = a.path.length + a.data.length + At l + x.path.length + x.data.length; rw [this]; show _ + (At l + x.path.length + x.data.length) = _; omega
      | some o =>
        have h2 := B2 hl
        rw [hl] at this; show a.path.length + a.data.length + At (setM En.path x l) = a.path.length + a.data.length + At l - o.data.length + x.data.length; rw [this]; show _ + (At l - o.data.length + x.data.length) = _; omega
theorem setM_mem {x e : En} : ∀ {L : List En}, e ∈ setM En.path x L → e = x ∨ e ∈ L
  | [], h => .inl (by simpa [setM] using h)
  | a :: l, h => by
    unfold setM at h
    by_cases hp : a.path = x.path
    · rw [if_pos hp] at h
      rcases List.mem_cons.1 h with h | h
      · exact .inl h
      · exact .inr (List.mem_cons_of_mem _ h)
    · rw [if_neg hp] at h
      rcases List.mem_cons.1 h with h | h
      · exact .inr (by rw [h]; exact List.mem_cons_self)
      · rcases setM_mem h with h | h
        · exact .inl h
        · exact .inr (List.mem_cons_of_mem _ h)
theorem setM_path {x : En} {p : Bs} : ∀ {L : List En}, p ∈ (setM En.path x L).map En.path → p = x.path ∨ p ∈ L.map En.path := fun {L} h => by
  obtain ⟨e, h1, rfl⟩ := List.mem_map.1 h
  rcases setM_mem h1 with h | h
  · exact .inl (by rw [h])
  · exact .inr (List.mem_map.2 ⟨e, h, rfl⟩)
theorem Mx (x : En) : ∀ {L : List En}, (L.map En.path).Nodup → ((setM En.path x L).map En.path).Nodup
  | [], _ => by simp [setM]
  | a :: l, h => by
    rw [List.map_cons, List.nodup_cons] at h
    unfold setM
    by_cases hp : a.path = x.path
    · rw [if_pos hp, List.map_cons, List.nodup_cons, ← hp]; exact h
    · rw [if_neg hp, List.map_cons, List.nodup_cons]
      exact ⟨fun hm => (setM_path hm).elim hp h.1, Mx x h.2⟩
theorem Hz (p : Bs) : ∀ L : List En, (D4 En.path p L).Sublist L
  | [] => by simp [D4]
  | a :: l => by
    unfold D4
    by_cases hp : a.path = p
    · rw [if_pos hp]; exact List.sublist_cons_self _ _
    · rw [if_neg hp]; exact (Hz p l).cons_cons _
theorem sizes_sub : ∀ {l l' : List En}, l.Sublist l' → At l ≤ At l' := fun h => by
  induction h with
  | slnil => exact Nat.le_refl _
  | cons a h ih => show _ ≤ a.path.length + a.data.length + At _; omega
  | cons_cons a h ih => show a.path.length + a.data.length + At _ ≤ a.path.length + a.data.length + At _; omega
theorem Gs : ∀ {L : List En} {p : Bs} {a : En}, Av En.path p L = some a → a ∈ L
  | [], p, a, h => by cases h
  | b :: L, p, a, h => by
    unfold Av at h
    by_cases hb : b.path = p
    · rw [if_pos hb] at h; cases h; exact List.mem_cons_self
    · rw [if_neg hb] at h; exact List.mem_cons_of_mem _ (Gs h)
theorem putG_wf {t : Tr} (hW : WfT t) {x : En} (hx : x.path.head? = some 47) : WfT (Cn t x).1 := by
  unfold Cn
  split
  · exact hW
  split
  · exact hW
  rename_i h1 h2
  refine ⟨Mx x hW.nd, ?_, ?_, fun e he => ?_, fun e he => ?_, hW.hc, hW.c1, hW.c2⟩
  · show (setM En.path x t.L).length ≤ 128
    rw [setM_len]
    have : manyG t x = match Av En.path x.path t.L with | some _ => t.L.length | none => t.L.length + 1 := rfl
    omega
  · show At (setM En.path x t.L) ≤ 32768
    rw [Jc]
    have : Gy t x = match Av En.path x.path t.L with | some o => At t.L - o.data.length | none => At t.L + x.path.length := rfl
    omega
  · rcases setM_mem he with rfl | he
    · exact hx
    · exact hW.hd e he
  · rcases setM_mem he with rfl | he
    · omega
    · exact hW.pl e he
theorem J6 {t : Tr} (hW : WfT t) (path : Bs) : WfT (Co t path).1 := by
  unfold Co
  split
  · exact hW
  split
  · exact hW
  rename_i h1 h2
  exact putG_wf hW (absG_head hW.hc (by omega))
theorem Kt {t : Tr} (hW : WfT t) (path data : Bs) (more : Bool) : WfT (Bp t path data more).1 := by
  unfold Bp
  split
  · exact hW
  split
  · exact hW
  rename_i h1 h2
  exact putG_wf hW (absG_head hW.hc (by omega))
theorem removeG_wf {t : Tr} (hW : WfT t) (path : Bs) : WfT (Ax t path).1 := by
  unfold Ax
  split
  · exact hW
  split
  · exact hW
  split
  · exact hW
  split
  · exact hW
  have hs := Hz (Ae t path).1 t.L
  exact ⟨(hs.map _).nodup hW.nd, Nat.le_trans hs.length_le hW.len, Nat.le_trans (sizes_sub hs) hW.sz, fun e he => hW.hd e (hs.subset he), fun e he => hW.pl e (hs.subset he), hW.hc, hW.c1, hW.c2⟩
theorem kindG_le {t : Tr} (hW : WfT t) {a : Bs} (h : Al t a ≠ 0) : a.head? = some 47 ∧ 1 ≤ a.length ∧ a.length ≤ 256 := by
  unfold Al Dy at h
  by_cases ha : a = [47]
  · subst ha; exact ⟨rfl, by decide, by decide⟩
  · rw [if_neg ha] at h
    cases hl : Av En.path a t.L with
    | none => rw [hl] at h; exact absurd rfl h
    | some e =>
      have h1 := Gs hl
      have h2 := (B2 hl).2
      have h3 := hW.hd e h1
      have h4 := (hW.pl e h1).1
      rw [h2] at h3 h4
      refine ⟨h3, ?_, h4⟩
      cases a with
      | nil => cases h3
      | cons c l => exact Nat.succ_le_succ (Nat.zero_le _)
theorem cdG_wf {t : Tr} (hW : WfT t) (path : Bs) : WfT (cdG t path).1 := by
  unfold cdG
  split
  · exact hW
  rename_i h
  have h : (isG t path 1).2 = 0 := by omega
  have h1 : Al t (isG t path 1).1 ≠ 0 := by
    unfold isG at h ⊢
    by_cases ha : (Ae t path).2 ≠ 0
    · rw [if_pos ha] at h; exact absurd h ha
    · rw [if_neg ha] at h ⊢
      by_cases hk : Al t (Ae t path).1 = 1
      · rw [if_pos hk]; show Al t (Ae t path).1 ≠ 0; omega
      · rw [if_neg hk] at h
        split at h <;> cases h
  obtain ⟨h2, h3, h4⟩ := kindG_le hW h1
  exact ⟨hW.nd, hW.len, hW.sz, hW.hd, hW.pl, h2, h3, h4⟩
theorem newG_wf : WfT newG := ⟨by simp [newG], by decide, by decide, fun e he => absurd he List.not_mem_nil, fun e he => absurd he List.not_mem_nil, rfl, by decide, by decide⟩
end Go.Proofs.YtjoakhpdajlhiaaGreatDoor.V2.S
namespace Go.Proofs.YtjoakhpdajlhiaaGreatDoor.V2.S
open Go
set_option maxRecDepth 100000
set_option maxHeartbeats 4000000
set_option linter.unusedVariables false
attribute [local irreducible] fN fO nM gM pM Phi.fn mp bl Au Be Bh pack
def tT1 : Tr := ⟨[⟨[47, 97], true, []⟩], [47]⟩
def tT2 : Tr := ⟨[⟨[47, 97], true, []⟩, ⟨[47, 97, 47, 102], false, [120]⟩], [47]⟩
def tT3 : Tr := ⟨[⟨[47, 97], true, []⟩, ⟨[47, 97, 47, 102], false, [120]⟩], [47, 97]⟩
theorem tellsM : Co newG [97] = (tT1, 0) := by rfl
theorem tellsW : Bp tT1 [97, 47, 46, 46, 47, 97, 47, 46, 47, 102] [120] false = (tT2, 0) := by rfl
theorem tellsC : cdG tT2 [47, 97] = (tT3, 0) := by rfl
theorem tellsR : E5 tT3 [102] = ([120], 0) := by rfl
theorem tT1_wf : WfT tT1 := by have := J6 newG_wf [97]; rw [tellsM] at this; exact this
theorem tT2_wf : WfT tT2 := by have := Kt tT1_wf [97, 47, 46, 46, 47, 97, 47, 46, 47, 102] [120] false; rw [tellsW] at this; exact this
theorem tT3_wf : WfT tT3 := by have := cdG_wf tT2_wf [47, 97]; rw [tellsC] at this; exact this
def TellsS (H : HF) : Prop := ∀ (n : Nat) (m : T FObj), Ret 4000 H [] n m (.b true)
theorem tells_s {O : Oz} (hO : O = zO) (Φ : Phi) (HN : NewS (Phi.fn Φ 4)) (HM : MakeS (Phi.fn Φ 8)) (HW : WriteS (Phi.fn Φ 19)) (HC : CdS (Phi.fn Φ 9)) (HD : ReadS (Phi.fn Φ 25)) (HE : CwdS (Phi.fn Φ 35)) : TellsS (p12 O Φ) := fun n m k P hn hf => by
  repeat' ((conv => lhs; whnf); first | ((with_reducible refine A4 ?_); first | (refine HN _ _ _ _ (by omega) (fun v1 n1 m1 h1 g1 k1 q1 => ?_); obtain ⟨tb, mb, rfl, htm, t1, htb, t3, hmb, hT⟩ := q1; have k1p := Kq.kp k1) | (refine HM (t := newG) (hT.kp kQ htb hmb) (by omega) (by omega) htm newG_wf _ (by decide) _ _ (by omega) (fun v5 n5 m5 h5 g5 k5 q5 => (fun k5l => ?_) (Kq.low (n := n) k5 (by omega) (by simp only [List.mem_cons, List.not_mem_nil, or_false, forall_eq]; omega))); obtain ⟨hv, hT⟩ := q5; rw [tellsM] at hv hT; have htb : tb < n5 := (by omega); have hmb : mb < n5 := (by omega); subst hv) | (refine HW (t := tT1) (hT.kp kQ htb hmb) (by omega) (by omega) htm tT1_wf _ _ _ (by decide) (by decide) _ _ (by omega) (fun v5 n5 m5 h5 g5 k5 q5 => (fun k5l => ?_) (Kq.low (n := n) k5 (by omega) (by simp only [List.mem_cons, List.not_mem_nil, or_false, forall_eq]; omega))); obtain ⟨hv, hT⟩ := q5; rw [tellsW] at hv hT; have htb : tb < n5 := (by omega); have hmb : mb < n5 := (by omega); subst hv) | (refine HC (t := tT2) (hT.kp kQ htb hmb) (by omega) (by omega) tT2_wf _ (by decide) _ _ (by omega) (fun v5 n5 m5 h5 g5 k5 q5 => (fun k5l => ?_) (Kq.low (n := n) k5 (by omega) (by simp only [List.mem_cons, List.not_mem_nil, or_false, forall_eq]; omega))); obtain ⟨hv, hT⟩ := q5; have hT := hT htm; rw [tellsC] at hv hT; have htb : tb < n5 := (by omega); have hmb : mb < n5 := (by omega); subst hv) | (refine HD (t := tT3) (hT.kp kQ htb hmb) (by omega) (by omega) tT3_wf _ (by decide) _ _ (by omega) (fun n5 m5 h5 g5 k5 => ?_); rw [tellsR]) | (refine HE (t := tT3) (hT.kp kQ htb hmb) (by omega) (by omega) _ _ ?_)) | ((with_reducible refine eqT hO (by omega) ?_)) | ((with_reducible refine eqST hO (by first | rfl | assumption) ?_)) | ((with_reducible refine Ly hO (fun h => ?_) (fun h => ?_))))
  all_goals (conv => lhs; whnf)
  all_goals first
    | exact hf _ _ (by omega) (by omega) kQ
    | (rename_i hx; exact absurd rfl hx)
    | exact absurd rfl h
end Go.Proofs.YtjoakhpdajlhiaaGreatDoor.V2.S
namespace Go.Proofs.YtjoakhpdajlhiaaGreatDoor.V2
open Go Go.Shelf Go.Proofs Go.RowKit
def Lz : Go.Shelf.Ren := ⟨fun | 138 => 68 | 195 => 77 | 218 => 79 | 143 => 69 | 219 => 80 | 217 => 95 | 225 => 96 | 224 => 97 | 267 => 98 | 266 => 105 | 314 => 106 | n => n, fun | 9 => 9 | 3 => 3 | 4 => 4 | 5 => 5 | 0 => 0 | 46 => 93 | 146 => 103 | 51 => 102 | n => n, fun | 1 => 0 | n => n⟩
theorem count241_lay : Go.Proofs.Lays.n138 Tryz.prog Lz := {
  mixed := by kernel_rfl
  f138 := Tryz.func68.trans (congrArg some (by kernel_rfl))
  f143 := Tryz.func69.trans (congrArg some (by kernel_rfl))
  f195 := Tryz.func77.trans (congrArg some (by kernel_rfl))
  f217 := Tryz.func95.trans (congrArg some (by kernel_rfl))
  f218 := Tryz.func79.trans (congrArg some (by kernel_rfl))
  f219 := Tryz.func80.trans (congrArg some (by kernel_rfl))
  f224 := Tryz.func97.trans (congrArg some (by kernel_rfl))
  f225 := Tryz.func96.trans (congrArg some (by kernel_rfl))
  f266 := Tryz.func105.trans (congrArg some (by kernel_rfl))
  f267 := Tryz.func98.trans (congrArg some (by kernel_rfl))
  f314 := Tryz.func106.trans (congrArg some (by kernel_rfl))
  t0 := Tryz.underlying0
  a0 := Tryz.isAgg0
  z0 := Tryz.sizeOf0
  v0 := Tryz.zeroValue0
  t3 := Tryz.underlying3
  a3 := Tryz.isAgg3
  z3 := Tryz.sizeOf3
  v3 := Tryz.zeroValue3
  t4 := Tryz.underlying4
  a4 := Tryz.isAgg4
  z4 := Tryz.sizeOf4
  v4 := Tryz.zeroValue4
  t5 := Tryz.underlying5
  a5 := Tryz.isAgg5
  z5 := Tryz.sizeOf5
  v5 := Tryz.zeroValue5
  t9 := Tryz.underlying9
  a9 := Tryz.isAgg9
  z9 := Tryz.sizeOf9
  v9 := Tryz.zeroValue9
  t46 := Tryz.underlying93
  a46 := Tryz.isAgg93
  z46 := Tryz.sizeOf93
  v46 := Tryz.zeroValue93
  t51 := Tryz.underlying102
  a51 := Tryz.isAgg102
  z51 := Tryz.sizeOf102
  v51 := Tryz.zeroValue102
  t146 := Tryz.underlying103
  a146 := Tryz.isAgg103
  z146 := Tryz.sizeOf103
  v146 := Tryz.zeroValue103
  g1 := by kernel_rfl }
def Lr : Go.Shelf.Ren := ⟨fun | 143 => 69 | 219 => 80 | 217 => 95 | 225 => 96 | 224 => 97 | 267 => 98 | 266 => 105 | 314 => 106 | n => n, fun | 9 => 9 | 3 => 3 | 4 => 4 | 5 => 5 | 46 => 93 | 146 => 103 | 51 => 102 | n => n, fun | 1 => 0 | n => n⟩
theorem index242_lay : Go.Proofs.Lays.n143 Tryz.prog Lr := {
  mixed := by kernel_rfl
  f143 := Tryz.func69.trans (congrArg some (by kernel_rfl))
  f217 := Tryz.func95.trans (congrArg some (by kernel_rfl))
  f219 := Tryz.func80.trans (congrArg some (by kernel_rfl))
  f224 := Tryz.func97.trans (congrArg some (by kernel_rfl))
  f225 := Tryz.func96.trans (congrArg some (by kernel_rfl))
  f266 := Tryz.func105.trans (congrArg some (by kernel_rfl))
  f267 := Tryz.func98.trans (congrArg some (by kernel_rfl))
  f314 := Tryz.func106.trans (congrArg some (by kernel_rfl))
  t3 := Tryz.underlying3
  a3 := Tryz.isAgg3
  z3 := Tryz.sizeOf3
  v3 := Tryz.zeroValue3
  t4 := Tryz.underlying4
  a4 := Tryz.isAgg4
  z4 := Tryz.sizeOf4
  v4 := Tryz.zeroValue4
  t5 := Tryz.underlying5
  a5 := Tryz.isAgg5
  z5 := Tryz.sizeOf5
  v5 := Tryz.zeroValue5
  t9 := Tryz.underlying9
  a9 := Tryz.isAgg9
  z9 := Tryz.sizeOf9
  v9 := Tryz.zeroValue9
  t46 := Tryz.underlying93
  a46 := Tryz.isAgg93
  z46 := Tryz.sizeOf93
  v46 := Tryz.zeroValue93
  t51 := Tryz.underlying102
  a51 := Tryz.isAgg102
  z51 := Tryz.sizeOf102
  v51 := Tryz.zeroValue102
  t146 := Tryz.underlying103
  a146 := Tryz.isAgg103
  z146 := Tryz.sizeOf103
  v146 := Tryz.zeroValue103
  g1 := by kernel_rfl }
def ixS : List UInt8 → UInt8 → Nat → Int
  | [], _, _ => -1
  | b :: l, c, i => bif b == c then (i : Int) else ixS l c (i + 1)
theorem ixS_eq : ∀ (l : List UInt8) (c : UInt8) (i : Nat), ixS l c i = if Lib.indexByte l c = -1 then -1 else i + Lib.indexByte l c
  | [], _, _ => rfl
  | b :: l, c, i => by
    have ih := ixS_eq l c (i + 1)
    have hge := Lib.indexByte_ge l c
    unfold ixS Lib.indexByte
    cases hb : b == c
    · rw [cond_false, ih]
      simp only [Bool.false_eq_true, if_false, beq_iff_eq]
      by_cases h : Lib.indexByte l c = -1
      · simp [h]
      · simp only [h, if_false]
        rw [if_neg (by omega)]
        omega
    · simp
theorem ixS_zero (l : List UInt8) (c : UInt8) : ixS l c 0 = Lib.indexByte l c := by
  rw [ixS_eq]
  by_cases h : Lib.indexByte l c = -1
  · simp [h]
  · simp [h]
theorem count241 (s : List UInt8) (c : UInt8) (w : World) : Calls Tryz.prog 68 #[.string ⟨s.toArray⟩, .string ⟨#[c]⟩] w fun e w' => e = .returned (.int .i64 (s.count c)) ∧ w' = w :=
  Any.strings_Count_one count241_lay ⟨s.toArray⟩ c w
theorem index242 (s : List UInt8) (c : UInt8) (w : World) : Calls Tryz.prog 69 #[.string ⟨s.toArray⟩, .string ⟨#[c]⟩] w fun e w' => e = .returned (.int .i64 (ixS s c 0)) ∧ w' = w := by
  rw [ixS_zero]
  exact Any.strings_Index_one index242_lay ⟨s.toArray⟩ c w
def ctA (args : List AV) (σ : AH) : Out := match args with
  | [.str s, .str [c]] => (true, .int .i64 (s.count c), σ)
  | _ => bad σ
def ixA (args : List AV) (σ : AH) : Out := match args with
  | [.str s, .str [c]] => (true, .int .i64 (ixS s c 0), σ)
  | _ => bad σ
noncomputable def ciF (g : FuncId → List AV → AH → Out) (f : FuncId) (args : List AV) (σ : AH) : Out := bif Nat.beq f 68 then ctA args σ else bif Nat.beq f 69 then ixA args σ else g f args σ
theorem ciF_ok {Y : List Yl} {g : FuncId → List AV → AH → Out} (hg : FnOk Tryz.prog 3 g Y) : FnOk Tryz.prog 3 (ciF g) Y := by
  intro f args σ h
  unfold ciF at h ⊢
  cases hf : Nat.beq f 68
  case true =>
    rw [hf] at h
    simp only [cond_true] at h ⊢
    have e := Nat.eq_of_beq_eq_true hf
    subst e
    refine ⟨⟨_, Tryz.func68, by kernel_rfl, by kernel_rfl⟩, fun ρ W vs _ hG hr hvs => ?_⟩
    unfold ctA at h ⊢
    split at h
    case h_2 => cases h
    rename_i s c
    obtain ⟨v, mm, rfl, hv, u, mmm, rfl, hu, hmm⟩ := hvs
    have hmm : mmm = [] := hmm
    subst hmm
    unfold VR at hv hu
    subst hu hv
    refine (count241 s c W).mono ?_
    rintro e W' ⟨rfl, hw⟩
    subst hw
    exact ⟨_, ρ, rfl, hr, .refl (Nat.le_refl _), by unfold VR; rfl⟩
  case false =>
    rw [hf] at h
    rw [cond_false] at h ⊢
    cases hf2 : Nat.beq f 69
    case false => rw [hf2] at h; rw [cond_false] at h ⊢; exact hg f args σ h
    rw [hf2] at h
    simp only [cond_true] at h ⊢
    have e := Nat.eq_of_beq_eq_true hf2
    subst e
    refine ⟨⟨_, Tryz.func69, by kernel_rfl, by kernel_rfl⟩, fun ρ W vs _ hG hr hvs => ?_⟩
    unfold ixA at h ⊢
    split at h
    case h_2 => cases h
    rename_i s c
    obtain ⟨v, mm, rfl, hv, u, mmm, rfl, hu, hmm⟩ := hvs
    have hmm : mmm = [] := hmm
    subst hmm
    unfold VR at hv hu
    subst hu hv
    refine (index242 s c W).mono ?_
    rintro e W' ⟨rfl, hw⟩
    subst hw
    exact ⟨_, ρ, rfl, hr, .refl (Nat.le_refl _), by unfold VR; rfl⟩
noncomputable section
def k1S (l : List UInt8) (f : UInt8 → FR) : FR := List.rec (motive := fun _ => FR) .bad (fun c m _ => List.rec (motive := fun _ => FR) (f c) (fun _ _ _ => .bad) m) l
theorem k1S_cases {l : List UInt8} {f : UInt8 → FR} (h : k1S l f ≠ .bad) : ∃ c, l = [c] ∧ k1S l f = f c := by
  cases l with
  | nil => exact absurd rfl h
  | cons c m =>
    cases m with
    | nil => exact ⟨c, rfl, rfl⟩
    | cons _ _ => exact absurd rfl h
def ctQ (l : List FV) (σ : FH) (k : KV) : FR := k2L l fun x y => kS (fun s => kS (fun c => k1S (unp c) fun c => fN ((unp s).count c) fun m => k (.n .i64 m) σ) y) x
def ixQ (l : List FV) (σ : FH) (k : KV) : FR := k2L l fun x y => kS (fun s => kS (fun c => k1S (unp c) fun c => vI .i64 (ixS (unp s) c 0) fun v => k v σ) y) x
theorem ctQ_sm (l : List FV) (σ : FH) (k : KV) : Sm (ctQ l σ k) k (ctA (αL l) (αH σ)) := by
  intro h
  unfold ctQ at h ⊢
  obtain ⟨x, y, rfl, h1⟩ := B7 h
  rw [h1] at h ⊢
  obtain ⟨s, rfl, h2⟩ := C2 h
  rw [h2] at h ⊢
  obtain ⟨c, rfl, h3⟩ := C2 h
  rw [h3] at h ⊢
  obtain ⟨u, h4, h5⟩ := k1S_cases h
  rw [h5] at h ⊢
  rw [Aj]
  refine ⟨_, σ, ?_, rfl⟩
  simp only [αL, αV, ctA, h4]
  rfl
theorem ixQ_sm (l : List FV) (σ : FH) (k : KV) : Sm (ixQ l σ k) k (ixA (αL l) (αH σ)) := by
  intro h
  unfold ixQ at h ⊢
  obtain ⟨x, y, rfl, h1⟩ := B7 h
  rw [h1] at h ⊢
  obtain ⟨s, rfl, h2⟩ := C2 h
  rw [h2] at h ⊢
  obtain ⟨c, rfl, h3⟩ := C2 h
  rw [h3] at h ⊢
  obtain ⟨u, h4, h5⟩ := k1S_cases h
  rw [h5] at h ⊢
  obtain ⟨v, h6, h7⟩ := vI_of .i64 (ixS (unp s) u 0) fun v => k v σ
  refine ⟨v, σ, ?_, h7⟩
  simp only [αL, αV, ixA, h4, h6]
end
end Go.Proofs.YtjoakhpdajlhiaaGreatDoor.V2
namespace Go.Proofs.YtjoakhpdajlhiaaGreatDoor.V2.S
open Go
set_option maxRecDepth 100000
set_option maxHeartbeats 4000000
set_option linter.unusedVariables false
attribute [local irreducible] fN fO nM gM pM Phi.fn mp bl Au Be Bh pack
theorem ct_s : CntS ctQ := fun l σ k => by
  show k1S (unp (pack [47])) (fun c => fN ((unp (pack l)).count c) fun m => k (.n .i64 m) σ) = _
  rw [As, As]
  show (fN (l.count 47) fun m => k (.n .i64 m) σ) = _
  rw [Aj]; rfl
theorem ixS_first : ∀ (l : Bs) (i : Nat), ixS l 47 i = if 0 < An l then ((i + Dm l : Nat) : Int) else -1
  | [], i => rfl
  | c :: l, i => by
    rw [ixS]
    by_cases h : c = 47
    · subst h
      have : 0 < An (47 :: l) := by unfold An; simp
      rw [if_pos this]; rfl
    · have e1 : An (c :: l) = An l := by unfold An; rw [List.count_cons_of_ne h]
      have e2 : Dm (c :: l) = Dm l + 1 := by rw [Dm, if_neg h]
      rw [e1, e2, ixS_first l (i + 1), show (c == 47) = false from beq_eq_false_iff_ne.2 h, cond_false]
      by_cases hp : 0 < An l
      · rw [if_pos hp, if_pos hp]; congr 1; omega
      · rw [if_neg hp, if_neg hp]
theorem ix_s : IxS ixQ := fun l σ k => by
  show k1S (unp (pack [47])) (fun c => vI .i64 (ixS (unp (pack l)) c 0) fun v => k v σ) = _
  rw [As, As]
  show (vI .i64 (ixS l 47 0) fun v => k v σ) = _
  rw [ixS_first]
  by_cases hp : 0 < An l
  · rw [if_pos hp, if_pos hp, Nat.zero_add]
    show (fN (Dm l) fun m => k (.n .i64 m) σ) = _
    rw [Aj]
  · rw [if_neg hp, if_neg hp]
    show (fN 0 fun m => k (.z .i64 m) σ) = _
    rw [Aj]
end Go.Proofs.YtjoakhpdajlhiaaGreatDoor.V2.S
namespace Go.Proofs.YtjoakhpdajlhiaaGreatDoor.V2.S
open Go
set_option maxRecDepth 100000
set_option maxHeartbeats 4000000
set_option linter.unusedVariables false
attribute [local irreducible] fN fO nM gM pM Phi.fn mp bl Au Be Bh pack
def pF : List Bs → Bs
  | [] => []
  | n :: ns => 47 :: n ++ pF ns
def Ck (ns : List Bs) : Bs := if ns = [] then [47] else pF ns
theorem pF_app : ∀ a b : List Bs, pF (a ++ b) = pF a ++ pF b
  | [], b => rfl
  | n :: a, b => by show 47 :: n ++ pF (a ++ b) = 47 :: n ++ pF a ++ pF b; rw [pF_app a b, List.append_assoc]
theorem pF_snoc (a : List Bs) (n : Bs) : pF (a ++ [n]) = pF a ++ 47 :: n := by rw [pF_app]; show _ ++ (47 :: n ++ []) = _; rw [List.append_nil]
theorem splitB_ne : ∀ l : Bs, Ak l ≠ []
  | [] => by simp [Ak]
  | c :: l => by
    unfold Ak
    split
    · simp
    · split <;> simp
theorem Gk : ∀ a b : Bs, Ak (a ++ 47 :: b) = Ak a ++ Ak b
  | [], b => by show Ak (47 :: b) = [[]] ++ Ak b; rw [Ak, if_pos rfl]; rfl
  | c :: a, b => by
    have ih := Gk a b
    rw [List.cons_append, Ak, Ak, ih]
    by_cases hc : c = 47
    · rw [if_pos hc, if_pos hc]; rfl
    · rw [if_neg hc, if_neg hc]
      cases h : Ak a with
      | nil => exact absurd h (splitB_ne a)
      | cons p ps => rfl
theorem If : ∀ (ns : List Bs) (a : Bs), (∀ n ∈ ns, An n = 0) → Ak (a ++ pF ns) = Ak a ++ ns
  | [], a, _ => by show Ak (a ++ []) = _; rw [List.append_nil, List.append_nil]
  | n :: ns, a, h => by
    have e : a ++ pF (n :: ns) = (a ++ 47 :: n) ++ pF ns := by show a ++ (47 :: n ++ pF ns) = _; rw [List.append_assoc]
    rw [e, If ns _ fun x hx => h x (List.mem_cons_of_mem _ hx), Gk, Jb (h n List.mem_cons_self), List.append_assoc]; rfl
theorem split_pF {ns : List Bs} (h : ∀ n ∈ ns, An n = 0) : Ak (pF ns) = [] :: ns := If ns [] h
structure Good (n : Bs) : Prop where
  nm : Bg n = true
  c0 : An n = 0
  e1 : n ≠ []
  e2 : n ≠ [46]
  e3 : n ≠ [46, 46]
theorem Gu : ∀ (a n : Bs), An n = 0 → lastS (a ++ 47 :: n) = a.length + 1
  | [], n, h => by
    show lastS (47 :: n) = 1
    have h0 : lastS n = 0 := Fa fun i hi hb => by
      have : (47 : UInt8) ∈ n := by
        unfold bt at hb
        rw [List.getD_eq_getElem?_getD, List.getElem?_eq_getElem hi, Option.getD_some] at hb
        rw [← show n[i] = 47 from UInt8.toNat_inj.1 hb]; exact List.getElem_mem hi
      exact absurd h (by unfold An; exact Nat.pos_iff_ne_zero.1 (List.count_pos_iff.2 this))
    rw [lastS, if_pos h0, if_pos rfl]
  | c :: a, n, h => by
    show lastS (c :: (a ++ 47 :: n)) = _
    rw [lastS, Gu a n h, if_neg (by omega)]; rfl
theorem hasSuf_app (a : Bs) {n : Bs} (h0 : An n = 0) (h1 : n ≠ []) : Dg (a ++ n) [47] = false := by
  unfold Dg
  have hl := List.length_pos_iff.2 h1
  by_cases h : (a ++ n).drop ((a ++ n).length - [(47 : UInt8)].length) = [47]
  · have hm : (47 : UInt8) ∈ n := by
      rw [List.length_append, show a.length + n.length - [(47 : UInt8)].length = a.length + (n.length - 1) by show _ - 1 = _; omega, List.drop_length_add_append] at h
      exact List.mem_of_mem_drop (h ▸ List.mem_singleton.2 rfl)
    exact absurd h0 (by unfold An; exact Nat.pos_iff_ne_zero.1 (List.count_pos_iff.2 hm))
  · rw [decide_eq_false h, Bool.and_false]
theorem hasSuf_app' (b : List Bs) {x : Bs} (h : Good x) : Dg (pF b ++ 47 :: x) [47] = false := by
  have := hasSuf_app (pF b ++ [47]) h.c0 h.e1
  rwa [List.append_assoc] at this
theorem C6 (a : List Bs) (n : Bs) : Ck (a ++ [n]) = pF a ++ 47 :: n := by
  unfold Ck; rw [if_neg (by simp), pF_snoc]
theorem Ga {a : List Bs} (ha : ∀ x ∈ a, Good x) (n : Bs) : Bt (Ck a) n = Ck (a ++ [n]) := by
  rw [C6]
  unfold Bt Eg
  rcases List.eq_nil_or_concat a with rfl | ⟨b, x, rfl⟩
  · rfl
  · have hx := ha x (by simp)
    rw [List.concat_eq_append] at *
    rw [C6, pF_snoc, hasSuf_app' b hx]
    simp
theorem Hn (a : List Bs) {n : Bs} (h : Good n) : C9 (Ck (a ++ [n])) = Ck a := by
  rw [C6]
  unfold C9
  rw [Gu _ _ h.c0, Nat.add_sub_cancel]
  cases a with
  | nil => rfl
  | cons x a =>
    have : 1 ≤ (pF (x :: a)).length := by show 1 ≤ (47 :: x ++ pF a).length; simp
    rw [Nat.max_eq_left this, List.take_left']
    · unfold Ck; rw [if_neg (by simp)]
    · rfl
end Go.Proofs.YtjoakhpdajlhiaaGreatDoor.V2.S
namespace Go.Proofs.YtjoakhpdajlhiaaGreatDoor.V2.S
open Go
set_option maxRecDepth 100000
set_option maxHeartbeats 4000000
set_option linter.unusedVariables false
attribute [local irreducible] fN fO nM gM pM Phi.fn mp bl Au Be Bh pack
theorem lastS_zero {l : Bs} (h : lastS l = 0) : ∀ i, i < l.length → l[i]? ≠ some 47 := by
  induction l with
  | nil => intro i hi; simp at hi
  | cons c l ih =>
    rw [lastS] at h
    by_cases h0 : lastS l = 0
    · rw [if_pos h0] at h
      have hc : c ≠ 47 := fun hc => by rw [if_pos hc] at h; cases h
      intro i hi
      cases i with
      | zero => simpa using hc
      | succ i => simpa using ih h0 i (by simpa using hi)
    · rw [if_neg h0] at h; omega
theorem Il {l : Bs} (h : lastS l ≠ 0) : l[lastS l - 1]? = some 47 ∧ ∀ i, lastS l ≤ i → l[i]? ≠ some 47 := by
  induction l with
  | nil => exact absurd rfl h
  | cons c l ih =>
    rw [lastS] at h ⊢
    by_cases h0 : lastS l = 0
    · rw [if_pos h0] at h ⊢
      by_cases hc : c = 47
      · rw [if_pos hc]
        refine ⟨by simp [hc], fun i hi => ?_⟩
        obtain ⟨j, rfl⟩ : ∃ j, i = j + 1 := ⟨i - 1, by omega⟩
        rw [List.getElem?_cons_succ]
        rcases Nat.lt_or_ge j l.length with hj | hj
        · exact lastS_zero h0 j hj
        · rw [List.getElem?_eq_none hj]; simp
      · rw [if_neg hc] at h; exact absurd rfl h
    · rw [if_neg h0]
      obtain ⟨h1, h2⟩ := ih h0
      refine ⟨?_, fun i hi => ?_⟩
      · obtain ⟨j, hj⟩ : ∃ j, lastS l = j + 1 := ⟨lastS l - 1, by omega⟩
        rw [hj, Nat.add_sub_cancel] at h1
        rw [hj, Nat.add_sub_cancel, List.getElem?_cons_succ]; exact h1
      · obtain ⟨j, rfl⟩ : ∃ j, i = j + 1 := ⟨i - 1, by omega⟩
        rw [List.getElem?_cons_succ]; exact h2 j (by omega)
theorem occ1 (s : Bs) (i : Nat) : Lib.occAt s [47] i = true ↔ s[i]? = some 47 := by
  unfold Lib.occAt
  rw [show s[i]? = (s.drop i)[0]? by simp]
  cases s.drop i with
  | nil => simp [List.isPrefixOf]
  | cons c l =>
    simp [List.isPrefixOf]
    exact eq_comm
theorem last_eq (p : Bs) : Lib.lastIndex p [47] = (lastS p : Int) - 1 := by
  unfold Lib.lastIndex
  have hle := Ht p
  split
  · rename_i hl
    have hl : 1 ≤ p.length := hl
    rcases Lib.lastOcc_spec p [47] (p.length - [(47 : UInt8)].length + 1) with ⟨h, h2⟩ | ⟨i, h1, h, h2, h3⟩
    · rw [h]
      by_cases h0 : lastS p = 0
      · rw [h0]; rfl
      · have := (Il h0).1
        have h4 := h2 (lastS p - 1) (by show lastS p - 1 < p.length - 1 + 1; omega)
        rw [(occ1 _ _).2 this] at h4; cases h4
    · rw [h]
      have h2 := (occ1 _ _).1 h2
      have h1 : i < p.length - 1 + 1 := h1
      by_cases h0 : lastS p = 0
      · exact absurd h2 (lastS_zero h0 i (by omega))
      · obtain ⟨h5, h6⟩ := Il h0
        have h7 : i < lastS p := Nat.lt_of_not_le fun hh => h6 i hh h2
        have h8 : ¬ i < lastS p - 1 := fun hh => by
          have := h3 (lastS p - 1) hh (by show lastS p - 1 < p.length - 1 + 1; omega)
          rw [(occ1 _ _).2 h5] at this; cases this
        omega
  · rename_i hl
    have : p = [] := by
      cases p with
      | nil => rfl
      | cons c l => exact absurd (by show 1 ≤ l.length + 1; omega) hl
    subst this; rfl
theorem par_eq (p : Bs) : p.take (max (Lib.lastIndex p [47]) 1).toNat = C9 p := by
  unfold C9
  rw [last_eq]; congr 1; omega
theorem trim_eq (d : Bs) : Lib.trimSuffix d [47] = Eg d := by
  unfold Lib.trimSuffix Eg
  have : Lib.hasSuffix d [47] = Dg d [47] := by
    unfold Lib.hasSuffix Dg
    rw [Bool.eq_iff_iff, List.isSuffixOf_iff_suffix, List.suffix_iff_eq_drop, Bool.and_eq_true, decide_eq_true_iff, decide_eq_true_iff]
    constructor
    · intro h
      refine ⟨?_, h.symm⟩
      have := congrArg List.length h
      rw [List.length_drop] at this
      have this : 1 = d.length - (d.length - 1) := this
      show 1 ≤ d.length
      omega
    · rintro ⟨_, h⟩; exact h.symm
  rw [this]; rfl
theorem join_eq (d n : Bs) : Lib.trimSuffix d [47] ++ [47] ++ n = Bt d n := by rw [trim_eq]; rfl
end Go.Proofs.YtjoakhpdajlhiaaGreatDoor.V2.S
namespace Go.Proofs.YtjoakhpdajlhiaaGreatDoor.V2
open Go.Shelf Go.Proofs
def Fk : Go.Shelf.Ren := ⟨fun | 6 => 56 | 8 => 65 | 9 => 64 | 11 => 76 | 13 => 75 | 12 => 74 | 23 => 92 | 24 => 93 | 14 => 83 | 15 => 84 | 16 => 85 | 17 => 86 | 18 => 87 | 19 => 88 | 20 => 89 | 21 => 90 | 22 => 91 | 25 => 99 | 26 => 100 | 27 => 101 | 28 => 102 | 29 => 103 | 30 => 104 | 31 => 107 | n => n, fun | 26 => 9 | 28 => 86 | 24 => 55 | 0 => 0 | 3 => 3 | 37 => 93 | 48 => 102 | 50 => 115 | 4 => 4 | 40 => 107 | 39 => 106 | 45 => 111 | 5 => 5 | 9 => 9 | 51 => 117 | 55 => 121 | 57 => 127 | 58 => 63 | 33 => 74 | n => n, fun | n => n⟩
theorem sorted185_lay : Go.Proofs.SlLaysZ.n6 Tryz.prog Fk := {
  mixed := by kernel_rfl
  f6 := ⟨Tryz.f56.name, by decide, Tryz.func56.trans (congrArg some (by kernel_rfl))⟩
  f8 := ⟨Tryz.f65.name, by decide, Tryz.func65.trans (congrArg some (by kernel_rfl))⟩
  f11 := ⟨Tryz.f76.name, by decide, Tryz.func76.trans (congrArg some (by kernel_rfl))⟩
  t0 := Tryz.underlying0
  a0 := Tryz.isAgg0
  z0 := Tryz.sizeOf0
  v0 := Tryz.zeroValue0
  t24 := Tryz.underlying55
  a24 := Tryz.isAgg55
  z24 := Tryz.sizeOf55
  v24 := Tryz.zeroValue55
  t26 := Tryz.underlying9
  a26 := Tryz.isAgg9
  z26 := Tryz.sizeOf9
  v26 := Tryz.zeroValue9
  t28 := Tryz.underlying86
  a28 := Tryz.isAgg86
  z28 := Tryz.sizeOf86
  v28 := Tryz.zeroValue86
  i26 := by kernel_rfl }
def Mo : Go.Shelf.Ren := ⟨fun | 6 => 64 | 8 => 75 | 9 => 74 | 19 => 92 | 20 => 93 | 21 => 83 | 22 => 84 | 23 => 85 | 24 => 86 | 25 => 87 | 26 => 88 | 27 => 89 | 28 => 90 | 29 => 91 | 36 => 99 | 31 => 100 | 32 => 101 | 37 => 102 | 38 => 103 | 39 => 104 | 41 => 107 | n => n, fun | 27 => 55 | 29 => 9 | 3 => 3 | 32 => 93 | 26 => 55 | 0 => 0 | 44 => 102 | 46 => 115 | 4 => 4 | 36 => 107 | 35 => 106 | 41 => 111 | 5 => 5 | 9 => 9 | 53 => 117 | 57 => 121 | 63 => 127 | 64 => 63 | n => n, fun | n => n⟩
theorem L9 : Go.Proofs.SlLaysM.n6 Tryz.prog Mo := {
  mixed := by kernel_rfl
  f6 := ⟨Tryz.f64.name, by decide, Tryz.func64.trans (congrArg some (by kernel_rfl))⟩
  f8 := Tryz.func75.trans (congrArg some (by kernel_rfl))
  f9 := ⟨Tryz.f74.name, by decide, Tryz.func74.trans (congrArg some (by kernel_rfl))⟩
  f19 := Tryz.func92.trans (congrArg some (by kernel_rfl))
  f20 := Tryz.func93.trans (congrArg some (by kernel_rfl))
  f21 := ⟨Tryz.f83.name, by decide, Tryz.func83.trans (congrArg some (by kernel_rfl))⟩
  f22 := ⟨Tryz.f84.name, by decide, Tryz.func84.trans (congrArg some (by kernel_rfl))⟩
  f23 := ⟨Tryz.f85.name, by decide, Tryz.func85.trans (congrArg some (by kernel_rfl))⟩
  f24 := ⟨Tryz.f86.name, by decide, Tryz.func86.trans (congrArg some (by kernel_rfl))⟩
  f25 := ⟨Tryz.f87.name, by decide, Tryz.func87.trans (congrArg some (by kernel_rfl))⟩
  f26 := ⟨Tryz.f88.name, by decide, Tryz.func88.trans (congrArg some (by kernel_rfl))⟩
  f27 := ⟨Tryz.f89.name, by decide, Tryz.func89.trans (congrArg some (by kernel_rfl))⟩
  f28 := ⟨Tryz.f90.name, by decide, Tryz.func90.trans (congrArg some (by kernel_rfl))⟩
  f29 := ⟨Tryz.f91.name, by decide, Tryz.func91.trans (congrArg some (by kernel_rfl))⟩
  f31 := Tryz.func100.trans (congrArg some (by kernel_rfl))
  f32 := Tryz.func101.trans (congrArg some (by kernel_rfl))
  f36 := ⟨Tryz.f99.name, by decide, Tryz.func99.trans (congrArg some (by kernel_rfl))⟩
  f37 := ⟨Tryz.f102.name, by decide, Tryz.func102.trans (congrArg some (by kernel_rfl))⟩
  f38 := ⟨Tryz.f103.name, by decide, Tryz.func103.trans (congrArg some (by kernel_rfl))⟩
  f39 := ⟨Tryz.f104.name, by decide, Tryz.func104.trans (congrArg some (by kernel_rfl))⟩
  f41 := ⟨Tryz.f107.name, by decide, Tryz.func107.trans (congrArg some (by kernel_rfl))⟩
  t0 := Tryz.underlying0
  a0 := Tryz.isAgg0
  z0 := Tryz.sizeOf0
  v0 := Tryz.zeroValue0
  t3 := Tryz.underlying3
  a3 := Tryz.isAgg3
  z3 := Tryz.sizeOf3
  v3 := Tryz.zeroValue3
  t4 := Tryz.underlying4
  a4 := Tryz.isAgg4
  z4 := Tryz.sizeOf4
  v4 := Tryz.zeroValue4
  t5 := Tryz.underlying5
  a5 := Tryz.isAgg5
  z5 := Tryz.sizeOf5
  v5 := Tryz.zeroValue5
  t9 := Tryz.underlying9
  a9 := Tryz.isAgg9
  z9 := Tryz.sizeOf9
  v9 := Tryz.zeroValue9
  t26 := Tryz.underlying55
  a26 := Tryz.isAgg55
  z26 := Tryz.sizeOf55
  v26 := Tryz.zeroValue55
  t27 := Tryz.underlying55
  a27 := Tryz.isAgg55
  z27 := Tryz.sizeOf55
  v27 := Tryz.zeroValue55
  t29 := Tryz.underlying9
  a29 := Tryz.isAgg9
  z29 := Tryz.sizeOf9
  v29 := Tryz.zeroValue9
  t32 := Tryz.underlying93
  a32 := Tryz.isAgg93
  z32 := Tryz.sizeOf93
  v32 := Tryz.zeroValue93
  t35 := Tryz.underlying106
  a35 := Tryz.isAgg106
  z35 := Tryz.sizeOf106
  v35 := Tryz.zeroValue106
  t36 := Tryz.underlying107
  a36 := Tryz.isAgg107
  z36 := Tryz.sizeOf107
  v36 := Tryz.zeroValue107
  t41 := Tryz.underlying111
  a41 := Tryz.isAgg111
  z41 := Tryz.sizeOf111
  v41 := Tryz.zeroValue111
  t44 := Tryz.underlying102
  a44 := Tryz.isAgg102
  z44 := Tryz.sizeOf102
  v44 := Tryz.zeroValue102
  t46 := Tryz.underlying115
  a46 := Tryz.isAgg115
  z46 := Tryz.sizeOf115
  v46 := Tryz.zeroValue115
  t53 := Tryz.underlying117
  a53 := Tryz.isAgg117
  z53 := Tryz.sizeOf117
  v53 := Tryz.zeroValue117
  t57 := Tryz.underlying121
  a57 := Tryz.isAgg121
  z57 := Tryz.sizeOf121
  v57 := Tryz.zeroValue121
  t63 := Tryz.underlying127
  a63 := Tryz.isAgg127
  z63 := Tryz.sizeOf127
  v63 := Tryz.zeroValue127
  t64 := Tryz.underlying63
  a64 := Tryz.isAgg63
  z64 := Tryz.sizeOf63
  v64 := Tryz.zeroValue63 }
def Mq : Go.Shelf.Ren := ⟨fun | 148 => 62 | 222 => 71 | 223 => 72 | 269 => 81 | n => n, fun | 9 => 9 | 3 => 3 | 4 => 4 | 5 => 5 | 146 => 103 | 51 => 102 | 46 => 93 | n => n, fun | n => n⟩
theorem last284_lay : Go.Proofs.Lays.n148 Tryz.prog Mq := {
  mixed := by kernel_rfl
  f148 := Tryz.func62.trans (congrArg some (by kernel_rfl))
  f222 := Tryz.func71.trans (congrArg some (by kernel_rfl))
  f223 := Tryz.func72.trans (congrArg some (by kernel_rfl))
  f269 := Tryz.func81.trans (congrArg some (by kernel_rfl))
  t3 := Tryz.underlying3
  a3 := Tryz.isAgg3
  z3 := Tryz.sizeOf3
  v3 := Tryz.zeroValue3
  t4 := Tryz.underlying4
  a4 := Tryz.isAgg4
  z4 := Tryz.sizeOf4
  v4 := Tryz.zeroValue4
  t5 := Tryz.underlying5
  a5 := Tryz.isAgg5
  z5 := Tryz.sizeOf5
  v5 := Tryz.zeroValue5
  t9 := Tryz.underlying9
  a9 := Tryz.isAgg9
  z9 := Tryz.sizeOf9
  v9 := Tryz.zeroValue9
  t46 := Tryz.underlying93
  a46 := Tryz.isAgg93
  z46 := Tryz.sizeOf93
  v46 := Tryz.zeroValue93
  t51 := Tryz.underlying102
  a51 := Tryz.isAgg102
  z51 := Tryz.sizeOf102
  v51 := Tryz.zeroValue102
  t146 := Tryz.underlying103
  a146 := Tryz.isAgg103
  z146 := Tryz.sizeOf103
  v146 := Tryz.zeroValue103 }
def Mn : Go.Shelf.Ren := ⟨fun | 102 => 63 | 209 => 73 | 207 => 82 | n => n, fun | 9 => 9 | 4 => 4 | 3 => 3 | n => n, fun | n => n⟩
theorem trim160_lay : Go.Proofs.Lays.n102 Tryz.prog Mn := {
  mixed := by kernel_rfl
  f102 := Tryz.func63.trans (congrArg some (by kernel_rfl))
  f207 := Tryz.func82.trans (congrArg some (by kernel_rfl))
  f209 := Tryz.func73.trans (congrArg some (by kernel_rfl))
  t3 := Tryz.underlying3
  a3 := Tryz.isAgg3
  z3 := Tryz.sizeOf3
  v3 := Tryz.zeroValue3
  t4 := Tryz.underlying4
  a4 := Tryz.isAgg4
  z4 := Tryz.sizeOf4
  v4 := Tryz.zeroValue4
  t9 := Tryz.underlying9
  a9 := Tryz.isAgg9
  z9 := Tryz.sizeOf9
  v9 := Tryz.zeroValue9 }
end Go.Proofs.YtjoakhpdajlhiaaGreatDoor.V2
namespace Go.Proofs.YtjoakhpdajlhiaaGreatDoor.V2
open Go Go.RowKit Go.Maps Go.Sort Go.Shelf
theorem law9 : Keyed Tryz.prog 9 := string_keyed Tryz.underlying9
theorem sorts185 (m : Nat) : AnyZ.SortsIn Tryz.prog Fk Fence.wide m :=
  ⟨fun blk off cap ss W hH hblk hsz => callsIn_wide.2 (AnyM.slices_Sort_string L9 blk off cap ss W hH hblk hsz),
   fun p cap W => callsIn_wide.2 (AnyM.slices_Sort_string_none L9 p cap W)⟩
set_option maxRecDepth 100000 in
set_option maxHeartbeats 1000000 in
theorem keys250 {H : Type} (n : Nat) (hn : 1 ≤ n) (l Bm o b nn : Nat) (D0 : DataW H) {R : Value → Option (DataW H × List MemPlace)} (J : List (List UInt8) → World → Prop)
    (hY : ∀ pre x W, J pre W → pre.length < Maps.size D0 → YieldAt Fence.wide (n - 1) Tryz.prog l #[encStr x] W fun e W' => e = .returned (.bool true) ∧ J (pre ++ [x]) W' ∧ KeepsWalks W W')
    (W : World) (hJ : AbidesFrom W.heap.size J) (hm : W.cell? ⟨Bm, o, none⟩ = some (.map (some b))) (hown : W.ownsMap Tryz.prog 9 R b nn D0) (h0 : J [] W) :
    CallsIn Fence.wide n Tryz.prog 66 #[.func (.yield l) #[] #[], .pointer (some ⟨Bm, o, none⟩)] W fun e W' => (∃ v, e = .returned v) ∧ ∃ ss : List (List UInt8), ss.Perm (strKeys D0) ∧ J ss W' := by
  refine callsIn_of_wp Tryz.func66 rfl trivial ?_ rfl
  simp only [Tryz.ntmps66, List.size_toArray, List.length_cons, List.length_nil, Nat.reduceAdd, Nat.reduceSub, Array.replicate_succ, Array.replicate_zero, List.push_toArray, List.append_toArray, List.nil_append, List.cons_append]
  gi_wp2_with (first
    | (gi_at_range; refine wpListIn_range_own _ rfl _ 37 rfl 9 45 law9 Tryz.underlying37 _ b nn _ rfl hown ?_; intro w0 hrg0 hg0 hs0)
    | gi_in)
  go_frame
  gi_loopw [3] (fun _ wr => ∃ (left : Lit → Bool) (cnt : Nat) (ss : List (List UInt8)), wr.ranges Tryz.prog 9 R b W.heap.size nn D0 left cnt ∧ ss.length + cnt ≤ Maps.size D0 ∧ Collected D0 left ss ∧ J ss wr)
    (fun _ wr => wr.rangeLeft b W.heap.size)
  case atStart =>
    exact ⟨_, _, [], hrg0, by simp, Collected.start D0, hJ [] W w0 none h0 hg0 (fun r e => by cases e)⟩
  case round =>
    obtain ⟨left, cnt, ss, hrg, hcs, hC, hJs⟩ := hrel
    gi_wp2_with (first
      | (gi_at_next; refine wpListIn_next_ranges _ rfl _ rfl 9 law9 R encStr id (fun key kl hk => by obtain ⟨x, hx, _⟩ := Maps.keyOf_str Tryz.underlying9 hk; exact ⟨x, hx⟩) (fun v _ _ => ⟨v, rfl⟩) b W.heap.size nn _ _ _ rfl hrg ?_ ?_)
      | gi_in)
    · intro hc0 hl0
      gi_wp2
      go_end0
      exact ⟨⟨_, rfl⟩, ss, hC.perm hown law9 Tryz.underlying9 hl0, hJs⟩
    · intro x c kl yd yp w2 cnt2 hkey hlk hv hat hrg2 hlt hg2 hs2 hen
      obtain ⟨x', ex, rfl, _⟩ := Maps.keyOf_str Tryz.underlying9 hkey
      obtain rfl : x = x' := encStr_inj ex
      have hJ2 : J ss w2 := hJ ss wr w2 (some W.heap.size) hJs hg2 (fun r e => by cases e; exact ⟨Nat.le_refl _, hrg.iter_walk⟩)
      obtain ⟨fn, tmps, assign, body, hy, hR⟩ := hY ss x w2 hJ2 (by omega)
      clear hs2
      gi_wp2
      refine hR.mono ?_
      rintro e W3 ⟨rfl, hJ3, hk3⟩
      gi_wp2
      have hrg3 := hrg2.of_walks hk3
      go_roundw
      case rel => exact ⟨_, cnt2, ss ++ [x], hrg3, by simp; omega, hC.step hlk hat, hJ3⟩
      case measure => rw [hrg3.left_eq, hrg.left_eq]; exact hlt
theorem gives250 {H : Type} (n : Nat) (hn : 1 ≤ n) (Bm o b nn : Nat) (D0 : DataW H) {R : Value → Option (DataW H × List MemPlace)} (w : World) (hBm : Bm < w.heap.size)
    (hm : w.cell? ⟨Bm, o, none⟩ = some (.map (some b))) (hown : w.ownsMap Tryz.prog 9 R b nn D0) :
    SeqGives Fence.wide n Tryz.prog 66 #[.pointer (some ⟨Bm, o, none⟩)] encStr (fun ss => ss.Perm (strKeys D0)) (Maps.size D0) w := fun l J W hW hJ hY h0 => by
  have hown' : W.ownsMap Tryz.prog 9 R b nn D0 := by
    have hbl := hown.lt
    obtain ⟨es, clock, hb, Ft, hs, hD⟩ := hown
    exact ⟨es, clock, (hW.block b hbl).trans hb, Ft, hs, hD⟩
  exact keys250 n hn l Bm o b nn D0 J hY W hJ ((hW.cell (p := ⟨Bm, o, none⟩) hBm).trans hm) hown' h0
theorem sorted250 {H : Type} (Bm o b nn : Nat) (D0 : DataW H) {R : Value → Option (DataW H × List MemPlace)} (w : World) (hBm : Bm < w.heap.size) (hm : w.cell? ⟨Bm, o, none⟩ = some (.map (some b)))
    (hown : w.ownsMap Tryz.prog 9 R b nn D0) (hmax : Maps.size D0 ≤ maxLen) (hbytes : Maps.size D0 * 16 ≤ 140737488355328) :
    Calls Tryz.prog 56 #[.func (.func 66) #[] #[.pointer (some ⟨Bm, o, none⟩)]] w fun e w' => ∃ (v : Value) (ss : List (List UInt8)), e = .returned v ∧ ss.Perm (strKeys D0) ∧
      w'.ownsRow w.heap.size 9 1 v ss.length ((ss.mergeSort (fun x y => decide (x ≤ y))).map encStr) ∧ (v = .slice none 0 0 ↔ ss = []) ∧ Below w.heap.size w w' :=
  (callsIn_wide (n := 5)).1 (AnyZ.sorted_in sorted185_lay Fence.wide 5 trivial trivial trivial trivial rfl (by omega) (sorts185 _) (enters_of Tryz.func64 (by kernel_rfl) rfl) 66 #[.pointer (some ⟨Bm, o, none⟩)] trivial (enters_of Tryz.func66 (by kernel_rfl) rfl) _ _ hmax hbytes _ (gives250 _ (by omega) Bm o b nn D0 w hBm hm hown))
end Go.Proofs.YtjoakhpdajlhiaaGreatDoor.V2
namespace Go.Proofs.YtjoakhpdajlhiaaGreatDoor.V2
open Go Go.RowKit Go.Maps Go.Sort Go.Shelf
def J3 (p : List UInt8) : List UInt8 := p.take (max (Lib.lastIndex p [47]) 1).toNat
def G7 (d n : List UInt8) : List UInt8 := Lib.trimSuffix d [47] ++ [47] ++ n
theorem last_le (p s : List UInt8) : Lib.lastIndex p s ≤ p.length := by
  unfold Lib.lastIndex
  split
  · rcases Lib.lastOcc_spec p s (p.length - s.length + 1) with ⟨h, _⟩ | ⟨i, h1, h, _⟩
    · rw [h]; omega
    · rw [h]; omega
  · omega
theorem join_str (a b c : List UInt8) : ({ data := a.toArray } ++ { data := b.toArray } ++ { data := c.toArray } : ByteArray) = { data := (a ++ b ++ c).toArray } := by
  apply ByteArray.ext
  simp [ByteArray.data_append]
theorem cut_str (p : List UInt8) (n : Nat) : (({ data := p.toArray } : ByteArray).extract 0 n) = { data := (p.take n).toArray } := by
  apply ByteArray.ext
  rw [ByteArray.data_extract]
  simp
set_option maxRecDepth 100000 in
set_option maxHeartbeats 1000000 in
theorem parent91 (p : List UInt8) (w : World) (h0 : p ≠ []) (hs : p.length < 4611686018427387904) : Calls Tryz.prog 43 #[encStr p] w fun e w' => e = .returned (encStr (J3 p)) ∧ w' = w := by
  have hL := Any.strings_LastIndex last284_lay ⟨p.toArray⟩ ⟨#[47]⟩ (by show p.toArray.size < _; simpa using hs) w
  change Calls Tryz.prog 62 _ _ _ at hL
  have hb : 0 ≤ max (Lib.lastIndex p [47]) 1 ∧ max (Lib.lastIndex p [47]) 1 ≤ (p.length : Int) := by
    have h1 := last_le p [47]
    have h2 := List.length_pos_iff.2 h0
    omega
  unfold encStr
  go_enter Tryz.func43, Tryz.ntmps43
  go_wp2_with (go_at_call 62; refine hL.mono ?_; rintro e w' ⟨rfl, rfl⟩)
  all_goals first
    | (exact absurd hb (by assumption))
    | (go_ret; exact ⟨by rw [cut_str]; rfl, rfl⟩)
set_option maxRecDepth 100000 in
set_option maxHeartbeats 1000000 in
theorem join92 (d n : List UInt8) (w : World) (hs : d.length ≤ 1000000) (hn : n.length ≤ 1000000) : Calls Tryz.prog 44 #[encStr d, encStr n] w fun e w' => e = .returned (encStr (G7 d n)) ∧ w' = w := by
  have hL := Any.strings_TrimSuffix trim160_lay ⟨d.toArray⟩ ⟨#[47]⟩ w (by show d.toArray.size ≤ _; simp; omega)
  change Calls Tryz.prog 63 _ _ _ at hL
  have hb : (Lib.trimSuffix d [47]).length ≤ d.length := by
    unfold Lib.trimSuffix
    split
    · rw [List.length_take]; omega
    · exact Nat.le_refl _
  unfold encStr
  go_enter Tryz.func44, Tryz.ntmps44
  go_wp2_with (go_at_call 63; refine hL.mono ?_; rintro e w' ⟨rfl, rfl⟩)
  all_goals first
    | (exfalso; simp at *; omega)
    | (go_ret; exact ⟨by rw [show (#[47] : Array UInt8) = [47].toArray from rfl, join_str]; rfl, rfl⟩)
end Go.Proofs.YtjoakhpdajlhiaaGreatDoor.V2
namespace Go.Proofs.YtjoakhpdajlhiaaGreatDoor.V2
open Go Go.RowKit Go.Maps Go.Sort Go.Shelf
theorem info9 : (Tryz.prog.info? 9).map (fun i => (i.zero, i.size, i.bytes)) = some (some (.string ⟨#[]⟩), 1, 16) := by kernel_rfl
theorem sort184 (m blk off cap : Nat) (ss : List (List UInt8)) (W : World) (hH : Holds encStr W blk off ss.toArray) (hb : blk < W.heap.size) (hs : ss.length < 4611686018427387904) :
    CallsIn Fence.wide m Tryz.prog 64 #[.slice (some ⟨blk, off, none⟩) ss.length cap] W fun e w' => e = .returned (.tuple #[]) ∧ ∃ k os, w' = grow (putRow encStr (Sort.ahead W k) blk off (ss.mergeSort fun x y => decide (x ≤ y)).toArray) os := (sorts185 m).1 blk off cap ss W hH hb hs
theorem sort184_nil (m : Nat) (p : Option Addr) (cap : Nat) (W : World) : CallsIn Fence.wide m Tryz.prog 64 #[.slice p 0 cap] W fun e w' => e = .returned (.tuple #[]) ∧ w' = W := (sorts185 m).2 p cap W
def D5 (dir : List UInt8) (l : List (List UInt8)) : List (List UInt8) := (l.filter fun x => decide (J3 x = dir)).map fun x => x.drop (G7 dir []).length
theorem outS_snoc (dir : List UInt8) (l : List (List UInt8)) (x : List UInt8) : D5 dir (l ++ [x]) = D5 dir l ++ (if J3 x = dir then [x.drop (G7 dir []).length] else []) := by
  unfold D5
  rw [List.filter_append, List.map_append]
  by_cases h : J3 x = dir <;> simp [h]
theorem outS_le (dir : List UInt8) (l : List (List UInt8)) : (D5 dir l).length ≤ l.length := by
  unfold D5
  rw [List.length_map]
  exact List.length_filter_le _ _
theorem drop_str (p : List UInt8) (n : Nat) (h : n ≤ p.length) : (({ data := p.toArray } : ByteArray).extract n p.length) = { data := (p.drop n).toArray } := by
  apply ByteArray.ext
  rw [ByteArray.data_extract]
  simp
  exact List.take_of_length_le (by rw [List.length_drop]; omega)
theorem mem_keys {H : Type} {D0 : DataW H} {R : Value → Option (DataW H × List MemPlace)} {b nn : Nat} {w : World} (hown : w.ownsMap Tryz.prog 9 R b nn D0) {x : List UInt8} (h : has D0 (.string x) = true) : x ∈ strKeys D0 := by
  obtain ⟨es, rfl, hk⟩ := hown.keysOf
  rw [has_eq, List.any_eq_true] at h
  obtain ⟨p, hp, hs⟩ := h
  obtain ⟨v, hv⟩ := hk p hp
  obtain ⟨y, _, hy, _⟩ := Maps.keyOf_str Tryz.underlying9 hv
  rw [hy] at hs
  have : y = x := by simpa [Lit.sameKey] using hs
  subst this
  exact List.mem_map.2 ⟨p, hp, by rw [hy]; rfl⟩
set_option maxRecDepth 100000 in
set_option maxHeartbeats 2000000 in
theorem within94 {H : Type} (c o b nn : Nat) (D0 : DataW H) {R : Value → Option (DataW H × List MemPlace)} (dir : List UInt8) (w : World) (hc : c < w.heap.size) (ht : w.cell? ⟨c, o, none⟩ = some (.map (some b)))
    (hown : w.ownsMap Tryz.prog 9 R b nn D0) (hmax : Maps.size D0 ≤ 1000000) (hdir : dir.length ≤ 1000000)
    (hkeys : ∀ x ∈ strKeys D0, x ≠ [] ∧ x.length ≤ 1000000 ∧ (J3 x = dir → (G7 dir []).length ≤ x.length)) :
    Calls Tryz.prog 48 #[.pointer (some ⟨c, o, none⟩), encStr dir] w fun e w' => ∃ (v : Value) (ss : List (List UInt8)), e = .returned v ∧ ss.Perm (D5 dir (strKeys D0)) ∧
      w'.ownsRow w.heap.size 9 1 v ss.length ((ss.mergeSort (fun x y => decide (x ≤ y))).map encStr) ∧ (v = .slice none 0 0 ↔ ss = []) ∧ Below w.heap.size w w' := by
  obtain ⟨i0, hi, hz0, hz1, hz2⟩ := info_parts info9
  have hbl := hown.lt
  have hf1 : Fence.wide.fn 43 := trivial
  have hf2 : Fence.wide.fn 44 := trivial
  have hf3 : Fence.wide.fn 64 := trivial
  refine (callsIn_wide (n := 3)).1 ?_
  refine callsIn_of_wp Tryz.func48 rfl trivial ?_ rfl
  simp only [Tryz.ntmps48, List.size_toArray, List.length_cons, List.length_nil, Nat.reduceAdd, Nat.reduceSub, Array.replicate_succ, Array.replicate_zero, List.push_toArray, List.append_toArray, List.nil_append, List.cons_append]
  gi_wp2_with (first
    | (gi_at_range; refine wpListIn_range_own _ rfl _ 37 rfl 9 45 law9 Tryz.underlying37 _ b nn _ rfl hown ?_; intro w0 hrg0 hg0 hs0)
    | gi_in)
  go_frame
  gi_loopw [5, 6] (fun v _ wr => ∃ (left : Lit → Bool) (cnt : Nat) (ks : List (List UInt8)), wr.ranges Tryz.prog 9 R b w.heap.size nn D0 left cnt ∧ ks.length + cnt ≤ Maps.size D0 ∧
      wr.ownsRow w.heap.size 9 1 v (D5 dir ks).length ((D5 dir ks).map encStr) ∧ (v = .slice none 0 0 ↔ D5 dir ks = []) ∧ Collected D0 left ks ∧ Below w.heap.size w wr)
    (fun _ _ wr => wr.rangeLeft b w.heap.size)
  case atStart =>
    exact ⟨_, _, [], hrg0, by simp, ⟨rfl, .inl ⟨rfl, rfl⟩⟩, by simp [D5], Collected.start D0, (Below.refl _ _).grown hg0 (Nat.le_refl _) (fun j hj => by cases hj)⟩
  case round =>
    obtain ⟨left, cnt, ks, hrg, hcs, hrow, hnn, hC, hnx⟩ := hrel
    have hol := outS_le dir ks
    gi_wp2_with (first
      | (gi_at_next; refine wpListIn_next_ranges _ rfl _ rfl 9 law9 R encStr id (fun key kl hk => by obtain ⟨x, hx, _⟩ := Maps.keyOf_str Tryz.underlying9 hk; exact ⟨x, hx⟩) (fun v _ _ => ⟨v, rfl⟩) b w.heap.size nn _ _ _ rfl hrg ?_ ?_)
      | gi_in)
    · intro hc0 hl0
      have hperm : (D5 dir ks).Perm (D5 dir (strKeys D0)) := ((hC.perm hown law9 Tryz.underlying9 hl0).filter _).map _
      rcases hrow.2 with ⟨rfl, hz⟩ | ⟨g, cap, cur, rfl, hbase, hb, h1, h2, h3, h4⟩
      · have ho : D5 dir ks = [] := List.eq_nil_of_length_eq_zero hz
        gi_wp2_with (gi_at_call 64; refine (sort184_nil _ none 0 _).mono ?_; rintro e w' ⟨rfl, rfl⟩)
        go_ret
        exact ⟨_, D5 dir ks, rfl, hperm, by rw [ho]; exact ⟨by simp, .inl ⟨rfl, rfl⟩⟩, ⟨fun _ => ho, fun _ => rfl⟩, hnx⟩
      · have hH : Holds encStr wr g 0 (D5 dir ks).toArray := holds_of_block hb (by simpa using h4)
        have hgl : g < wr.heap.size := (Array.getElem?_eq_some_iff.1 hb).1
        gi_wp2_with (gi_at_call 64; refine (sort184 _ g 0 cap (D5 dir ks) wr hH hgl (by omega)).mono ?_; rintro e w' ⟨rfl, nn, os, rfl⟩)
        go_ret
        exact ⟨_, D5 dir ks, rfl, hperm, ownsRow_sorted (by simp) hbase hb h1 h2 h3, hnn, hnx.grown (grownBy_sorted _) hnx.size (fun j hj => by cases hj; exact hbase)⟩
    · intro x y kl yd yp w2 cnt2 hkey hlk hv hat hrg2 hlt hg2 hs2 hen
      obtain ⟨x', ex, rfl, _⟩ := Maps.keyOf_str Tryz.underlying9 hkey
      obtain rfl : x = x' := encStr_inj ex
      obtain ⟨hx0, hx1, hx2⟩ := hkeys x (mem_keys hown (has_true_of_atKey hat))
      have hrow2 := hrow.kept hg2 (Or.inr (row_ne_iter hrow hrg).symm)
      have hnx2 : Below w.heap.size w w2 := hnx.grown hg2 hnx.size (fun j hj => by cases hj; exact Nat.le_refl _)
      clear hs2
      by_cases hp : J3 x = dir
      · have hx3 := hx2 hp
        gi_wp2_with (first
          | (gi_at_call 43; refine (callsIn_wide.2 (parent91 x _ hx0 (by omega))).mono ?_; rintro e w' ⟨rfl, hw⟩; rw [hw]; clear hw w')
          | (gi_at_call 44; refine (callsIn_wide.2 (join92 dir [] _ hdir (by simp))).mono ?_; rintro e w' ⟨rfl, hw⟩; rw [hw]; clear hw w')
          | (gi_at_builtin; refine wpListIn_append_own _ rfl _ _ 55 rfl w.heap.size 9 i0 (.string ⟨#[]⟩) 1 16 Tryz.underlying55 hi hz0 hz1 hz2 rfl (by decide) _ _ _ rfl (hrow2.alloc _) ⟨w2.heap.size, 0, none⟩ 1 1 [.string (({ data := x.toArray } : ByteArray).extract (G7 dir []).length x.length)] rfl rfl (cell_one_new _ _ _) (by simp [Value.oneCell']) (by simp only [maxLen]; omega) (by omega) (by have := hnx2.size; simp; omega) ?_; intro v' w3 hown' hg3 hnil3; go_frame)
          | gi_in)
        have hsn : D5 dir (ks ++ [x]) = D5 dir ks ++ [x.drop (G7 dir []).length] := by rw [outS_snoc, if_pos hp]
        have hrg3 := (hrg2.alloc _).kept hg3 (row_ne_low hrow2 hbl) (row_ne_iter hrow2 hrg2)
        go_roundw
        case rel =>
          refine ⟨_, cnt2, ks ++ [x], hrg3, by simp; omega, ?_, ?_, hC.step hlk hat, ?_⟩
          · rw [hsn]
            rw [drop_str x _ hx3] at hown'
            simpa [encStr] using hown'
          · rw [hsn]
            simp only [List.append_eq_nil_iff, List.cons_ne_self, and_false, iff_false]
            exact fun hv' => by have := (hnil3.1 hv').2; omega
          · exact (hnx2.alloc hnx2.size _).grown hg3 (by have := hnx2.size; simp; omega) (fun j hj => (hrow2.lt j hj).1)
        case measure => rw [hrg3.left_eq, hrg.left_eq]; exact hlt
      · have hpb : (J3 x == dir) = false := by simpa using hp
        gi_wp2_with (first
          | (gi_at_call 43; refine (callsIn_wide.2 (parent91 x _ hx0 (by omega))).mono ?_; rintro e w' ⟨rfl, hw⟩; rw [hw]; clear hw w')
          | (gi_at_call 44; refine (callsIn_wide.2 (join92 dir [] _ hdir (by simp))).mono ?_; rintro e w' ⟨rfl, hw⟩; rw [hw]; clear hw w')
          | gi_in)
        have hsn : D5 dir (ks ++ [x]) = D5 dir ks := by rw [outS_snoc, if_neg hp, List.append_nil]
        go_roundw
        case rel => exact ⟨_, cnt2, ks ++ [x], hrg2, by simp; omega, by rw [hsn]; exact hrow2, by rw [hsn]; exact hnn, hC.step hlk hat, hnx2⟩
        case measure => rw [hrg2.left_eq, hrg.left_eq]; exact hlt
end Go.Proofs.YtjoakhpdajlhiaaGreatDoor.V2
namespace Go.Proofs.YtjoakhpdajlhiaaGreatDoor.V2
open Go Go.Shelf Go.Proofs Go.RowKit
theorem HR.below {ρ : Ren} {σ : AH} {W W' : World} (h : HR ρ σ W) (hb : Below W.heap.size W W') : HR ρ σ W' :=
  ⟨h.small, h.none_, fun b c d hρ => by
    obtain ⟨h1, h2, o, h3, h4⟩ := h.dom b c d hρ
    refine ⟨h1, Nat.lt_of_lt_of_le h2 hb.size, o, h3, ?_⟩
    rw [hb.block c h2]; exact h4, h.inj⟩
theorem Stp.below {N : Nat} {ρ : Ren} {σ : AH} {W W' : World} (hN : N ≤ σ.next) (hb : Below W.heap.size W W') : Stp N ρ σ W ρ σ W' :=
  ⟨fun _ _ => rfl, fun b _c d h => .inl ⟨b, d, h⟩, hN, fun _ _ _ _ h _ => h, fun c hc _ => hb.block c hc, hb.tape, hb.os, hb.output, hb.size, fun _ c _ _ _ _ hc h _ => ⟨h, hb.block c hc⟩⟩
end Go.Proofs.YtjoakhpdajlhiaaGreatDoor.V2
namespace Go.Proofs.YtjoakhpdajlhiaaGreatDoor.V2
open Go
open Go.RowKit Go.Maps Go.Sort
theorem HR.adopt {ρ : Ren} {σ : AH} {W W' : World} (h : HR ρ σ W) (hb : Below W.heap.size W W') {g s : Nat} (hg : W.heap.size ≤ g) (hg' : g < W'.heap.size) (hs : σ.next < 1000000) {o : AObj} (hO : OR ρ (0, s) o W'.heap[g]?) :
    ∃ ρ', ρ' σ.next = some (g, (0, s)) ∧ Sub ρ ρ' ∧ HR ρ' (σ.new o) W' ∧ Stp σ.next ρ σ W ρ' (σ.new o) W' := by
  have hn : ρ σ.next = none := by
    cases hc : ρ σ.next with
    | none => rfl
    | some c => have := (h.dom _ c.1 c.2 hc).1; omega
  have hget : ∀ m, (σ.new o).get m = if m = σ.next then some o else σ.get m := fun m => T.get_put _ _ _ _ (by omega)
  have hsub : Sub ρ (fun b => if b = σ.next then some (g, (0, s)) else ρ b) := fun b x hc => by
    have hne : b ≠ σ.next := by rintro rfl; rw [hn] at hc; cases hc
    simp only [if_neg hne]; exact hc
  refine ⟨fun b => if b = σ.next then some (g, (0, s)) else ρ b, if_pos rfl, hsub, ⟨by show σ.next + 1 ≤ _; omega, fun m hm => by have hm : σ.next + 1 ≤ m := hm; rw [hget, if_neg (by omega)]; exact h.none_ m (by omega), fun b c d hc => ?_, fun b b' c d d' h1 h2 hne => ?_⟩, ⟨fun b hb => if_neg (by omega), fun b c d hc => ?_, by show σ.next ≤ σ.next + 1; omega, fun b ob hb _ ho' _ => ?_, fun c hc _ => hb.block c hc, hb.tape, hb.os, hb.output, hb.size, fun b c d ob hb' _ hc ho' _ => ⟨by rw [hget, if_neg (by omega)]; exact ho', hb.block c hc⟩⟩⟩
  · rw [hget]
    by_cases hbn : b = σ.next
    · subst hbn
      simp only [if_true, Option.some.injEq, Prod.mk.injEq] at hc
      obtain ⟨rfl, rfl⟩ := hc
      exact ⟨Nat.lt_succ_self _, hg', o, if_pos rfl, hO.mono hsub⟩
    · simp only [if_neg hbn] at hc ⊢
      obtain ⟨h1, h2, o2, h3, h4⟩ := h.dom b c d hc
      refine ⟨by show b < σ.next + 1; omega, Nat.lt_of_lt_of_le h2 hb.size, o2, h3, ?_⟩
      rw [hb.block c h2]
      exact h4.mono hsub
  · by_cases e1 : b = σ.next
    · subst e1
      simp only [if_true, Option.some.injEq, Prod.mk.injEq] at h1
      obtain ⟨rfl, rfl⟩ := h1
      simp only [if_neg (Ne.symm hne)] at h2
      have := (h.dom _ _ _ h2).2.1
      omega
    · by_cases e2 : b' = σ.next
      · subst e2
        simp only [if_true, Option.some.injEq, Prod.mk.injEq] at h2
        obtain ⟨rfl, rfl⟩ := h2
        simp only [if_neg e1] at h1
        have := (h.dom _ _ _ h1).2.1
        omega
      · simp only [if_neg e1, if_neg e2] at h1 h2
        exact (h.inj b b' c d d' h1 h2 hne).congr (by rw [hget, if_neg e1]) (by rw [hget, if_neg e2])
  · by_cases hbn : b = σ.next
    · subst hbn
      simp only [if_true, Option.some.injEq, Prod.mk.injEq] at hc
      exact .inr (by omega)
    · simp only [if_neg hbn] at hc
      exact .inl ⟨b, d, hc⟩
  · rw [hget, if_neg (by omega)]; exact ho'
theorem vrs_strs (ρ : Ren) : ∀ ss : List (List UInt8), VRs ρ (ss.map AV.str) (ss.map encStr)
  | [] => rfl
  | s :: ss => ⟨_, _, rfl, rfl, vrs_strs ρ ss⟩
theorem adopt_strs {ρ : Ren} {σ : AH} {W W' : World} (h : HR ρ σ W) (hb : Below W.heap.size W W') (hs : σ.next < 1000000) {u : Value} {ss : List (List UInt8)} (hne : ss ≠ []) (ho : W'.ownsRow W.heap.size 9 1 u ss.length (ss.map encStr)) :
    ∃ ρ', HR ρ' (σ.new (.cells (ss.map AV.str) 9 .more)) W' ∧ Stp σ.next ρ σ W ρ' (σ.new (.cells (ss.map AV.str) 9 .more)) W' ∧ VR ρ' (.sl σ.next 0 ss.length ss.length false 1) u := by
  have hl : 0 < ss.length := List.length_pos_iff.2 hne
  obtain ⟨_, ⟨_, h0⟩ | ⟨g, cap, cur, rfl, hg, hrow, hn, hcap, hsz, htk⟩⟩ := ho
  · omega
  have hg' : g < W'.heap.size := (Array.getElem?_eq_some_iff.1 hrow).1
  have hO : OR ρ (0, cap) (.cells (ss.map AV.str) 9 .more) W'.heap[g]? := by
    rw [hrow]
    refine OR.mk' rfl ⟨cur, 9, (0, 0), rfl, fun _ => ⟨rfl, .inl rfl, by rw [hsz, Nat.mul_one]⟩, by show (ss.map AV.str).length + 0 ≤ _; rw [List.length_map]; omega, by show (ss.map AV.str).length + 0 ≤ cap; rw [List.length_map]; omega, fun i a hi => ?_⟩
    have hil : i < ss.length := by have := (List.getElem?_eq_some_iff.1 hi).1; rwa [List.length_map] at this
    obtain ⟨v, h1, h2⟩ := (vrs_strs ρ ss).at i a hi
    refine ⟨v, ?_, h2⟩
    have e1 : (cur.toList.take (ss.length * 1))[i]? = (ss.map encStr)[i]? := by rw [htk]
    rw [List.getElem?_take, if_pos (by omega), Array.getElem?_toList] at e1
    rw [Nat.add_zero, e1]; exact h1
  obtain ⟨ρ', k1, _, k3, k4⟩ := h.adopt hb hg hg' hs hO
  refine ⟨ρ', k3, k4, ?_⟩
  unfold VR
  exact .inl ⟨g, (0, cap), 0, cap, k1, rfl, fun _ => rfl, Nat.le_refl _, hn, fun h => (by cases h), by show 0 + cap * 1 ≤ cap; omega⟩
def G6 : List (AV × AV) → Option (List (List UInt8))
  | [] => some []
  | p :: l => match p.1 with
    | .str s => match G6 l with
      | some m => some (s :: m)
      | none => none
    | _ => none
theorem keysS_spec {ρ : Ren} : ∀ {l : List (AV × AV)} {ks : List (List UInt8)} {es : List MapEntry}, G6 l = some ks → MapL ρ l es → es.map (·.key) = ks.map encStr
  | [], ks, es, h, hm => by cases h; rw [show es = [] from hm]; rfl
  | p :: l, ks, es, h, hm => by
    obtain ⟨e, m, rfl, h1, h2, h3⟩ := hm
    obtain ⟨a, b⟩ := p
    cases a <;> first | (cases h; done) | skip
    rename_i s
    simp only [G6] at h
    cases hk : G6 l <;> rw [hk] at h
    · cases h
    rename_i m'
    cases h
    have h1 : e.key = .string ⟨s.toArray⟩ := h1
    rw [List.map_cons, List.map_cons, keysS_spec hk h3, h1]
def insS (x : List UInt8) : List (List UInt8) → List (List UInt8)
  | [] => [x]
  | y :: l => bif decide (y < x) then y :: insS x l else x :: y :: l
def Hh : List (List UInt8) → List (List UInt8)
  | [] => []
  | x :: l => insS x (Hh l)
def risS : List (List UInt8) → Bool
  | [] => true
  | x :: l => (match l with | [] => true | y :: _ => decide (x < y)) && risS l
theorem insS_perm (x : List UInt8) : ∀ l, (insS x l).Perm (x :: l)
  | [] => .refl _
  | y :: l => by
    unfold insS
    cases decide (y < x)
    · exact .refl _
    · exact (List.Perm.cons y (insS_perm x l)).trans (.swap _ _ _)
theorem D8 : ∀ l, (Hh l).Perm l
  | [] => .refl _
  | x :: l => (insS_perm x _).trans (.cons x (D8 l))
theorem risS_lt : ∀ {l : List (List UInt8)}, risS l = true → l.Pairwise (· < ·)
  | [], _ => .nil
  | [x], _ => List.pairwise_singleton _ _
  | x :: y :: l, h => by
    unfold risS at h
    rw [Bool.and_eq_true, decide_eq_true_eq] at h
    have ih := risS_lt h.2
    refine List.pairwise_cons.2 ⟨fun z hz => ?_, ih⟩
    rcases List.mem_cons.1 hz with rfl | hz
    · exact h.1
    · exact List.lt_trans h.1 (List.rel_of_pairwise_cons ih hz)
theorem K8 {l : List (List UInt8)} (h : risS (Hh l) = true) : l.Nodup ∧ l.mergeSort (fun x y => decide (x ≤ y)) = Hh l := by
  have hp := risS_lt h
  refine ⟨(D8 l).nodup_iff.1 (hp.imp fun {a b} hab e => by subst e; exact List.lt_irrefl _ hab), ?_⟩
  have hle : (Hh l).Pairwise (fun a b => leB a b = true) := hp.imp fun {a b} hab => by simp only [leB, decide_eq_true_eq]; exact List.le_of_lt hab
  show l.mergeSort leB = _
  rw [mergeSort_of_perm (D8 l).symm]
  exact List.mergeSort_of_pairwise hle
def shS (l : List (List UInt8)) : Bool := l.all fun s => Nat.ble s.length 1000000
def RNil (_ : Value) : Option (DataW Nat × List MemPlace) := some (.nil, [])
theorem own_of {ρ : Ren} {l : List (AV × AV)} {c : Nat} {W : World} (hM : MR ρ l W.heap[c]?) {ks : List (List UInt8)} (hk : G6 l = some ks) (hn : ks.Nodup) (hs : shS ks = true) (hl : ks.length ≤ 1000000) :
    ∃ D : DataW Nat, W.ownsMap Tryz.prog 9 RNil c ks.length D ∧ (strKeys D).Perm ks ∧ Maps.size D = ks.length := by
  obtain ⟨es, ck, hb, h1, h2, h3⟩ := hM
  have hkey := keysS_spec hk h1
  have hlen : es.size = ks.length := by have := congrArg List.length hkey; simpa using this
  have hrd : ∀ x ∈ es.toList, ∃ s, s ∈ ks ∧ x.key = encStr s ∧ Go.WideElems.rd Tryz.prog 9 RNil x = some (.string s, .nil) := fun x hx => by
    have : x.key ∈ ks.map encStr := by rw [← hkey]; exact List.mem_map_of_mem hx
    obtain ⟨s, hs1, hs2⟩ := List.mem_map.1 this
    refine ⟨s, hs1, hs2.symm, ?_⟩
    have hsl : s.length ≤ 1000000 := by have := List.all_eq_true.1 hs s hs1; rwa [Nat.ble_eq] at this
    have hko : keyOf Tryz.prog 9 (encStr s) = some (.string s) := by
      simp only [keyOf, Tryz.underlying9, mapKey, encStr]
      rw [if_pos (by show s.toArray.size ≤ maxLen; simp [maxLen]; omega)]
    exact Go.WideElems.rd_mk (yv := (.nil, [])) (by rw [← hs2]; exact hko) rfl
  have F : Go.WideElems.Fit Tryz.prog 9 RNil es ck := ⟨by rw [hlen]; simp only [maxLen]; omega, ⟨h3, Go.Proofs.YtjoakhpdajlhiaaGreatDoor.V2.nodup_born h2, by rw [hkey]; exact List.pairwise_map.2 (hn.imp fun {a b} hab e => hab (encStr_inj e))⟩, fun x hx => by obtain ⟨s, _, _, h⟩ := hrd x hx; exact ⟨_, h⟩⟩
  refine ⟨_, ⟨es, ck, hb, F, Nat.le_of_eq hlen, rfl⟩, ?_, ?_⟩
  · show (((es.toList.map (Go.WideElems.rg Tryz.prog 9 RNil)).foldr DataW.insert []).map fun p => strOf p.1).Perm ks
    refine ((WideShapes.sorted_perm _).map _).trans ?_
    have : (es.toList.map (Go.WideElems.rg Tryz.prog 9 RNil)).map (fun p => strOf p.1) = ks := by
      have e2 : ∀ x ∈ es.toList, encStr (strOf (Go.WideElems.rg Tryz.prog 9 RNil x).1) = x.key := fun x hx => by
        obtain ⟨s, _, h5, h6⟩ := hrd x hx
        rw [Go.WideElems.rg_of h6, h5]; rfl
      have e3 : ((es.toList.map (Go.WideElems.rg Tryz.prog 9 RNil)).map (fun p => strOf p.1)).map encStr = ks.map encStr := by
        rw [List.map_map, List.map_map, ← hkey]
        exact List.map_congr_left e2
      exact (List.map_inj_right fun a b h => encStr_inj h).1 e3
    rw [this]
  · show ((es.toList.map (Go.WideElems.rg Tryz.prog 9 RNil)).foldr DataW.insert []).length = _
    rw [(WideShapes.sorted_perm _).length_eq, List.length_map, Array.length_toList, hlen]
noncomputable def Ja (σ : AH) (ks : List (List UInt8)) : Out := match Hh ks with
  | [] => (true, .nilsl, σ)
  | x :: l => (risS (x :: l) && shS ks && Nat.ble ks.length 1000000 && Nat.blt σ.next 1000000, .sl σ.next 0 (x :: l).length (x :: l).length false 1, σ.new (.cells ((x :: l).map AV.str) 9 .more))
noncomputable def srtM (σ : AH) (m : Nat) : Out := match σ.get m with
  | some (.map l) => match G6 l with
    | some ks => Ja σ ks
    | none => bad σ
  | _ => bad σ
noncomputable def srtA (args : List AV) (σ : AH) : Out := match args with
  | [.fn (.func q) [] [.ptr b o]] => bif Nat.beq q 66 || Nat.beq q 66 then match (σ.get b).bind fun ob => ob.at o with
    | some (.map m) => srtM σ m
    | _ => bad σ else bad σ
  | _ => bad σ
noncomputable def srF (g : FuncId → List AV → AH → Out) (f : FuncId) (args : List AV) (σ : AH) : Out := bif Nat.beq f 56 then srtA args σ else g f args σ
theorem srtO_ok {ρ : Ren} {σ : AH} {W : World} (hr : HR ρ σ W) {l : List (AV × AV)} {c : Nat} (hM : MR ρ l W.heap[c]?) {ks : List (List UInt8)} (hk : G6 l = some ks) (h : (Ja σ ks).1 = true) {v : Value}
    (hC : ∀ (D0 : DataW Nat), W.ownsMap Tryz.prog 9 RNil c ks.length D0 → Maps.size D0 ≤ maxLen → Maps.size D0 * 16 ≤ 140737488355328 → Calls Tryz.prog 56 #[v] W fun e w' => ∃ (v : Value) (ss : List (List UInt8)), e = .returned v ∧ ss.Perm (strKeys D0) ∧
      w'.ownsRow W.heap.size 9 1 v ss.length ((ss.mergeSort (fun x y => decide (x ≤ y))).map encStr) ∧ (v = .slice none 0 0 ↔ ss = []) ∧ Below W.heap.size W w') :
    Calls Tryz.prog 56 #[v] W fun e W' => ∃ v ρ', e = .returned v ∧ HR ρ' (Ja σ ks).2.2 W' ∧ Stp σ.next ρ σ W ρ' (Ja σ ks).2.2 W' ∧ VR ρ' (Ja σ ks).2.1 v := by
  unfold Ja at h ⊢
  have hso := D8 ks
  cases hS : Hh ks with
  | nil =>
    rw [hS] at hso
    have hks : ks = [] := by simpa using hso.symm.length_eq
    subst hks
    obtain ⟨D, h1, h2, h3⟩ := own_of hM hk List.nodup_nil rfl (by simp)
    refine (hC D h1 (by rw [h3]; simp) (by rw [h3]; simp)).mono ?_
    rintro e W' ⟨v, ss, rfl, g1, g2, g3, g4⟩
    have : ss = [] := by have := (g1.trans h2).length_eq; simpa using this
    refine ⟨v, ρ, rfl, hr.below g4, .below (Nat.le_refl _) g4, ?_⟩
    unfold VR
    exact g3.2 this
  | cons x t =>
    rw [hS] at h
    simp only [Bool.and_eq_true, Nat.ble_eq, Nat.blt_eq] at h
    obtain ⟨⟨⟨h1, h2⟩, h3⟩, h4⟩ := h
    rw [← hS] at h1
    obtain ⟨i1, i2⟩ := K8 h1
    obtain ⟨D, j1, j2, j3⟩ := own_of hM hk i1 h2 h3
    refine (hC D j1 (by rw [j3]; simp only [maxLen]; omega) (by rw [j3]; omega)).mono ?_
    rintro e W' ⟨v, ss, rfl, g1, g2, g3, g4⟩
    have e1 : ss.mergeSort (fun x y => decide (x ≤ y)) = x :: t := by
      rw [← hS, ← i2]
      exact mergeSort_of_perm (g1.trans j2)
    have e2 : ss.length = (x :: t).length := by rw [← hS, hso.length_eq, (g1.trans j2).length_eq]
    rw [e1, e2] at g2
    obtain ⟨ρ', k1, k2, k3⟩ := adopt_strs hr g4 h4 (by simp) g2
    exact ⟨v, ρ', rfl, k1, k2, k3⟩
theorem srF_ok {Y : List Yl} {g : FuncId → List AV → AH → Out} (hg : FnOk Tryz.prog 3 g Y) : FnOk Tryz.prog 3 (srF g) Y := by
  intro f args σ h
  unfold srF at h ⊢
  cases hf : Nat.beq f 56
  case false => rw [hf] at h; rw [cond_false] at h ⊢; exact hg f args σ h
  rw [hf] at h
  simp only [cond_true] at h ⊢
  have e := Nat.eq_of_beq_eq_true hf
  subst e
  refine ⟨⟨_, Tryz.func56, by kernel_rfl, by kernel_rfl⟩, fun ρ W vs _ hG hr hvs => ?_⟩
  unfold srtA at h ⊢
  split at h
  case h_2 => cases h
  rename_i q b o
  cases hq : Nat.beq q 66 || Nat.beq q 66 <;> rw [hq] at h
  · cases h
  rw [cond_true] at h ⊢
  split at h
  case h_2 => cases h
  rename_i m hm
  obtain ⟨ob, hob, hat⟩ := Option.bind_eq_some_iff.1 hm
  obtain ⟨v, mm, rfl, hv, hmm⟩ := hvs
  have hmm : mm = [] := hmm
  subst hmm
  unfold VR at hv
  obtain ⟨us, ys, rfl, hus, hys⟩ := hv
  have hus : us = [] := hus
  subst hus
  obtain ⟨y, yy, rfl, hy, hyy⟩ := hys
  have hyy : yy = [] := hyy
  subst hyy
  unfold VR at hy
  obtain ⟨c, d, hc, rfl⟩ := hy
  obtain ⟨_, hcl, ob', ho', hO⟩ := hr.dom b c d hc
  rw [hob] at ho'
  cases ho'
  have hcy : ob.cellsy = true := by cases ob <;> first | rfl | (exact absurd hat (by simp [AObj.at]))
  have hpos : 0 < ob.len := by
    cases ob <;> simp only [AObj.at] at hat
    · cases hat
    · exact Nat.lt_of_le_of_lt (Nat.zero_le _) (List.getElem?_eq_some_iff.1 hat).1
    · obtain ⟨_, h5, _⟩ := Option.map_eq_some_iff.1 hat; exact Nat.lt_of_le_of_lt (Nat.zero_le _) (List.getElem?_eq_some_iff.1 h5).1
    · cases hat
    · cases hat
  obtain ⟨cs, el, fr, hx, _, _, _, hall⟩ := (hO.1 hcy).2 fun _ => hpos
  obtain ⟨u, hu, huv⟩ := hall o _ hat
  unfold VR at huv
  obtain ⟨c2, d2, hc2, rfl⟩ := huv
  have hcell : W.cell? ⟨c, o + d.1, none⟩ = some (.map (some c2)) := by simp [World.cell?, hx, hu]
  obtain ⟨_, _, ob2, ho2, hO2⟩ := hr.dom m c2 d2 hc2
  unfold srtM at h ⊢
  split at h
  case h_2 => cases h
  rename_i l hl
  rw [hl] at ho2
  cases ho2
  cases hk : G6 l <;> simp only [hk] at h ⊢
  · cases h
  rename_i ks
  rw [Bool.or_eq_true] at hq
  rcases hq with hq | hq
  · have e := Nat.eq_of_beq_eq_true hq
    subst e
    exact srtO_ok hr (hO2.2 l rfl) hk h fun D0 h1 h2 h3 => sorted250 c (o + d.1) c2 ks.length D0 W hcl hcell h1 h2 h3
  · have e := Nat.eq_of_beq_eq_true hq
    subst e
    exact srtO_ok hr (hO2.2 l rfl) hk h fun D0 h1 h2 h3 => sorted250 c (o + d.1) c2 ks.length D0 W hcl hcell h1 h2 h3
end Go.Proofs.YtjoakhpdajlhiaaGreatDoor.V2
