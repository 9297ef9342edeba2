/- Part 10 of the proof: texts of the proof. -/
import Derived.Test.YtjoakhpdajlhiaaDoorQW9
import Derived.Test.YtjoakhpdajlhiaaDoorCards
import Derived.Test.YtjoakhpdajlhiaaDoorTie
import Derived.LaidMore
import Derived.ProofKit
import Derived.OpenShut
import Derived.Carry
import Derived.Deep.DeepHandedRow
import Derived.Deep.Strs
import Derived.Deep.Matrix
import Derived.Lib.LaidTab
import Derived.Stop.LaidErr
import Derived.ChangeSlices
import Derived.Laws.Externs
import Derived.MapKept
import Derived.Shelf.Strings.Count
import Derived.Shelf.Strings.Search3
import Derived.Shelf.Strings.Repeat
import Derived.Shelf.Strings.LastIndexAll
import Derived.Shelf.SlIter.Nil
import Derived.Shelf.SortM.Plain
import Derived.Shelf.SortM.SortNone
import Derived.Shelf.Strings.Prefix
import Derived.Test.YtjoakhpdajlhiaaDoorChecked
import Derived.Maps.AppendAt
namespace Go.Proofs.YtjoakhpdajlhiaaDoor.V2.S
open Go
set_option linter.unusedVariables false
set_option maxRecDepth 100000
open Go.RowKit
def Sc : AV → Bool
  | .int _ _ => true
  | .str _ => true
  | _ => false
def vO : AV → Value
  | .int k n => .int k n
  | .str l => .string ⟨l.toArray⟩
  | _ => .bool false
theorem Sc.vr {ρ : Ren} {a : AV} (h : Sc a = true) : VR ρ a (vO a) := by
  cases a <;> first | (cases h; done) | (unfold VR; rfl)
def RowV (w : World) (v : Value) (z n : Nat) (L : List AV) : Prop := L.length = n * z ∧ (∀ a ∈ L, Sc a = true) ∧ ((v = .slice none 0 0 ∧ n = 0) ∨ ∃ b off c, v = .slice (some ⟨b, off, none⟩) n c ∧ n ≤ c ∧ b < w.heap.size ∧ ∀ i a, L[i]? = some a → w.cell? ⟨b, off + i, none⟩ = some (vO a))
theorem or_row {ρ : Ren} {w : World} {b off D : Nat} {L : List AV} {e : TypeId} (hD : L.length + off ≤ D) (hsc : ∀ a ∈ L, Sc a = true) (h : ∀ i a, L[i]? = some a → w.cell? ⟨b, off + i, none⟩ = some (vO a)) : OR ρ (off, D) (.cells L e .ro) w.heap[b]? := ⟨fun _ => by
  refine ⟨hD, fun hl => ?_⟩
  have hl : 0 < L.length := hl rfl
  have h0 : ∀ i (hi : i < L.length), w.cell? ⟨b, off + i, none⟩ = some (vO L[i]) := fun i hi => h i _ (List.getElem?_eq_getElem hi)
  obtain ⟨c, t, fr, hb, _⟩ := cell_row (h0 0 hl)
  have hat : ∀ i (hi : i < L.length), c[i + off]? = some (vO L[i]) := fun i hi => by
    obtain ⟨c', t', fr', hb', hc⟩ := cell_row (h0 i hi)
    rw [hb] at hb'; cases hb'
    rw [Nat.add_comm]; exact hc
  refine ⟨c, t, fr, hb, (fun hh => by cases hh), ?_, hD, fun i a hi => ?_⟩
  · have := (Array.getElem?_eq_some_iff.1 (hat (L.length - 1) (by omega))).1
    show L.length + off ≤ c.size
    omega
  · have hi : L[i]? = some a := hi
    have hil := (List.getElem?_eq_some_iff.1 hi).1
    have ha := (List.getElem?_eq_some_iff.1 hi).2
    refine ⟨_, hat i hil, ?_⟩
    rw [ha]
    exact Sc.vr (hsc a (List.mem_of_getElem? hi)), fun l e => by cases e⟩
def gE : AObj := .cells [] 0 .ro
def memF (os : List AObj) : List AObj := gE :: gE :: gE :: os
def rF (rs : List (Option (Nat × (Nat × Nat)))) : List (Option (Nat × (Nat × Nat))) := some (0, (0, 0)) :: some (1, (0, 0)) :: some (2, (0, 0)) :: rs
noncomputable def sF (os : List AObj) : T FObj := (hL (memF os)).mem.map βO
theorem sF_am {os : List AObj} (hl : os.length ≤ 900000) {i : Nat} {o : AObj} (h : os[i]? = some o) : Am (sF os) (3 + i) (βO o) := by
  unfold Am
  show ((hL (memF os)).mem.map βO).get (3 + i) = _
  rw [T.map_get]
  have := hL_get (l := memF os) (by show os.length + 1 + 1 + 1 ≤ _; omega) (3 + i)
  show ((hL (memF os)).get (3 + i)).map βO = _
  rw [this, show 3 + i = i + 1 + 1 + 1 by omega]
  show (os[i]?).map βO = _
  rw [h]; rfl
theorem rF_glob (rs : List (Option (Nat × (Nat × Nat)))) : ∀ g, g < 3 → ∃ s, rL (rF rs) g = some (g, (0, s)) := fun g hg => by
  match g, hg with
  | 0, _ => exact ⟨0, rfl⟩
  | 1, _ => exact ⟨0, rfl⟩
  | 2, _ => exact ⟨0, rfl⟩
theorem memF_sh {os : List AObj} (h : ∀ o ∈ os, o.isSh = true) : ∀ o ∈ memF os, o.isSh = true := fun o ho => by
  unfold memF at ho
  simp only [List.mem_cons] at ho
  rcases ho with rfl | rfl | rfl | ho
  · rfl
  · rfl
  · rfl
  · exact h o ho
theorem hrF {w : World} (hs : 3 ≤ w.heap.size) {os : List AObj} {rs : List (Option (Nat × (Nat × Nat)))} (hl : os.length ≤ 900000) (hlen : rs.length = os.length) (hsh : ∀ o ∈ os, o.isSh = true)
    (h : ∀ (i c : Nat) (d : Nat × Nat) (o : AObj), rs[i]? = some (some (c, d)) → os[i]? = some o → c < w.heap.size ∧ ∀ ρ, OR ρ d o w.heap[c]?) : HR (rL (rF rs)) (hL (memF os)) w := by
  have hg : ∀ ρ g, OR ρ (0, 0) gE w.heap[g]? := fun ρ g => or_row (by show 0 + 0 ≤ 0; omega) (fun a ha => absurd ha List.not_mem_nil) fun i a hi => by simp at hi
  refine hr_ro (by show os.length + 1 + 1 + 1 ≤ _; omega) (by show rs.length + 1 + 1 + 1 = os.length + 1 + 1 + 1; omega) (memF_sh hsh) fun b c d o hb ho => ?_
  match b with
  | 0 => cases hb; cases ho; exact ⟨by omega, hg _ _⟩
  | 1 => cases hb; cases ho; exact ⟨by omega, hg _ _⟩
  | 2 => cases hb; cases ho; exact ⟨by omega, hg _ _⟩
  | i + 3 =>
    obtain ⟨h1, h2⟩ := h i c d o hb ho
    exact ⟨h1, h2 _⟩
def reF : Value → Nat → Option (Nat × (Nat × Nat))
  | .slice (some a) _ c, z => some (a.block, (a.off, a.off + c * z))
  | _, _ => none
def fvF (v : Value) (b z n : Nat) : FV := match v with
  | .slice (some _) _ _ => .sl b 0 n n false z
  | _ => .o .sl
theorem RowV.or {w : World} {v : Value} {z n : Nat} {L : List AV} {e : TypeId} (h : RowV w v z n L) (c : Nat) (d : Nat × Nat) (hr : reF v z = some (c, d)) : c < w.heap.size ∧ ∀ ρ, OR ρ d (.cells L e .ro) w.heap[c]? := by
  obtain ⟨h1, h2, h3⟩ := h
  rcases h3 with ⟨rfl, _⟩ | ⟨b, off, cc, rfl, hc, hb, h4⟩
  · cases hr
  · cases hr
    exact ⟨hb, fun ρ => or_row (by rw [h1]; have := Nat.mul_le_mul_right z hc; omega) h2 h4⟩
theorem RowV.vr {w : World} {v : Value} {z n : Nat} {L : List AV} {ρ : Ren} {b : Nat} (h : RowV w v z n L) (hr : ρ b = reF v z) : VR ρ (αV (fvF v b z n)) v := by
  obtain ⟨h1, h2, h3⟩ := h
  rcases h3 with ⟨rfl, _⟩ | ⟨b', off, cc, rfl, hc, hb, h4⟩
  · rfl
  · show VR ρ (.sl b 0 n n false z) _
    unfold VR
    exact .inl ⟨b', (off, off + cc * z), off, cc, hr, rfl, fun _ => by simp, Nat.le_refl _, hc, (fun h => by cases h), Nat.le_refl _⟩
def aA (a : Ac) : List AV := [.int .i64 a.w, .str a.p, .str a.d, .int .u16 a.m]
def aAs (l : List Ac) : List AV := l.flatMap aA
theorem aAs_len : ∀ l : List Ac, (aAs l).length = l.length * 4
  | [] => rfl
  | a :: l => by
    show (aA a ++ aAs l).length = _
    rw [List.length_append, aAs_len l, List.length_cons]; show 4 + _ = _; omega
theorem βL_app : ∀ a b : List AV, βL (a ++ b) = βL a ++ βL b
  | [], b => rfl
  | x :: a, b => by
    show βV x :: βL (a ++ b) = βV x :: βL a ++ βL b
    rw [βL_app a b]; rfl
theorem aA_β (a : Ac) : βL (aA a) = acV a := by
  rcases a with ⟨w | w, p, d, m⟩ <;> rfl
theorem aAs_β : ∀ l : List Ac, βL (aAs l) = acs l
  | [] => rfl
  | a :: l => by
    show βL (aA a ++ aAs l) = acV a ++ acs l
    rw [βL_app, aA_β, aAs_β l]
theorem aAs_sc (l : List Ac) : ∀ a ∈ aAs l, Sc a = true := fun a ha => by
  unfold aAs at ha
  obtain ⟨x, _, hx⟩ := List.mem_flatMap.1 ha
  simp only [aA, List.mem_cons, List.not_mem_nil, or_false] at hx
  rcases hx with rfl | rfl | rfl | rfl <;> rfl
theorem aAs_at : ∀ (l : List Ac) (k j : Nat) (a : Ac), l[k]? = some a → j < 4 → (aAs l)[k * 4 + j]? = (aA a)[j]?
  | [], k, j, a, h, _ => by simp at h
  | b :: l, 0, j, a, h, hj => by
    simp at h; subst h
    show (aA b ++ aAs l)[0 * 4 + j]? = _
    rw [Nat.zero_mul, Nat.zero_add, List.getElem?_append_left (by show j < 4; exact hj)]
  | b :: l, k + 1, j, a, h, hj => by
    have h' : l[k]? = some a := by simpa using h
    show (aA b ++ aAs l)[(k + 1) * 4 + j]? = _
    rw [List.getElem?_append_right (by show 4 ≤ _; omega), show (k + 1) * 4 + j - (aA b).length = k * 4 + j by show _ - 4 = _; omega]
    exact aAs_at l k j a h' hj
theorem rowA_of {w : World} {v : Value} {os : List AObj} {l : List Ac} {i : Nat} {e : TypeId} (hl : os.length ≤ 900000) (h : RowV w v 4 l.length (aAs l)) (ho : os[i]? = some (.cells (aAs l) e .ro)) : RowA (sF os) (3 + os.length) (fvF v (3 + i) 4 l.length) l := by
  have ha := sF_am hl ho
  have hi := (List.getElem?_eq_some_iff.1 ho).1
  rw [show βO (.cells (aAs l) e .ro) = .cells (βL (aAs l)) e .ro from rfl, aAs_β] at ha
  obtain ⟨h1, h2, h3⟩ := h
  rcases h3 with ⟨rfl, h0⟩ | ⟨b', off, cc, rfl, hc, hb, h4⟩
  · exact .inl ⟨List.length_eq_zero_iff.1 h0, rfl⟩
  · exact .inr ⟨3 + i, _, _, _, _, rfl, by omega, ha⟩
end Go.Proofs.YtjoakhpdajlhiaaDoor.V2.S
namespace Go.Proofs.YtjoakhpdajlhiaaDoor
open Go.ChangeShapes Go.WideShapes Go.ChangeAt Go.RowKit
section
variable {H : Type} {enc : TypeId × Value → H} {P : Program}
theorem trodAll_stays (hl : laidOutB P = true) {W W' : World} {sp' : Nat → Bool} : ∀ {ts : List TypeId} {vs : List Value} {ds : List (DataW H)} {ps : List MemPlace}, (∀ t ∈ ts, P.readableRec t = true ∧ t < P.types.size) →
    DataW.TrodAll enc P W 0 (fun _ => true) true ts vs ds ps → (∀ p ∈ ps, W.sameAt W' p) → (∀ p ∈ ps, sp' p.block = true) → DataW.TrodAll enc P W' 0 sp' true ts vs ds ps
  | [], _, _, _, _, h, _, _ => by
    obtain ⟨rfl, rfl, rfl⟩ := trodAll_nil h
    exact trodAll_mk0
  | t :: ts, _, _, _, ht, h, h1, h2 => by
    obtain ⟨v, vs1, d, ds1, a, b, rfl, rfl, rfl, ha, hb⟩ := trodAll_cons h
    exact trodAll_cons_mk (WideElems.Trod_stays hl (ht t (by simp)).1 (ht t (by simp)).2 ha (fun p hp => h1 p (by simp [hp])) (fun p hp => h2 p (by simp [hp])))
      (trodAll_stays hl (fun t' h' => ht t' (by simp [h'])) hb (fun p hp => h1 p (by simp [hp])) (fun p hp => h2 p (by simp [hp])))
theorem post_of_below {f : Func} {s : ChangeSpec} {apart fresh handsOn again : Bool} {W W' : World} {args : Array Value} {v : Value} {ds gs : List (DataW H)} {before : List MemPlace}
    (hW : DataW.Whole enc P f.params.toList s.vars apart W args.toList ds gs before) (hl : laidOutB P = true) (hsv : s.vars = []) (hts : ∀ t ∈ f.params.toList, P.readableRec t = true ∧ t < P.types.size)
    (hb : Below W.heap.size W W') (ha : (s.fn H (ds ++ gs)).args = ds) (hgv : (s.fn H (ds ++ gs)).vars = [])
    (hres : ∀ (b : Nat) (sp : Nat → Bool) (hd : Bool), DataW.TrodAll enc P W' b sp hd f.resultTypes.toList (v.resultList f.resultTypes.size) (s.fn H (ds ++ gs)).results [])
    (hok : ∀ (j : Nat) (t : TypeId) (r : Value), f.resultTypes[j]? = some t → (v.resultList f.resultTypes.size)[j]? = some r → Value.okWide P W' .any 0 t r) :
    s.post enc P f apart fresh handsOn again W args v W' := by
  have hlt := hW.lt
  have hW0 := hW
  obtain ⟨p, q, hA0, hV, rfl, hz, hn⟩ := hW
  have hA : DataW.TrodAll enc P W 0 (fun _ => true) true f.params.toList args.toList ds p := hA0
  rw [hsv] at hV
  obtain ⟨rfl, rfl⟩ := trodVars_none hV
  rw [List.append_nil] at hlt hz hn
  have hs : ∀ x ∈ p, W.sameAt W' x := fun x hx => hb.same (hlt x hx)
  have hargs : ∀ sp : Nat → Bool, (∀ x ∈ p, sp x.block = true) → DataW.TrodAll enc P W' 0 sp true f.params.toList args.toList (s.fn H (ds ++ [])).args p := fun sp hsp => by
    rw [ha]; exact trodAll_stays hl hts hA hs hsp
  have hvars : ∀ sp : Nat → Bool, DataW.TrodVars enc P W' sp s.vars (s.fn H (ds ++ [])).vars [] := fun sp => by rw [hgv, hsv]; rfl
  have hold : ∀ x ∈ p, (fun b => decide (b < W.heap.size)) x.block = true := fun x hx => by simpa using hlt x hx
  refine ⟨ds, [], p ++ [], [], p, [], hW0, hres _ _ _, hargs _ hold, hvars _, ?_, fun _ => ?_⟩
  · exact hb.frame _
  · refine ⟨hok, _, _, ([] ++ p) ++ [], ⟨[] ++ p, [], trodAll_append (hargs _ (fun _ _ => rfl)) (hres _ _ _), hvars _, rfl, ?_, ?_⟩, ?_⟩
    · intro b off hp
      simp only [List.nil_append, List.append_nil] at hp
      rw [hb.frozen (hlt _ hp)]
      exact hz b off hp
    · intro h'
      simpa using hn h'
    · intro x hx _
      simpa using hx
end
theorem laidOut : laidOutB Tryd.prog = true := by kernel_rfl
theorem own : ownKnob Tryd.prog.godebug = none := by kernel_rfl
theorem gAcc : Tryd.prog.globalNamed "unicode/utf8.acceptRanges" = some 2 := by kernel_rfl
theorem size3 {W : World} {data : DataW Unit} {rest : List (String × DataW Unit)} (h : laidMet Tryd.prog (("unicode/utf8.acceptRanges", data) :: rest) W) : 3 ≤ W.heap.size := by
  obtain ⟨ps, ⟨g, t, cs, fuel, p, q, hg, _, hv, _⟩, _⟩ := h
  obtain rfl := Option.some.inj (gAcc.symm.trans hg)
  unfold World.var? at hv
  rw [gAcc, Option.bind_some] at hv
  split at hv
  · rename_i hh; have := (Array.getElem?_eq_some_iff.1 hh).1; omega
  · cases hv
mutual
def cellsD : DataW Unit → List Value
  | .lit (.int k n) => [.int k n]
  | .agg l => cellsDs l
  | _ => []
def cellsDs : List (DataW Unit) → List Value
  | [] => []
  | d :: l => cellsD d ++ cellsDs l
end
theorem add_none {a : Addr} (h : a.spot = none) (j : Nat) : a.add j = ⟨a.block, a.off + j, none⟩ := by
  obtain ⟨b, o, sp⟩ := a
  cases h
  unfold Addr.add; split <;> simp_all
theorem cellsAC : Tryd.prog.cellsOf 25 = 4 := by kernel_rfl
theorem cellsIN : Tryd.prog.cellsOf 3 = 1 := by kernel_rfl
theorem cellsST : Tryd.prog.cellsOf 9 = 1 := by kernel_rfl
theorem cellsU6 : Tryd.prog.cellsOf 23 = 1 := by kernel_rfl
theorem str_of (s : ByteArray) : Value.string s = V2.S.vO (.str s.data.toList) := by
  show Value.string s = Value.string ⟨s.data.toList.toArray⟩
  rw [Array.toArray_toList]
set_option maxRecDepth 100000 in
theorem open_act {H : Type} {enc : TypeId × Value → H} {W : World} {base n : Nat} {cs : List Value} {x : DataW H × List MemPlace} (h : DataW.trod enc Tryd.prog W base (fun _ => true) true n 25 cs = some x) :
    ∃ a : V2.S.Ac, cs = (V2.S.aA a).map V2.S.vO ∧ a.m ≤ 65535 := by
  obtain ⟨xs, m, hcs, _, hlen, hxl, hf⟩ := DataW.trod_struct Tryd.underlying25 h
  rw [cellsAC] at hlen
  obtain ⟨a0, a1, a2, a3, rfl⟩ : ∃ a0 a1 a2 a3, cs = [a0, a1, a2, a3] := by
    match cs, hlen with
    | [a0, a1, a2, a3], _ => exact ⟨a0, a1, a2, a3, rfl⟩
  have x0 : DataW.trod enc Tryd.prog W base (fun _ => true) true m 3 (([a0, a1, a2, a3].drop 0).take (Tryd.prog.cellsOf 3)) = xs[0]? := hf 0 _ rfl
  rw [cellsIN, List.getElem?_eq_getElem (by rw [hxl]; decide)] at x0
  have x1 : DataW.trod enc Tryd.prog W base (fun _ => true) true m 9 (([a0, a1, a2, a3].drop 1).take (Tryd.prog.cellsOf 9)) = xs[1]? := hf 1 _ rfl
  rw [cellsST, List.getElem?_eq_getElem (by rw [hxl]; decide)] at x1
  have x2 : DataW.trod enc Tryd.prog W base (fun _ => true) true m 9 (([a0, a1, a2, a3].drop 2).take (Tryd.prog.cellsOf 9)) = xs[2]? := hf 2 _ rfl
  rw [cellsST, List.getElem?_eq_getElem (by rw [hxl]; decide)] at x2
  have x3 : DataW.trod enc Tryd.prog W base (fun _ => true) true m 23 (([a0, a1, a2, a3].drop 3).take (Tryd.prog.cellsOf 23)) = xs[3]? := hf 3 _ rfl
  rw [cellsU6, List.getElem?_eq_getElem (by rw [hxl]; decide)] at x3
  obtain ⟨z0, e0, _, _⟩ := DataW.trod_int Tryd.underlying3 x0
  obtain ⟨s1, e1, _, _⟩ := DataW.trod_string Tryd.underlying9 x1
  obtain ⟨s2, e2, _, _⟩ := DataW.trod_string Tryd.underlying9 x2
  obtain ⟨z3, e3, _, w3⟩ := DataW.trod_int Tryd.underlying23 x3
  have e0 : [a0] = [Value.int .i64 z0] := e0
  have e1 : [a1] = [Value.string s1] := e1
  have e2 : [a2] = [Value.string s2] := e2
  have e3 : [a3] = [Value.int .u16 z3] := e3
  cases e0; cases e1; cases e2; cases e3
  have hz : (0 : Int) ≤ z3 ∧ z3 ≤ 65535 := by
    simp only [Lit.wf, Bool.and_eq_true, decide_eq_true_eq] at w3
    exact w3
  refine ⟨⟨z0, s1.data.toList, s2.data.toList, z3.toNat⟩, ?_, by show z3.toNat ≤ 65535; omega⟩
  rw [str_of s1, str_of s2]
  show _ = [Value.int .i64 z0, V2.S.vO (.str s1.data.toList), V2.S.vO (.str s2.data.toList), Value.int .u16 (Int.ofNat z3.toNat)]
  rw [show (Int.ofNat z3.toNat) = z3 by show ((z3.toNat : Nat) : Int) = z3; exact Int.toNat_of_nonneg hz.1]
instance : Inhabited V2.S.Ac := ⟨⟨0, [], [], 0⟩⟩
set_option maxRecDepth 100000 in
theorem open_acts {H : Type} {enc : TypeId × Value → H} {W : World} {v : Value} {d : DataW H} {p : List MemPlace} {r : Reach} {base : Nat} (hv : Value.okWide Tryd.prog W r base 22 v) (h : DataW.Trod enc Tryd.prog W 0 (fun _ => true) true 22 v d p) :
    ∃ l : List V2.S.Ac, V2.S.RowV W v 4 l.length (V2.S.aAs l) ∧ ∀ a ∈ l, a.m ≤ 65535 := by
  have hv0 := hv
  obtain ⟨A, L, C, rfl⟩ := okWide_slice Tryd.underlying22 hv
  obtain ⟨n, h⟩ := h
  rcases Deep.open_slice Tryd.underlying22 h with ⟨e, _⟩ | ⟨a, len, cap, m, n2, D, Pl, e, _, hl, hm, hmm, _, hx⟩
  · obtain ⟨rfl, rfl, rfl⟩ : A = none ∧ L = 0 ∧ C = 0 := by simpa [Value.cells] using e
    exact ⟨[], ⟨rfl, fun a ha => absurd ha List.not_mem_nil, .inl ⟨rfl, rfl⟩⟩, fun a ha => absurd ha List.not_mem_nil⟩
  · obtain ⟨rfl, rfl, rfl⟩ : A = some a ∧ L = len ∧ C = cap := by simpa [Value.cells] using e
    obtain ⟨hs, hb⟩ : a.spot = none ∧ a.block < W.heap.size := by
      simp only [Value.okWide, Tryd.underlying22, Cell.okWide, Cell.ok] at hv0
      obtain ⟨_, _, _, hsp, row, cells, hsh, _⟩ := hv0
      refine ⟨hsp, ?_⟩
      unfold World.shape? at hsh
      split at hsh
      · rename_i hh; exact (Array.getElem?_eq_some_iff.1 hh).1
      · cases hsh
    simp only [if_true] at hmm
    rw [cellsAC] at hx
    have each : ∀ i, i < L → ∃ x : V2.S.Ac, (∀ j, j < 4 → W.cell? ⟨a.block, a.off + (i * 4 + j), none⟩ = ((V2.S.aA x).map V2.S.vO)[j]?) ∧ x.m ≤ 65535 := fun i hi => by
      obtain ⟨cs', h1, h2⟩ := hx i (by omega)
      obtain ⟨x, rfl, hx2⟩ := open_act h2
      refine ⟨x, fun j hj => ?_, hx2⟩
      have := (World.cells?_some h1).2.2 j hj
      rw [add_none hs, add_none rfl] at this
      rw [← this]
      show W.cell? ⟨a.block, a.off + (i * 4 + j), none⟩ = W.cell? ⟨a.block, a.off + i * 4 + j, none⟩
      rw [Nat.add_assoc]
    obtain ⟨f, hf⟩ := Deep.choose_lt each
    have hlen : ((List.range L).map f).length = L := by simp
    refine ⟨(List.range L).map f, ⟨V2.S.aAs_len _, V2.S.aAs_sc _, .inr ⟨a.block, a.off, C, ?_, by rw [hlen]; exact hl, hb, fun i x hi => ?_⟩⟩, fun x hx => ?_⟩
    · rw [hlen]; obtain ⟨b, o, sp⟩ := a; cases hs; rfl
    · have hi' := (List.getElem?_eq_some_iff.1 hi).1
      rw [V2.S.aAs_len, hlen] at hi'
      have hk : i / 4 < L := by omega
      have hg : ((List.range L).map f)[i / 4]? = some (f (i / 4)) := by simp [hk]
      have h3 := V2.S.aAs_at _ (i / 4) (i % 4) _ hg (by omega)
      rw [show i / 4 * 4 + i % 4 = i by omega, hi] at h3
      have h4 := (hf (i / 4) hk).1 (i % 4) (by omega)
      rw [show i / 4 * 4 + i % 4 = i by omega, List.getElem?_map, ← h3] at h4
      exact h4
    · obtain ⟨i, hi, rfl⟩ := List.mem_map.1 hx
      exact (hf i (by simpa using hi)).2
end Go.Proofs.YtjoakhpdajlhiaaDoor
namespace Go.Proofs.YtjoakhpdajlhiaaDoor
open Go.ChangeShapes Go.WideShapes Go.ChangeAt Go.RowKit
theorem cellsB5 : Tryd.prog.cellsOf 5 = 1 := by kernel_rfl
def toB (zs : List Int) : List UInt8 := zs.map fun z => UInt8.ofNat z.toNat
theorem toB_length (zs : List Int) : (toB zs).length = zs.length := by simp [toB]
theorem toB_at {zs : List Int} (h : ∀ n ∈ zs, (Lit.int .u8 n).wf = true) {j : Nat} (hj : j < zs.length) : N8 (at8 (toB zs) j) = zs.getD j 0 := by
  have h1 := h zs[j] (List.getElem_mem hj)
  simp only [Lit.wf, Bool.and_eq_true, decide_eq_true_eq] at h1
  have h2 : (0 : Int) ≤ zs[j] ∧ zs[j] ≤ 255 := h1
  unfold N8 at8 toB
  rw [List.getD_eq_getElem?_getD, List.getD_eq_getElem?_getD, List.getElem?_map, List.getElem?_eq_getElem hj]
  simp only [Option.map_some, Option.getD_some]
  rw [UInt8.toNat_ofNat']
  omega
theorem spot_of_cell {w : World} {a : Addr} {v : Value} (h : w.cell? (a.add 0) = some v) : a.spot = none ∧ a.block < w.heap.size := by
  have e : a.add 0 = a := by unfold Addr.add; simp
  rw [e] at h
  unfold World.cell? at h
  split at h
  · rename_i hh
    refine ⟨?_, (Array.getElem?_eq_some_iff.1 hh).1⟩
    cases hs : a.spot with
    | none => rfl
    | some x => simp [hs] at h
  · cases h
theorem bsl_of {W : World} {A : Option Addr} {L C : Nat} {zs : List Int} (hl : L ≤ C) (hz : zs.length = C) (hw : ∀ n ∈ zs, (Lit.int .u8 n).wf = true) (h0 : A = none → C = 0)
    (hc : ∀ a, A = some a → ∀ c, c < C → W.cell? (a.add c) = some (.int .u8 (zs.getD c 0))) : BSl W (.slice A L C) (toB (zs.take L)) := by
  have hlen : (toB (zs.take L)).length = L := by rw [toB_length, List.length_take]; omega
  cases A with
  | none =>
    have := h0 rfl
    subst this
    obtain rfl : L = 0 := by omega
    exact .inl ⟨rfl, rfl⟩
  | some a =>
    by_cases hC : C = 0
    · subst hC
      obtain rfl : L = 0 := by omega
      exact .inr (.inr ⟨a, rfl, rfl⟩)
    · obtain ⟨hs, hb⟩ := spot_of_cell (hc a rfl 0 (by omega))
      refine .inr (.inl ⟨a.block, a.off, C, by rw [hlen]; obtain ⟨b, o, sp⟩ := a; cases hs; rfl, by rw [hlen]; exact hl, hb, fun j hj => ?_⟩)
      rw [hlen] at hj
      have := hc a rfl j (by omega)
      rw [add_none hs] at this
      rw [this, toB_at (fun n hn => hw n (List.mem_of_mem_take hn)) (by rw [List.length_take]; omega)]
      rw [List.getD_eq_getElem?_getD, List.getD_eq_getElem?_getD, List.getElem?_take, if_pos hj]
set_option maxRecDepth 100000 in
theorem open_bytes {H : Type} {enc : TypeId × Value → H} {W : World} {v : Value} {d : DataW H} {p : List MemPlace} {r : Reach} {base : Nat} (hv : Value.okWide Tryd.prog W r base 33 v) (h : DataW.Trod enc Tryd.prog W 0 (fun _ => true) true 33 v d p) :
    ∃ A L C bs, v = .slice A L C ∧ BSl W v bs ∧ bs.length ≤ 9223372036854775807 := by
  obtain ⟨A, L, C, rfl⟩ := okWide_slice Tryd.underlying33 hv
  obtain ⟨n, h⟩ := h
  rcases open_ints Tryd.underlying33 Tryd.underlying5 cellsB5 h with ⟨e, _⟩ | ⟨a, len, cap, zs, e, _, hl, hm, hz, _, hc, hw⟩
  · obtain ⟨rfl, rfl, rfl⟩ : A = none ∧ L = 0 ∧ C = 0 := by simpa [Value.cells] using e
    exact ⟨_, _, _, [], rfl, .inl ⟨rfl, rfl⟩, Nat.zero_le _⟩
  · obtain ⟨rfl, rfl, rfl⟩ : A = some a ∧ L = len ∧ C = cap := by simpa [Value.cells] using e
    simp only [if_true] at hz
    have hB := bsl_of (W := W) (A := some a) hl hz hw (fun h => by cases h) (fun a' ha c hc' => by cases ha; exact hc c (by omega))
    refine ⟨_, _, _, _, rfl, hB, ?_⟩
    rw [toB_length, List.length_take]
    unfold maxLen at hm
    omega
end Go.Proofs.YtjoakhpdajlhiaaDoor
namespace Go.Proofs.YtjoakhpdajlhiaaDoor.V2
open Go
open Go.RowKit
theorem eqIn_map {Pr : Program} (w : World) (d : Nat) (t k e : TypeId) (p : Option Nat) (h : Pr.underlying t = some (.map k e)) :
    (Op.equalIn (d + 1) t (.map p) (.map none)).run Pr w = .ok p.isNone w := by
  cases p <;> simp [Op.equalIn, run_underlying h]
theorem eql_map {Pr : Program} (w : World) (t k e : TypeId) (p : Option Nat) (h : Pr.underlying t = some (.map k e)) :
    (binOp .eql t (.map p) (.map none)).run Pr w = .ok (.bool p.isNone) w := by
  simp only [binOp]
  simp [show Op.equal t (.map p) (.map none) = Op.equalIn (9999 + 1) t (.map p) (.map none) from rfl, eqIn_map w 9999 t k e p h]
theorem assert_map {Pr : Program} (w : World) (t xT k e : TypeId) (v : Value) (h : Pr.underlying t = some (.map k e)) : (Instr.typeAssert (.iface t v) xT t false).run Pr w = .ok v w := by
  simp [Instr.typeAssert, run_underlying h, go_sem, Result.andThen]
theorem clone_map {Pr : Program} (w : World) {r : Nat} {es : Array MapEntry} {clock : Nat} (t : TypeId) (hb : w.heap[r]? = some (.map es clock)) :
    (Extern.MapsClone.clone #[.iface t (.map (some r))]).run Pr w = .ok (.iface t (.map (some w.heap.size))) (w.alloc (.map es clock)) := by
  have e : Extern.MapsClone.clone #[.iface t (.map (some r))] = (getObj r >>= fun o => match o with
      | .map entries clock => (newObj (.map entries clock) >>= fun n => pure (.iface t (.map (some n))))
      | _ => stuck "maps.clone: a map expected") := rfl
  rw [e]
  simp [MapKept.run_getObj_map hb, Result.andThen, go_sem]
set_option maxRecDepth 100000 in
set_option maxHeartbeats 2000000 in
theorem clone57 (b : Nat) (es : Array MapEntry) (clock : Nat) (w : World) (hb : w.heap[b]? = some (.map es clock)) :
    Calls Tryd.prog 57 #[.map (some b)] w fun e w' => e = .returned (.map (some w.heap.size)) ∧ w' = w.alloc (.map es clock) := by
  have hq := fun w => eql_map (Pr := Tryd.prog) w 29 _ _ (some b) Tryd.underlying29
  go_enter Tryd.func57, Tryd.ntmps57
  go_wp2
  rw [run_callFunc_extern Tryd.func79 (by kernel_rfl) (by kernel_rfl) (by kernel_rfl) (e := Extern.MapsClone.clone) (by kernel_rfl), clone_map w 29 hb]
  simp only [Result.andThen]
  rw [Oper.upon_value]
  go_wp2
  rw [assert_map _ 29 _ _ _ _ Tryd.underlying29]
  simp only [Result.andThen]
  rw [Oper.upon_value]
  go_wp2
  go_ret
  exact ⟨rfl, rfl⟩
noncomputable def mdF (g : FuncId → List AV → AH → Out) (f : FuncId) (args : List AV) (σ : AH) : Out :=
  bif Nat.beq f 57 then (match args with
    | [.map b] => match σ.get b with
      | some (.map l) => (Nat.blt σ.next 1000000, .map σ.next, σ.new (.map l))
      | _ => bad σ
    | _ => bad σ)
  else g f args σ
theorem mdF_ok {Y : List Yl} {g : FuncId → List AV → AH → Out} (hg : FnOk Tryd.prog 3 g Y) : FnOk Tryd.prog 3 (mdF g) Y := by
  intro f args σ h
  unfold mdF at h ⊢
  cases hf : Nat.beq f 57
  case false => rw [hf] at h; rw [cond_false] at h ⊢; exact hg f args σ h
  rw [hf] at h
  simp only [cond_true] at h ⊢
  split at h
  case h_2 => cases h
  rename_i b
  split at h
  case h_2 => cases h
  rename_i l hl
  have hfn : (∃ fn, Tryd.prog.funcs[f]? = some fn ∧ fn.body.isSome = true ∧ (fn.name == "runtime.NumGoroutine") = false) ∧ ∀ (c : Nat) (es : Array MapEntry) (clock : Nat) (w : World), w.heap[c]? = some (.map es clock) → Calls Tryd.prog f #[.map (some c)] w fun e w' => e = .returned (.map (some w.heap.size)) ∧ w' = w.alloc (.map es clock) := by
    have e := Nat.eq_of_beq_eq_true hf; subst e
    exact ⟨⟨_, Tryd.func57, by kernel_rfl, by kernel_rfl⟩, fun c es ck w hw => clone57 c es ck w hw⟩
  refine ⟨hfn.1, fun ρ W vs _ hG hr hvs => ?_⟩
  obtain ⟨v, m, rfl, hv, hm⟩ := hvs
  have hm : m = [] := hm
  subst hm
  unfold VR at hv
  obtain ⟨c, d, hb, rfl⟩ := hv
  obtain ⟨_, hc, ob, ho, hO⟩ := hr.dom b c d hb
  rw [hl] at ho
  cases ho
  obtain ⟨es, ck, hx, h1, h2, h3⟩ := hO.2 l rfl
  refine (hfn.2 c es ck W hx).mono fun e W' ⟨e1, e2⟩ => ?_
  subst e1 e2
  have hOR : OR ρ (0, 0) (.map l) (some (.map es ck)) := ⟨fun h => (by cases h), fun l' hl' => (by cases hl'; exact ⟨es, ck, rfl, h1, h2, h3⟩)⟩
  obtain ⟨ρ', g1, g2, g3, g4⟩ := hr.new (s := 0) h hOR
  refine ⟨_, ρ', rfl, g3, g4, ?_⟩
  unfold VR
  exact ⟨_, _, g1, rfl⟩
noncomputable def cmA (args : List AV) (σ : AH) : Out := match args with
  | [.map b] => match σ.get b with
    | some (.map l) => (Nat.blt σ.next 1000000, .map σ.next, σ.new (.map l))
    | _ => bad σ
  | _ => bad σ
noncomputable def cmQ (l : List FV) (σ : FH) (k : KV) : FR := k1L l fun x => kM (fun b => gM σ b (kMp fun m => nM σ (.map m) fun b σ => k (.m b) σ)) x
theorem cmQ_sm (l : List FV) (σ : FH) (k : KV) : Sm (cmQ l σ k) k (cmA (αL l) (αH σ)) := by
  intro h
  unfold cmQ at h ⊢
  obtain ⟨x, rfl, h1⟩ := k1L_cases h
  rw [h1] at h ⊢
  obtain ⟨b, rfl, h2⟩ := kM_cases h
  rw [h2] at h ⊢
  obtain ⟨ob, _, h3, h4⟩ := gM_cases h
  rw [h4] at h ⊢
  obtain ⟨m, rfl, h5⟩ := kMp_cases h
  rw [h5] at h ⊢
  obtain ⟨h6, σ', h7, h8⟩ := nM_cases h
  rw [h8]
  refine ⟨.m σ.next, σ', ?_, rfl⟩
  unfold cmA
  simp only [αL, αV, h3, αO]
  rw [h6, h7]; rfl
end Go.Proofs.YtjoakhpdajlhiaaDoor.V2
namespace Go.Proofs.YtjoakhpdajlhiaaDoor.V2.S
open Go
set_option maxRecDepth 100000
set_option maxHeartbeats 4000000
set_option linter.unusedVariables false
attribute [local irreducible] fN fO nM gM pM Phi.fn mp bl bpart bapp top1 pack
theorem dataG_le {t : Tr} (h : sizesG t.L ≤ 32768) (p : Bs) : (dataG t p).length ≤ 32768 := by
  unfold dataG look
  cases hl : lookM En.path p t.L with
  | none => exact Nat.zero_le _
  | some a => have := (look_sizes hl).1; show a.data.length ≤ 32768; omega
def WriteS (H : HF) : Prop := ∀ {tb mb : Nat} {t : Tr} {n : Nat} {m : T FObj}, TreeAt m tb mb 65 t → tb < n → mb < n → tb ≠ mb → WfT t → ∀ (path data : Bs) (more : Bool), path.length ≤ 900000 → data.length ≤ 800000 → RetX 760 [mb] H [.p tb 0, .s (pack path), .s (pack data), .b more] n m (fun v n' m' => v = .n .i64 (writeG t path data more).2 ∧ TreeAt m' tb mb 65 (writeG t path data more).1)
theorem write_s {O : Oz} (hO : O = zO) (Φ : Phi) (HA : AbsS (Phi.fn Φ 12)) (HK : KindS (Phi.fn Φ 35)) (HP : PutS (Phi.fn Φ 39)) : WriteS (p13 O Φ) := fun {tb mb t n m} hT htb hmb htm hW path data more hpl hdl k P hn hf => by
  have hT1 := hT.s
  have hT2 := hT.m
  have hal := absG_le (t := t) (path := path) hW.c2 hpl
  have hdg := dataG_le hW.sz (absG t path).1
  have hws := hW.sz
  have key : ∀ (d : Bs), (if more then dataG t (absG t path).1 ++ data else data) = d → ¬ (absG t path).2 ≠ 0 → kindG t (absG t path).1 ≠ 1 → ∀ n' m' v, n ≤ n' → n' ≤ n + 760 → Kq [mb] n m m' → (v = .n .i64 (putG t ⟨(absG t path).1, false, d⟩).2 ∧ TreeAt m' tb mb 65 (putG t ⟨(absG t path).1, false, d⟩).1) → k v ⟨n', m'⟩ = P := fun d hd h1 h2 n' m' v h3 h4 h5 h6 => by
    have e : writeG t path data more = putG t ⟨(absG t path).1, false, d⟩ := by unfold writeG; rw [if_neg h1, if_neg h2, hd]
    rw [e] at hf; exact hf _ _ _ h3 h4 h5 h6
  have e1 : (absG t path).2 ≠ 0 → writeG t path data more = (t, (absG t path).2) := fun h => by unfold writeG; rw [if_pos h]
  have e2 : ¬ (absG t path).2 ≠ 0 → kindG t (absG t path).1 = 1 → writeG t path data more = (t, 5) := fun h h2 => by unfold writeG; rw [if_neg h, if_pos h2]
  have ed : ∀ a, lookM En.path (absG t path).1 t.L = some a → dataG t (absG t path).1 = a.data := fun a hla => by unfold dataG look; rw [hla]
  have en : lookM En.path (absG t path).1 t.L = none → dataG t (absG t path).1 = [] := fun hla => by unfold dataG look; rw [hla]
  cases more
  all_goals
    repeat' ((conv => lhs; whnf); first | ((with_reducible refine atFn ?_); first | refine HA (hT.kp kQ htb hmb) (by omega) (by omega) hW.c1 hW.c2 _ (by omega) _ _ (by omega) (fun n3 m3 h3 g3 k3 => ?_) | refine HK (hT.kp kQ htb hmb) (by omega) (by omega) _ _ _ (by omega) (fun n4 m4 h4 g4 k4 => ?_) | refine HP (hT.kp kQ htb hmb) (by omega) (by omega) htm hW ⟨(absG t path).1, false, data⟩ (by show (absG t path).1.length ≤ 900000; omega) (by show data.length ≤ 900000; omega) _ _ (by omega) (fun v5 n5 m5 h5 g5 k5 q5 => ?_) | refine HP (hT.kp kQ htb hmb) (by omega) (by omega) htm hW ⟨(absG t path).1, false, a.data ++ data⟩ (by show (absG t path).1.length ≤ 900000; omega) (by show (a.data ++ data).length ≤ 900000; rw [List.length_append]; omega) _ _ (by omega) (fun v5 n5 m5 h5 g5 k5 q5 => ?_)) | ((with_reducible refine fa0 hO ?_)) | ((with_reducible refine atLd ?_); refine ldC hO aQ (by rfl) ?_) | ((with_reducible refine eqB hO (fun h => ?_) (fun h => ?_))) | ((with_reducible refine neB hO (fun h => ?_) (fun h => ?_))) | ((with_reducible refine adS hO (by first | omega | (simp only [List.length_cons, List.length_nil, List.length_append]; omega)) ?_)) | ((with_reducible refine atLk ?_); refine lkS1 hO aQ (fun a hla => (fun hsz => ?_) (look_sizes hla)) (fun hla => ?_)) | ((with_reducible first | refine umt hO ?_ | refine uqu hO ?_ | refine urm hO ?_ | refine uan hO ?_ | refine uro hO ?_ | refine uxr hO ?_ | refine uhl hO ?_ | refine uhr hO ?_ | refine uad hO ?_ | refine usb hO ?_ | refine ult hO ?_ | refine ule hO ?_ | refine ugt hO ?_ | refine uge hO ?_ | refine ueq hO ?_ | refine une hO ?_ | refine ucv hO ?_ | refine uia hO ?_ | refine usv hO ?_ | refine ubu hO ?_ | refine uap hO ?_ | refine ubs hO ?_ | refine umm hO ?_ | refine upq hO ?_ | refine unq hO ?_ | refine uln hO ?_)))
    all_goals (conv => lhs; whnf)
  all_goals first
    | (rw [e1 (by assumption)] at hf; exact hf _ _ _ (by omega) (by omega) qQ ⟨rfl, hT.kp kQ htb hmb⟩)
    | (rw [e2 (by simp [*]) (by assumption)] at hf; exact hf _ _ _ (by omega) (by omega) qQ ⟨rfl, hT.kp kQ htb hmb⟩)
    | exact key data rfl (by simp [*]) (by assumption) _ _ _ (by omega) (by omega) qQ q5
    | exact key (a.data ++ data) (by rw [if_pos rfl, ed a hla]) (by simp [*]) (by assumption) _ _ _ (by omega) (by omega) qQ q5
    | exact key ([] ++ data) (by rw [if_pos rfl, en hla]) (by simp [*]) (by assumption) _ _ _ (by omega) (by omega) qQ q5
def CdS (H : HF) : Prop := ∀ {tb mb : Nat} {t : Tr} {n : Nat} {m : T FObj}, TreeAt m tb mb 65 t → tb < n → mb < n → WfT t → ∀ (path : Bs), path.length ≤ 900000 → RetX 601 [tb] H [.p tb 0, .s (pack path)] n m (fun v n' m' => v = .n .i64 (cdG t path).2 ∧ (tb ≠ mb → TreeAt m' tb mb 65 (cdG t path).1))
theorem cd_s {O : Oz} (hO : O = zO) (Φ : Phi) (HI : IsS (Phi.fn Φ 41)) : CdS (p16 O Φ) := fun {tb mb t n m} hT htb hmb hW path hpl k P hn hf => by
  have hT1 := hT.s
  have hT2 := hT.m
  have e1 : (isG t path 1).2 ≠ 0 → cdG t path = (t, (isG t path 1).2) := fun h => by unfold cdG; rw [if_pos h]
  have e2 : (isG t path 1).2 = 0 → cdG t path = ({ t with cwd := (isG t path 1).1 }, 0) := fun h => by unfold cdG; rw [if_neg (by simp [h])]
  repeat' ((conv => lhs; whnf); first | ((with_reducible refine atFn ?_); refine HI (hT.kp kQ htb hmb) (by omega) (by omega) hW _ _ (by omega) _ _ (by omega) (fun n3 m3 h3 g3 k3 => ?_)) | ((with_reducible refine fa0 hO ?_)) | ((with_reducible refine eqB hO (fun h => ?_) (fun h => ?_))) | ((with_reducible refine atSt ?_); refine stC hO aQ (by kernel_rfl) (fun _ _ _ => rfl) (fun _ => rfl) ?_))
  all_goals (conv => lhs; whnf)
  all_goals first
    | (rw [e1 (by assumption)] at hf; exact hf _ _ _ (by omega) (by omega) qQ ⟨rfl, fun _ => hT.kp kQ htb hmb⟩)
    | (have hz : (isG t path 1).2 = 0 := by assumption
       rw [e2 hz] at hf; exact hf _ _ _ (by omega) (by omega) qQ ⟨by rw [hz], fun _ => ⟨am_same (by omega), aQ⟩⟩)
def NewS (H : HF) : Prop := ∀ (n : Nat) (m : T FObj), RetX 2 [] H [] n m (fun v n' m' => ∃ tb mb, v = .p tb 0 ∧ tb ≠ mb ∧ n ≤ tb ∧ tb < n' ∧ n ≤ mb ∧ mb < n' ∧ TreeAt m' tb mb 65 newG)
theorem new_s {O : Oz} (hO : O = zO) (Φ : Phi) : NewS (p26 O Φ) := fun n m k P hn hf => by
  repeat' ((conv => lhs; whnf); first | ((with_reducible refine atBx ?_); refine bxA hO (by omega) (by simp only [αL, αV, AObj.of, allInt, βO, βL, βV, unp_pack]) ?_) | ((with_reducible first | refine umt hO ?_ | refine uqu hO ?_ | refine urm hO ?_ | refine uan hO ?_ | refine uro hO ?_ | refine uxr hO ?_ | refine uhl hO ?_ | refine uhr hO ?_ | refine uad hO ?_ | refine usb hO ?_ | refine ult hO ?_ | refine ule hO ?_ | refine ugt hO ?_ | refine uge hO ?_ | refine ueq hO ?_ | refine une hO ?_ | refine ucv hO ?_ | refine uia hO ?_ | refine usv hO ?_ | refine ubu hO ?_ | refine uap hO ?_ | refine ubs hO ?_ | refine umm hO ?_ | refine upq hO ?_ | refine unq hO ?_ | refine uln hO ?_)) | (with_reducible refine (nM_mp (by omega)).trans ?_))
  all_goals (conv => lhs; whnf)
  all_goals first
    | exact hf _ _ _ (by omega) (by omega) qQ ⟨n + 1, n, rfl, by omega, by omega, by omega, by omega, by omega, ⟨am_same (by omega), aQ⟩⟩
def CwdS (H : HF) : Prop := ∀ {tb mb : Nat} {t : Tr} {n : Nat} {m : T FObj}, TreeAt m tb mb 65 t → tb < n → mb < n → Ret0 H [.p tb 0] n m (.s (pack t.cwd))
theorem cwd_s {O : Oz} (hO : O = zO) (Φ : Phi) (H1 : NoneS (Phi.fn Φ 28)) : CwdS (p11 O Φ) := fun {tb mb t n m} hT htb hmb k P hf => by
  have hT1 := hT.s
  repeat' ((conv => lhs; whnf); first | ((with_reducible refine atFn ?_); refine H1 (hT.kp kQ htb hmb) _ _ ?_) | ((with_reducible refine fa0 hO ?_)) | ((with_reducible refine atLd ?_); refine ldC hO aQ (by rfl) ?_))
  all_goals (conv => lhs; whnf)
  all_goals first
    | exact hf
end Go.Proofs.YtjoakhpdajlhiaaDoor.V2.S
namespace Go.Proofs.YtjoakhpdajlhiaaDoor.V2.S
open Go
set_option maxRecDepth 100000
set_option maxHeartbeats 4000000
set_option linter.unusedVariables false
attribute [local irreducible] fN fO nM gM pM Phi.fn mp bl bpart bapp top1 pack
theorem setM_len (x : En) : ∀ L : List En, (setM En.path x L).length = match lookM En.path x.path L with | some _ => L.length | none => L.length + 1
  | [] => rfl
  | a :: l => by
    unfold setM lookM
    by_cases h : a.path = x.path
    · rw [if_pos h, if_pos h]; rfl
    · rw [if_neg h, if_neg h, List.length_cons, setM_len x l]
      cases lookM En.path x.path l <;> rfl
theorem setM_sizes (x : En) : ∀ L : List En, sizesG (setM En.path x L) = (match lookM En.path x.path L with | some o => sizesG L - o.data.length | none => sizesG L + x.path.length) + x.data.length
  | [] => by show x.path.length + x.data.length + 0 = 0 + x.path.length + x.data.length; omega
  | a :: l => by
    unfold setM lookM
    by_cases h : a.path = x.path
    · rw [if_pos h, if_pos h]; show x.path.length + x.data.length + sizesG l = a.path.length + a.data.length + sizesG l - a.data.length + x.data.length; rw [h]; omega
    · rw [if_neg h, if_neg h]
      have := setM_sizes x l
      cases hl : lookM En.path x.path l with
      | none => rw [hl] at this; show a.path.length + a.data.length + sizesG (setM En.path x l) = a.path.length + a.data.length + sizesG l + x.path.length + x.data.length; rw [this]; show _ + (sizesG l + x.path.length + x.data.length) = _; omega
      | some o =>
        have h2 := look_sizes hl
        rw [hl] at this; show a.path.length + a.data.length + sizesG (setM En.path x l) = a.path.length + a.data.length + sizesG l - o.data.length + x.data.length; rw [this]; show _ + (sizesG l - o.data.length + x.data.length) = _; omega
theorem setM_mem {x e : En} : ∀ {L : List En}, e ∈ setM En.path x L → e = x ∨ e ∈ L
  | [], h => .inl (by simpa [setM] using h)
  | a :: l, h => by
    unfold setM at h
    by_cases hp : a.path = x.path
    · rw [if_pos hp] at h
      rcases List.mem_cons.1 h with h | h
      · exact .inl h
      · exact .inr (List.mem_cons_of_mem _ h)
    · rw [if_neg hp] at h
      rcases List.mem_cons.1 h with h | h
      · exact .inr (by rw [h]; exact List.mem_cons_self)
      · rcases setM_mem h with h | h
        · exact .inl h
        · exact .inr (List.mem_cons_of_mem _ h)
theorem setM_path {x : En} {p : Bs} : ∀ {L : List En}, p ∈ (setM En.path x L).map En.path → p = x.path ∨ p ∈ L.map En.path := fun {L} h => by
  obtain ⟨e, h1, rfl⟩ := List.mem_map.1 h
  rcases setM_mem h1 with h | h
  · exact .inl (by rw [h])
  · exact .inr (List.mem_map.2 ⟨e, h, rfl⟩)
theorem setM_nd (x : En) : ∀ {L : List En}, (L.map En.path).Nodup → ((setM En.path x L).map En.path).Nodup
  | [], _ => by simp [setM]
  | a :: l, h => by
    rw [List.map_cons, List.nodup_cons] at h
    unfold setM
    by_cases hp : a.path = x.path
    · rw [if_pos hp, List.map_cons, List.nodup_cons, ← hp]; exact h
    · rw [if_neg hp, List.map_cons, List.nodup_cons]
      exact ⟨fun hm => (setM_path hm).elim hp h.1, setM_nd x h.2⟩
theorem delM_sub (p : Bs) : ∀ L : List En, (delM En.path p L).Sublist L
  | [] => by simp [delM]
  | a :: l => by
    unfold delM
    by_cases hp : a.path = p
    · rw [if_pos hp]; exact List.sublist_cons_self _ _
    · rw [if_neg hp]; exact (delM_sub p l).cons_cons _
theorem sizes_sub : ∀ {l l' : List En}, l.Sublist l' → sizesG l ≤ sizesG l' := fun h => by
  induction h with
  | slnil => exact Nat.le_refl _
  | cons a h ih => show _ ≤ a.path.length + a.data.length + sizesG _; omega
  | cons_cons a h ih => show a.path.length + a.data.length + sizesG _ ≤ a.path.length + a.data.length + sizesG _; omega
theorem look_in : ∀ {L : List En} {p : Bs} {a : En}, lookM En.path p L = some a → a ∈ L
  | [], p, a, h => by cases h
  | b :: L, p, a, h => by
    unfold lookM at h
    by_cases hb : b.path = p
    · rw [if_pos hb] at h; cases h; exact List.mem_cons_self
    · rw [if_neg hb] at h; exact List.mem_cons_of_mem _ (look_in h)
theorem putG_wf {t : Tr} (hW : WfT t) {x : En} (hx : x.path.head? = some 47) : WfT (putG t x).1 := by
  unfold putG
  split
  · exact hW
  split
  · exact hW
  rename_i h1 h2
  refine ⟨setM_nd x hW.nd, ?_, ?_, fun e he => ?_, fun e he => ?_, hW.hc, hW.c1, hW.c2⟩
  · show (setM En.path x t.L).length ≤ 128
    rw [setM_len]
    have : manyG t x = match lookM En.path x.path t.L with | some _ => t.L.length | none => t.L.length + 1 := rfl
    omega
  · show sizesG (setM En.path x t.L) ≤ 32768
    rw [setM_sizes]
    have : bytesG t x = match lookM En.path x.path t.L with | some o => sizesG t.L - o.data.length | none => sizesG t.L + x.path.length := rfl
    omega
  · rcases setM_mem he with rfl | he
    · exact hx
    · exact hW.hd e he
  · rcases setM_mem he with rfl | he
    · omega
    · exact hW.pl e he
theorem makeG_wf {t : Tr} (hW : WfT t) (path : Bs) : WfT (makeG t path).1 := by
  unfold makeG
  split
  · exact hW
  split
  · exact hW
  rename_i h1 h2
  exact putG_wf hW (absG_head hW.hc (by omega))
theorem writeG_wf {t : Tr} (hW : WfT t) (path data : Bs) (more : Bool) : WfT (writeG t path data more).1 := by
  unfold writeG
  split
  · exact hW
  split
  · exact hW
  rename_i h1 h2
  exact putG_wf hW (absG_head hW.hc (by omega))
theorem removeG_wf {t : Tr} (hW : WfT t) (path : Bs) : WfT (removeG t path).1 := by
  unfold removeG
  split
  · exact hW
  split
  · exact hW
  split
  · exact hW
  split
  · exact hW
  have hs := delM_sub (absG t path).1 t.L
  exact ⟨(hs.map _).nodup hW.nd, Nat.le_trans hs.length_le hW.len, Nat.le_trans (sizes_sub hs) hW.sz, fun e he => hW.hd e (hs.subset he), fun e he => hW.pl e (hs.subset he), hW.hc, hW.c1, hW.c2⟩
theorem kindG_le {t : Tr} (hW : WfT t) {a : Bs} (h : kindG t a ≠ 0) : a.head? = some 47 ∧ 1 ≤ a.length ∧ a.length ≤ 256 := by
  unfold kindG look at h
  by_cases ha : a = [47]
  · subst ha; exact ⟨rfl, by decide, by decide⟩
  · rw [if_neg ha] at h
    cases hl : lookM En.path a t.L with
    | none => rw [hl] at h; exact absurd rfl h
    | some e =>
      have h1 := look_in hl
      have h2 := (look_sizes hl).2
      have h3 := hW.hd e h1
      have h4 := (hW.pl e h1).1
      rw [h2] at h3 h4
      refine ⟨h3, ?_, h4⟩
      cases a with
      | nil => cases h3
      | cons c l => exact Nat.succ_le_succ (Nat.zero_le _)
theorem cdG_wf {t : Tr} (hW : WfT t) (path : Bs) : WfT (cdG t path).1 := by
  unfold cdG
  split
  · exact hW
  rename_i h
  have h : (isG t path 1).2 = 0 := by omega
  have h1 : kindG t (isG t path 1).1 ≠ 0 := by
    unfold isG at h ⊢
    by_cases ha : (absG t path).2 ≠ 0
    · rw [if_pos ha] at h; exact absurd h ha
    · rw [if_neg ha] at h ⊢
      by_cases hk : kindG t (absG t path).1 = 1
      · rw [if_pos hk]; show kindG t (absG t path).1 ≠ 0; omega
      · rw [if_neg hk] at h
        split at h <;> cases h
  obtain ⟨h2, h3, h4⟩ := kindG_le hW h1
  exact ⟨hW.nd, hW.len, hW.sz, hW.hd, hW.pl, h2, h3, h4⟩
theorem newG_wf : WfT newG := ⟨by simp [newG], by decide, by decide, fun e he => absurd he List.not_mem_nil, fun e he => absurd he List.not_mem_nil, rfl, by decide, by decide⟩
end Go.Proofs.YtjoakhpdajlhiaaDoor.V2.S
namespace Go.Proofs.YtjoakhpdajlhiaaDoor.V2.S
open Go
set_option maxRecDepth 100000
set_option maxHeartbeats 4000000
set_option linter.unusedVariables false
attribute [local irreducible] fN fO nM gM pM Phi.fn mp bl bpart bapp top1 pack
def pF : List Bs → Bs
  | [] => []
  | n :: ns => 47 :: n ++ pF ns
def dirP (ns : List Bs) : Bs := if ns = [] then [47] else pF ns
theorem pF_app : ∀ a b : List Bs, pF (a ++ b) = pF a ++ pF b
  | [], b => rfl
  | n :: a, b => by show 47 :: n ++ pF (a ++ b) = 47 :: n ++ pF a ++ pF b; rw [pF_app a b, List.append_assoc]
theorem pF_snoc (a : List Bs) (n : Bs) : pF (a ++ [n]) = pF a ++ 47 :: n := by rw [pF_app]; show _ ++ (47 :: n ++ []) = _; rw [List.append_nil]
theorem splitB_ne : ∀ l : Bs, splitB l ≠ []
  | [] => by simp [splitB]
  | c :: l => by
    unfold splitB
    split
    · simp
    · split <;> simp
theorem splitB_app : ∀ a b : Bs, splitB (a ++ 47 :: b) = splitB a ++ splitB b
  | [], b => by show splitB (47 :: b) = [[]] ++ splitB b; rw [splitB, if_pos rfl]; rfl
  | c :: a, b => by
    have ih := splitB_app a b
    rw [List.cons_append, splitB, splitB, ih]
    by_cases hc : c = 47
    · rw [if_pos hc, if_pos hc]; rfl
    · rw [if_neg hc, if_neg hc]
      cases h : splitB a with
      | nil => exact absurd h (splitB_ne a)
      | cons p ps => rfl
theorem splitB_pF : ∀ (ns : List Bs) (a : Bs), (∀ n ∈ ns, countS n = 0) → splitB (a ++ pF ns) = splitB a ++ ns
  | [], a, _ => by show splitB (a ++ []) = _; rw [List.append_nil, List.append_nil]
  | n :: ns, a, h => by
    have e : a ++ pF (n :: ns) = (a ++ 47 :: n) ++ pF ns := by show a ++ (47 :: n ++ pF ns) = _; rw [List.append_assoc]
    rw [e, splitB_pF ns _ fun x hx => h x (List.mem_cons_of_mem _ hx), splitB_app, split_none (h n List.mem_cons_self), List.append_assoc]; rfl
theorem split_pF {ns : List Bs} (h : ∀ n ∈ ns, countS n = 0) : splitB (pF ns) = [] :: ns := splitB_pF ns [] h
structure Good (n : Bs) : Prop where
  nm : nameB n = true
  c0 : countS n = 0
  e1 : n ≠ []
  e2 : n ≠ [46]
  e3 : n ≠ [46, 46]
theorem lastS_app0 : ∀ (a n : Bs), countS n = 0 → lastS (a ++ 47 :: n) = a.length + 1
  | [], n, h => by
    show lastS (47 :: n) = 1
    have h0 : lastS n = 0 := lastS_none fun i hi hb => by
      have : (47 : UInt8) ∈ n := by
        unfold bt at hb
        rw [List.getD_eq_getElem?_getD, List.getElem?_eq_getElem hi, Option.getD_some] at hb
        rw [← show n[i] = 47 from UInt8.toNat_inj.1 hb]; exact List.getElem_mem hi
      exact absurd h (by unfold countS; exact Nat.pos_iff_ne_zero.1 (List.count_pos_iff.2 this))
    rw [lastS, if_pos h0, if_pos rfl]
  | c :: a, n, h => by
    show lastS (c :: (a ++ 47 :: n)) = _
    rw [lastS, lastS_app0 a n h, if_neg (by omega)]; rfl
theorem hasSuf_app (a : Bs) {n : Bs} (h0 : countS n = 0) (h1 : n ≠ []) : hasSuf (a ++ n) [47] = false := by
  unfold hasSuf
  have hl := List.length_pos_iff.2 h1
  by_cases h : (a ++ n).drop ((a ++ n).length - [(47 : UInt8)].length) = [47]
  · have hm : (47 : UInt8) ∈ n := by
      rw [List.length_append, show a.length + n.length - [(47 : UInt8)].length = a.length + (n.length - 1) by show _ - 1 = _; omega, List.drop_length_add_append] at h
      exact List.mem_of_mem_drop (h ▸ List.mem_singleton.2 rfl)
    exact absurd h0 (by unfold countS; exact Nat.pos_iff_ne_zero.1 (List.count_pos_iff.2 hm))
  · rw [decide_eq_false h, Bool.and_false]
theorem hasSuf_app' (b : List Bs) {x : Bs} (h : Good x) : hasSuf (pF b ++ 47 :: x) [47] = false := by
  have := hasSuf_app (pF b ++ [47]) h.c0 h.e1
  rwa [List.append_assoc] at this
theorem dirP_snoc (a : List Bs) (n : Bs) : dirP (a ++ [n]) = pF a ++ 47 :: n := by
  unfold dirP; rw [if_neg (by simp), pF_snoc]
theorem join_dirP {a : List Bs} (ha : ∀ x ∈ a, Good x) (n : Bs) : joinG (dirP a) n = dirP (a ++ [n]) := by
  rw [dirP_snoc]
  unfold joinG trimG
  rcases List.eq_nil_or_concat a with rfl | ⟨b, x, rfl⟩
  · rfl
  · have hx := ha x (by simp)
    rw [List.concat_eq_append] at *
    rw [dirP_snoc, pF_snoc, hasSuf_app' b hx]
    simp
theorem par_dirP (a : List Bs) {n : Bs} (h : Good n) : parG (dirP (a ++ [n])) = dirP a := by
  rw [dirP_snoc]
  unfold parG
  rw [lastS_app0 _ _ h.c0, Nat.add_sub_cancel]
  cases a with
  | nil => rfl
  | cons x a =>
    have : 1 ≤ (pF (x :: a)).length := by show 1 ≤ (47 :: x ++ pF a).length; simp
    rw [Nat.max_eq_left this, List.take_left']
    · unfold dirP; rw [if_neg (by simp)]
    · rfl
theorem step_name {t : Tr} {a : List Bs} {n : Bs} (ha : ∀ x ∈ a, Good x) (hn : Good n) (hk : kindG t (dirP a) = 1) : stepG t (dirP a) n = .inr (dirP (a ++ [n])) := by
  unfold stepG
  rw [if_neg (by rintro (h | h); exact hn.e1 h; exact hn.e2 h), if_neg (by rintro ⟨_, h⟩; rw [hn.nm] at h; cases h), if_neg (by omega), if_neg (by omega), if_neg hn.e3, join_dirP ha]
theorem step_e {t : Tr} {a : Bs} : stepG t a [] = .inr a := by unfold stepG; rw [if_pos (.inl rfl)]
theorem loop_names {t : Tr} : ∀ (b a : List Bs), (∀ x ∈ a, Good x) → (∀ x ∈ b, Good x) → (∀ j, j < b.length → kindG t (dirP (a ++ b.take j)) = 1) → loopG t (dirP a) b = .inr (dirP (a ++ b))
  | [], a, _, _, _ => by rw [loopG, List.append_nil]
  | n :: b, a, ha, hb, hk => by
    have h0 := hk 0 (by simp)
    rw [List.take_zero, List.append_nil] at h0
    have hn := hb n List.mem_cons_self
    rw [loopG_step (step_name ha hn h0), loop_names b (a ++ [n]) (fun x hx => (List.mem_append.1 hx).elim (ha x) fun h => by rw [List.mem_singleton.1 h]; exact hn) (fun x hx => hb x (List.mem_cons_of_mem _ hx)) (fun j hj => by have := hk (j + 1) (by simpa using hj); rw [List.append_assoc]; exact this), List.append_assoc]; rfl
end Go.Proofs.YtjoakhpdajlhiaaDoor.V2.S
namespace Go.Proofs.YtjoakhpdajlhiaaDoor.V2.S
open Go
set_option maxRecDepth 100000
set_option maxHeartbeats 4000000
set_option linter.unusedVariables false
attribute [local irreducible] fN fO nM gM pM Phi.fn mp bl bpart bapp top1 pack
theorem hasPre_pF {b : List Bs} (h : b ≠ []) : hasPre (pF b) [47] = true := by
  cases b with
  | nil => exact absurd rfl h
  | cons n b => rw [pF]; simp [hasPre]
theorem pF_ne {b : List Bs} (h : b ≠ []) : pF b ≠ [] := by
  cases b with
  | nil => exact absurd rfl h
  | cons n b => simp [pF]
theorem absP {t : Tr} {b : List Bs} (hg : ∀ x ∈ b, Good x) (hk : ∀ j, j < b.length → kindG t (dirP (b.take j)) = 1) (hl : (pF b).length ≤ 256) (hb : b ≠ []) : absG t (pF b) = (pF b, 0) := by
  have h1 := loop_names b [] (fun x hx => absurd hx List.not_mem_nil) hg (t := t) hk
  unfold absG
  rw [if_neg (by rintro (h | h); exact pF_ne hb h; omega), hasPre_pF hb, if_pos rfl, split_pF fun n hn => (hg n hn).c0, loopG_step step_e]
  rw [show dirP ([] : List Bs) = [47] from rfl, List.nil_append] at h1
  rw [h1]
  show (dirP b, 0) = (pF b, 0)
  unfold dirP; rw [if_neg hb]
/-! Names brought. -/
end Go.Proofs.YtjoakhpdajlhiaaDoor.V2.S
namespace Go.Proofs.YtjoakhpdajlhiaaDoor.V2.S
open Go
set_option maxRecDepth 100000
set_option maxHeartbeats 4000000
set_option linter.unusedVariables false
attribute [local irreducible] fN fO nM gM pM Phi.fn mp bl bpart bapp top1 pack
theorem few_nil {O : Oz} (hO : O = zO) (Φ : Phi) (n : Nat) (m : T FObj) : Ret0 (p8 O Φ) [.o .sl] n m (.o .sl) := fun k P hf => by
  skip
  all_goals (conv => lhs; whnf)
  all_goals first
    | refine lpI hO (fun q e n' m' => q = 0 ∧ n' = n ∧ m' = m ∧ e = eof [(2, .o .sl), (3, .o .sl), (4, .n .i64 0)]) ?_ ?_ _ 0 _ _ _ (by omega) ⟨rfl, rfl, rfl, rfl⟩
  · rintro q e n' m' ⟨_, rfl, _⟩; omega
  · rintro q e n' m' ih ⟨rfl, rfl, rfl, rfl⟩ hih
    repeat' ((conv => lhs; whnf); first | ((with_reducible refine lvN hO ?_)) | ((with_reducible refine ltF hO (by omega) ?_)))
    all_goals (conv => lhs; whnf)
    all_goals first
      | exact hf
end Go.Proofs.YtjoakhpdajlhiaaDoor.V2.S
namespace Go.Proofs.YtjoakhpdajlhiaaDoor.V2.S
open Go
set_option maxRecDepth 100000
set_option maxHeartbeats 4000000
set_option linter.unusedVariables false
attribute [local irreducible] fN fO nM gM pM Phi.fn mp bl bpart bapp top1 pack
def tT1 : Tr := ⟨[⟨[47, 97], true, []⟩], [47]⟩
def tT2 : Tr := ⟨[⟨[47, 97], true, []⟩, ⟨[47, 97, 47, 102], false, [120]⟩], [47]⟩
def tT3 : Tr := ⟨[⟨[47, 97], true, []⟩, ⟨[47, 97, 47, 102], false, [120]⟩], [47, 97]⟩
theorem tellsM : makeG newG [97] = (tT1, 0) := by rfl
theorem tellsW : writeG tT1 [97, 47, 46, 46, 47, 97, 47, 46, 47, 102] [120] false = (tT2, 0) := by rfl
theorem tellsC : cdG tT2 [47, 97] = (tT3, 0) := by rfl
theorem tellsR : readG tT3 [102] = ([120], 0) := by rfl
theorem tT1_wf : WfT tT1 := by have := makeG_wf newG_wf [97]; rw [tellsM] at this; exact this
theorem tT2_wf : WfT tT2 := by have := writeG_wf tT1_wf [97, 47, 46, 46, 47, 97, 47, 46, 47, 102] [120] false; rw [tellsW] at this; exact this
theorem tT3_wf : WfT tT3 := by have := cdG_wf tT2_wf [47, 97]; rw [tellsC] at this; exact this
def TellsS (H : HF) : Prop := ∀ (n : Nat) (m : T FObj), Ret 4000 H [] n m (.b true)
theorem tells_s {O : Oz} (hO : O = zO) (Φ : Phi) (HN : NewS (Phi.fn Φ 26)) (HM : MakeS (Phi.fn Φ 14)) (HW : WriteS (Phi.fn Φ 13)) (HC : CdS (Phi.fn Φ 16)) (HD : ReadS (Phi.fn Φ 20)) (HE : CwdS (Phi.fn Φ 11)) : TellsS (p18 O Φ) := fun n m k P hn hf => by
  repeat' ((conv => lhs; whnf); first | ((with_reducible refine atFn ?_); first | (refine HN _ _ _ _ (by omega) (fun v1 n1 m1 h1 g1 k1 q1 => ?_); obtain ⟨tb, mb, rfl, htm, t1, htb, t3, hmb, hT⟩ := q1; have k1p := Kq.kp k1) | (refine HM (t := newG) (hT.kp kQ htb hmb) (by omega) (by omega) htm newG_wf _ (by decide) _ _ (by omega) (fun v5 n5 m5 h5 g5 k5 q5 => (fun k5l => ?_) (Kq.low (n := n) k5 (by omega) (by simp only [List.mem_cons, List.not_mem_nil, or_false, forall_eq]; omega))); obtain ⟨hv, hT⟩ := q5; rw [tellsM] at hv hT; have htb : tb < n5 := (by omega); have hmb : mb < n5 := (by omega); subst hv) | (refine HW (t := tT1) (hT.kp kQ htb hmb) (by omega) (by omega) htm tT1_wf _ _ _ (by decide) (by decide) _ _ (by omega) (fun v5 n5 m5 h5 g5 k5 q5 => (fun k5l => ?_) (Kq.low (n := n) k5 (by omega) (by simp only [List.mem_cons, List.not_mem_nil, or_false, forall_eq]; omega))); obtain ⟨hv, hT⟩ := q5; rw [tellsW] at hv hT; have htb : tb < n5 := (by omega); have hmb : mb < n5 := (by omega); subst hv) | (refine HC (t := tT2) (hT.kp kQ htb hmb) (by omega) (by omega) tT2_wf _ (by decide) _ _ (by omega) (fun v5 n5 m5 h5 g5 k5 q5 => (fun k5l => ?_) (Kq.low (n := n) k5 (by omega) (by simp only [List.mem_cons, List.not_mem_nil, or_false, forall_eq]; omega))); obtain ⟨hv, hT⟩ := q5; have hT := hT htm; rw [tellsC] at hv hT; have htb : tb < n5 := (by omega); have hmb : mb < n5 := (by omega); subst hv) | (refine HD (t := tT3) (hT.kp kQ htb hmb) (by omega) (by omega) tT3_wf _ (by decide) _ _ (by omega) (fun n5 m5 h5 g5 k5 => ?_); rw [tellsR]) | (refine HE (t := tT3) (hT.kp kQ htb hmb) (by omega) (by omega) _ _ ?_)) | ((with_reducible refine eqT hO (by omega) ?_)) | ((with_reducible refine eqST hO (by first | rfl | assumption) ?_)) | ((with_reducible refine eqSB hO (fun h => ?_) (fun h => ?_))))
  all_goals (conv => lhs; whnf)
  all_goals first
    | exact hf _ _ (by omega) (by omega) kQ
    | (rename_i hx; exact absurd rfl hx)
    | exact absurd rfl h
end Go.Proofs.YtjoakhpdajlhiaaDoor.V2.S
namespace Go.Proofs.YtjoakhpdajlhiaaDoor.V2
open Go Go.Shelf Go.Proofs Go.RowKit
def count241_lay_ren : Go.Shelf.Ren := ⟨fun | 138 => 88 | 195 => 106 | 218 => 108 | 143 => 89 | 219 => 109 | 217 => 119 | 225 => 120 | 224 => 121 | 267 => 122 | 266 => 124 | 314 => 125 | n => n, fun | 9 => 9 | 3 => 3 | 4 => 4 | 5 => 5 | 0 => 0 | 46 => 97 | 146 => 118 | 51 => 117 | n => n, fun | 1 => 0 | n => n⟩
theorem count241_lay : Go.Proofs.Lays.n138 Tryd.prog count241_lay_ren := {
  mixed := by kernel_rfl
  f138 := Tryd.func88.trans (congrArg some (by kernel_rfl))
  f143 := Tryd.func89.trans (congrArg some (by kernel_rfl))
  f195 := Tryd.func106.trans (congrArg some (by kernel_rfl))
  f217 := Tryd.func119.trans (congrArg some (by kernel_rfl))
  f218 := Tryd.func108.trans (congrArg some (by kernel_rfl))
  f219 := Tryd.func109.trans (congrArg some (by kernel_rfl))
  f224 := Tryd.func121.trans (congrArg some (by kernel_rfl))
  f225 := Tryd.func120.trans (congrArg some (by kernel_rfl))
  f266 := Tryd.func124.trans (congrArg some (by kernel_rfl))
  f267 := Tryd.func122.trans (congrArg some (by kernel_rfl))
  f314 := Tryd.func125.trans (congrArg some (by kernel_rfl))
  t0 := Tryd.underlying0
  a0 := Tryd.isAgg0
  z0 := Tryd.sizeOf0
  v0 := Tryd.zeroValue0
  t3 := Tryd.underlying3
  a3 := Tryd.isAgg3
  z3 := Tryd.sizeOf3
  v3 := Tryd.zeroValue3
  t4 := Tryd.underlying4
  a4 := Tryd.isAgg4
  z4 := Tryd.sizeOf4
  v4 := Tryd.zeroValue4
  t5 := Tryd.underlying5
  a5 := Tryd.isAgg5
  z5 := Tryd.sizeOf5
  v5 := Tryd.zeroValue5
  t9 := Tryd.underlying9
  a9 := Tryd.isAgg9
  z9 := Tryd.sizeOf9
  v9 := Tryd.zeroValue9
  t46 := Tryd.underlying97
  a46 := Tryd.isAgg97
  z46 := Tryd.sizeOf97
  v46 := Tryd.zeroValue97
  t51 := Tryd.underlying117
  a51 := Tryd.isAgg117
  z51 := Tryd.sizeOf117
  v51 := Tryd.zeroValue117
  t146 := Tryd.underlying118
  a146 := Tryd.isAgg118
  z146 := Tryd.sizeOf118
  v146 := Tryd.zeroValue118
  g1 := by kernel_rfl }
def index242_lay_ren : Go.Shelf.Ren := ⟨fun | 143 => 89 | 219 => 109 | 217 => 119 | 225 => 120 | 224 => 121 | 267 => 122 | 266 => 124 | 314 => 125 | n => n, fun | 9 => 9 | 3 => 3 | 4 => 4 | 5 => 5 | 46 => 97 | 146 => 118 | 51 => 117 | n => n, fun | 1 => 0 | n => n⟩
theorem index242_lay : Go.Proofs.Lays.n143 Tryd.prog index242_lay_ren := {
  mixed := by kernel_rfl
  f143 := Tryd.func89.trans (congrArg some (by kernel_rfl))
  f217 := Tryd.func119.trans (congrArg some (by kernel_rfl))
  f219 := Tryd.func109.trans (congrArg some (by kernel_rfl))
  f224 := Tryd.func121.trans (congrArg some (by kernel_rfl))
  f225 := Tryd.func120.trans (congrArg some (by kernel_rfl))
  f266 := Tryd.func124.trans (congrArg some (by kernel_rfl))
  f267 := Tryd.func122.trans (congrArg some (by kernel_rfl))
  f314 := Tryd.func125.trans (congrArg some (by kernel_rfl))
  t3 := Tryd.underlying3
  a3 := Tryd.isAgg3
  z3 := Tryd.sizeOf3
  v3 := Tryd.zeroValue3
  t4 := Tryd.underlying4
  a4 := Tryd.isAgg4
  z4 := Tryd.sizeOf4
  v4 := Tryd.zeroValue4
  t5 := Tryd.underlying5
  a5 := Tryd.isAgg5
  z5 := Tryd.sizeOf5
  v5 := Tryd.zeroValue5
  t9 := Tryd.underlying9
  a9 := Tryd.isAgg9
  z9 := Tryd.sizeOf9
  v9 := Tryd.zeroValue9
  t46 := Tryd.underlying97
  a46 := Tryd.isAgg97
  z46 := Tryd.sizeOf97
  v46 := Tryd.zeroValue97
  t51 := Tryd.underlying117
  a51 := Tryd.isAgg117
  z51 := Tryd.sizeOf117
  v51 := Tryd.zeroValue117
  t146 := Tryd.underlying118
  a146 := Tryd.isAgg118
  z146 := Tryd.sizeOf118
  v146 := Tryd.zeroValue118
  g1 := by kernel_rfl }
def ixS : List UInt8 → UInt8 → Nat → Int
  | [], _, _ => -1
  | b :: l, c, i => bif b == c then (i : Int) else ixS l c (i + 1)
theorem ixS_eq : ∀ (l : List UInt8) (c : UInt8) (i : Nat), ixS l c i = if Lib.indexByte l c = -1 then -1 else i + Lib.indexByte l c
  | [], _, _ => rfl
  | b :: l, c, i => by
    have ih := ixS_eq l c (i + 1)
    have hge := Lib.indexByte_ge l c
    unfold ixS Lib.indexByte
    cases hb : b == c
    · rw [cond_false, ih]
      simp only [Bool.false_eq_true, if_false, beq_iff_eq]
      by_cases h : Lib.indexByte l c = -1
      · simp [h]
      · simp only [h, if_false]
        rw [if_neg (by omega)]
        omega
    · simp
theorem ixS_zero (l : List UInt8) (c : UInt8) : ixS l c 0 = Lib.indexByte l c := by
  rw [ixS_eq]
  by_cases h : Lib.indexByte l c = -1
  · simp [h]
  · simp [h]
theorem count241 (s : List UInt8) (c : UInt8) (w : World) : Calls Tryd.prog 88 #[.string ⟨s.toArray⟩, .string ⟨#[c]⟩] w fun e w' => e = .returned (.int .i64 (s.count c)) ∧ w' = w :=
  Any.strings_Count_one count241_lay ⟨s.toArray⟩ c w
theorem index242 (s : List UInt8) (c : UInt8) (w : World) : Calls Tryd.prog 89 #[.string ⟨s.toArray⟩, .string ⟨#[c]⟩] w fun e w' => e = .returned (.int .i64 (ixS s c 0)) ∧ w' = w := by
  rw [ixS_zero]
  exact Any.strings_Index_one index242_lay ⟨s.toArray⟩ c w
def ctA (args : List AV) (σ : AH) : Out := match args with
  | [.str s, .str [c]] => (true, .int .i64 (s.count c), σ)
  | _ => bad σ
def ixA (args : List AV) (σ : AH) : Out := match args with
  | [.str s, .str [c]] => (true, .int .i64 (ixS s c 0), σ)
  | _ => bad σ
noncomputable def ciF (g : FuncId → List AV → AH → Out) (f : FuncId) (args : List AV) (σ : AH) : Out := bif Nat.beq f 88 then ctA args σ else bif Nat.beq f 89 then ixA args σ else g f args σ
theorem ciF_ok {Y : List Yl} {g : FuncId → List AV → AH → Out} (hg : FnOk Tryd.prog 3 g Y) : FnOk Tryd.prog 3 (ciF g) Y := by
  intro f args σ h
  unfold ciF at h ⊢
  cases hf : Nat.beq f 88
  case true =>
    rw [hf] at h
    simp only [cond_true] at h ⊢
    have e := Nat.eq_of_beq_eq_true hf
    subst e
    refine ⟨⟨_, Tryd.func88, by kernel_rfl, by kernel_rfl⟩, fun ρ W vs _ hG hr hvs => ?_⟩
    unfold ctA at h ⊢
    split at h
    case h_2 => cases h
    rename_i s c
    obtain ⟨v, mm, rfl, hv, u, mmm, rfl, hu, hmm⟩ := hvs
    have hmm : mmm = [] := hmm
    subst hmm
    unfold VR at hv hu
    subst hu hv
    refine (count241 s c W).mono ?_
    rintro e W' ⟨rfl, hw⟩
    subst hw
    exact ⟨_, ρ, rfl, hr, .refl (Nat.le_refl _), by unfold VR; rfl⟩
  case false =>
    rw [hf] at h
    rw [cond_false] at h ⊢
    cases hf2 : Nat.beq f 89
    case false => rw [hf2] at h; rw [cond_false] at h ⊢; exact hg f args σ h
    rw [hf2] at h
    simp only [cond_true] at h ⊢
    have e := Nat.eq_of_beq_eq_true hf2
    subst e
    refine ⟨⟨_, Tryd.func89, by kernel_rfl, by kernel_rfl⟩, fun ρ W vs _ hG hr hvs => ?_⟩
    unfold ixA at h ⊢
    split at h
    case h_2 => cases h
    rename_i s c
    obtain ⟨v, mm, rfl, hv, u, mmm, rfl, hu, hmm⟩ := hvs
    have hmm : mmm = [] := hmm
    subst hmm
    unfold VR at hv hu
    subst hu hv
    refine (index242 s c W).mono ?_
    rintro e W' ⟨rfl, hw⟩
    subst hw
    exact ⟨_, ρ, rfl, hr, .refl (Nat.le_refl _), by unfold VR; rfl⟩
noncomputable section
def k1S (l : List UInt8) (f : UInt8 → FR) : FR := List.rec (motive := fun _ => FR) .bad (fun c m _ => List.rec (motive := fun _ => FR) (f c) (fun _ _ _ => .bad) m) l
theorem k1S_cases {l : List UInt8} {f : UInt8 → FR} (h : k1S l f ≠ .bad) : ∃ c, l = [c] ∧ k1S l f = f c := by
  cases l with
  | nil => exact absurd rfl h
  | cons c m =>
    cases m with
    | nil => exact ⟨c, rfl, rfl⟩
    | cons _ _ => exact absurd rfl h
def ctQ (l : List FV) (σ : FH) (k : KV) : FR := k2L l fun x y => kS (fun s => kS (fun c => k1S (unp c) fun c => fN ((unp s).count c) fun m => k (.n .i64 m) σ) y) x
def ixQ (l : List FV) (σ : FH) (k : KV) : FR := k2L l fun x y => kS (fun s => kS (fun c => k1S (unp c) fun c => vI .i64 (ixS (unp s) c 0) fun v => k v σ) y) x
theorem ctQ_sm (l : List FV) (σ : FH) (k : KV) : Sm (ctQ l σ k) k (ctA (αL l) (αH σ)) := by
  intro h
  unfold ctQ at h ⊢
  obtain ⟨x, y, rfl, h1⟩ := k2L_cases h
  rw [h1] at h ⊢
  obtain ⟨s, rfl, h2⟩ := kS_cases h
  rw [h2] at h ⊢
  obtain ⟨c, rfl, h3⟩ := kS_cases h
  rw [h3] at h ⊢
  obtain ⟨u, h4, h5⟩ := k1S_cases h
  rw [h5] at h ⊢
  rw [fN_eq]
  refine ⟨_, σ, ?_, rfl⟩
  simp only [αL, αV, ctA, h4]
  rfl
theorem ixQ_sm (l : List FV) (σ : FH) (k : KV) : Sm (ixQ l σ k) k (ixA (αL l) (αH σ)) := by
  intro h
  unfold ixQ at h ⊢
  obtain ⟨x, y, rfl, h1⟩ := k2L_cases h
  rw [h1] at h ⊢
  obtain ⟨s, rfl, h2⟩ := kS_cases h
  rw [h2] at h ⊢
  obtain ⟨c, rfl, h3⟩ := kS_cases h
  rw [h3] at h ⊢
  obtain ⟨u, h4, h5⟩ := k1S_cases h
  rw [h5] at h ⊢
  obtain ⟨v, h6, h7⟩ := vI_of .i64 (ixS (unp s) u 0) fun v => k v σ
  refine ⟨v, σ, ?_, h7⟩
  simp only [αL, αV, ixA, h4, h6]
end
end Go.Proofs.YtjoakhpdajlhiaaDoor.V2
namespace Go.Proofs.YtjoakhpdajlhiaaDoor.V2
open Go Go.Shelf Go.Proofs Go.RowKit
theorem HR.below {ρ : Ren} {σ : AH} {W W' : World} (h : HR ρ σ W) (hb : Below W.heap.size W W') : HR ρ σ W' :=
  ⟨h.small, h.none_, fun b c d hρ => by
    obtain ⟨h1, h2, o, h3, h4⟩ := h.dom b c d hρ
    refine ⟨h1, Nat.lt_of_lt_of_le h2 hb.size, o, h3, ?_⟩
    rw [hb.block c h2]; exact h4, h.inj⟩
theorem Stp.below {N : Nat} {ρ : Ren} {σ : AH} {W W' : World} (hN : N ≤ σ.next) (hb : Below W.heap.size W W') : Stp N ρ σ W ρ σ W' :=
  ⟨fun _ _ => rfl, fun b _c d h => .inl ⟨b, d, h⟩, hN, fun _ _ _ _ h _ => h, fun c hc _ => hb.block c hc, hb.tape, hb.os, hb.output, hb.size, fun _ c _ _ _ _ hc h _ => ⟨h, hb.block c hc⟩⟩
noncomputable section
end
end Go.Proofs.YtjoakhpdajlhiaaDoor.V2
namespace Go.Proofs.YtjoakhpdajlhiaaDoor.V2.S
open Go
set_option maxRecDepth 100000
set_option maxHeartbeats 4000000
set_option linter.unusedVariables false
attribute [local irreducible] fN fO nM gM pM Phi.fn mp bl bpart bapp top1 pack
theorem ct_s : CntS ctQ := fun l σ k => by
  show k1S (unp (pack [47])) (fun c => fN ((unp (pack l)).count c) fun m => k (.n .i64 m) σ) = _
  rw [unp_pack, unp_pack]
  show (fN (l.count 47) fun m => k (.n .i64 m) σ) = _
  rw [fN_eq]; rfl
theorem ixS_first : ∀ (l : Bs) (i : Nat), ixS l 47 i = if 0 < countS l then ((i + firstS l : Nat) : Int) else -1
  | [], i => rfl
  | c :: l, i => by
    rw [ixS]
    by_cases h : c = 47
    · subst h
      have : 0 < countS (47 :: l) := by unfold countS; simp
      rw [if_pos this]; rfl
    · have e1 : countS (c :: l) = countS l := by unfold countS; rw [List.count_cons_of_ne h]
      have e2 : firstS (c :: l) = firstS l + 1 := by rw [firstS, if_neg h]
      rw [e1, e2, ixS_first l (i + 1), show (c == 47) = false from beq_eq_false_iff_ne.2 h, cond_false]
      by_cases hp : 0 < countS l
      · rw [if_pos hp, if_pos hp]; congr 1; omega
      · rw [if_neg hp, if_neg hp]
theorem ix_s : IxS ixQ := fun l σ k => by
  show k1S (unp (pack [47])) (fun c => vI .i64 (ixS (unp (pack l)) c 0) fun v => k v σ) = _
  rw [unp_pack, unp_pack]
  show (vI .i64 (ixS l 47 0) fun v => k v σ) = _
  rw [ixS_first]
  by_cases hp : 0 < countS l
  · rw [if_pos hp, if_pos hp, Nat.zero_add]
    show (fN (firstS l) fun m => k (.n .i64 m) σ) = _
    rw [fN_eq]
  · rw [if_neg hp, if_neg hp]
    show (fN 0 fun m => k (.z .i64 m) σ) = _
    rw [fN_eq]
end Go.Proofs.YtjoakhpdajlhiaaDoor.V2.S
namespace Go.Proofs.YtjoakhpdajlhiaaDoor.V2.S
open Go
set_option maxRecDepth 100000
set_option maxHeartbeats 4000000
set_option linter.unusedVariables false
attribute [local irreducible] fN fO nM gM pM Phi.fn mp bl bpart bapp top1 pack
theorem lastS_zero {l : Bs} (h : lastS l = 0) : ∀ i, i < l.length → l[i]? ≠ some 47 := by
  induction l with
  | nil => intro i hi; simp at hi
  | cons c l ih =>
    rw [lastS] at h
    by_cases h0 : lastS l = 0
    · rw [if_pos h0] at h
      have hc : c ≠ 47 := fun hc => by rw [if_pos hc] at h; cases h
      intro i hi
      cases i with
      | zero => simpa using hc
      | succ i => simpa using ih h0 i (by simpa using hi)
    · rw [if_neg h0] at h; omega
theorem lastS_pos {l : Bs} (h : lastS l ≠ 0) : l[lastS l - 1]? = some 47 ∧ ∀ i, lastS l ≤ i → l[i]? ≠ some 47 := by
  induction l with
  | nil => exact absurd rfl h
  | cons c l ih =>
    rw [lastS] at h ⊢
    by_cases h0 : lastS l = 0
    · rw [if_pos h0] at h ⊢
      by_cases hc : c = 47
      · rw [if_pos hc]
        refine ⟨by simp [hc], fun i hi => ?_⟩
        obtain ⟨j, rfl⟩ : ∃ j, i = j + 1 := ⟨i - 1, by omega⟩
        rw [List.getElem?_cons_succ]
        rcases Nat.lt_or_ge j l.length with hj | hj
        · exact lastS_zero h0 j hj
        · rw [List.getElem?_eq_none hj]; simp
      · rw [if_neg hc] at h; exact absurd rfl h
    · rw [if_neg h0]
      obtain ⟨h1, h2⟩ := ih h0
      refine ⟨?_, fun i hi => ?_⟩
      · obtain ⟨j, hj⟩ : ∃ j, lastS l = j + 1 := ⟨lastS l - 1, by omega⟩
        rw [hj, Nat.add_sub_cancel] at h1
        rw [hj, Nat.add_sub_cancel, List.getElem?_cons_succ]; exact h1
      · obtain ⟨j, rfl⟩ : ∃ j, i = j + 1 := ⟨i - 1, by omega⟩
        rw [List.getElem?_cons_succ]; exact h2 j (by omega)
theorem occ1 (s : Bs) (i : Nat) : Lib.occAt s [47] i = true ↔ s[i]? = some 47 := by
  unfold Lib.occAt
  rw [show s[i]? = (s.drop i)[0]? by simp]
  cases s.drop i with
  | nil => simp [List.isPrefixOf]
  | cons c l =>
    simp [List.isPrefixOf]
    exact eq_comm
theorem last_eq (p : Bs) : Lib.lastIndex p [47] = (lastS p : Int) - 1 := by
  unfold Lib.lastIndex
  have hle := lastS_le p
  split
  · rename_i hl
    have hl : 1 ≤ p.length := hl
    rcases Lib.lastOcc_spec p [47] (p.length - [(47 : UInt8)].length + 1) with ⟨h, h2⟩ | ⟨i, h1, h, h2, h3⟩
    · rw [h]
      by_cases h0 : lastS p = 0
      · rw [h0]; rfl
      · have := (lastS_pos h0).1
        have h4 := h2 (lastS p - 1) (by show lastS p - 1 < p.length - 1 + 1; omega)
        rw [(occ1 _ _).2 this] at h4; cases h4
    · rw [h]
      have h2 := (occ1 _ _).1 h2
      have h1 : i < p.length - 1 + 1 := h1
      by_cases h0 : lastS p = 0
      · exact absurd h2 (lastS_zero h0 i (by omega))
      · obtain ⟨h5, h6⟩ := lastS_pos h0
        have h7 : i < lastS p := Nat.lt_of_not_le fun hh => h6 i hh h2
        have h8 : ¬ i < lastS p - 1 := fun hh => by
          have := h3 (lastS p - 1) hh (by show lastS p - 1 < p.length - 1 + 1; omega)
          rw [(occ1 _ _).2 h5] at this; cases this
        omega
  · rename_i hl
    have : p = [] := by
      cases p with
      | nil => rfl
      | cons c l => exact absurd (by show 1 ≤ l.length + 1; omega) hl
    subst this; rfl
theorem par_eq (p : Bs) : p.take (max (Lib.lastIndex p [47]) 1).toNat = parG p := by
  unfold parG
  rw [last_eq]; congr 1; omega
theorem trim_eq (d : Bs) : Lib.trimSuffix d [47] = trimG d := by
  unfold Lib.trimSuffix trimG
  have : Lib.hasSuffix d [47] = hasSuf d [47] := by
    unfold Lib.hasSuffix hasSuf
    rw [Bool.eq_iff_iff, List.isSuffixOf_iff_suffix, List.suffix_iff_eq_drop, Bool.and_eq_true, decide_eq_true_iff, decide_eq_true_iff]
    constructor
    · intro h
      refine ⟨?_, h.symm⟩
      have := congrArg List.length h
      rw [List.length_drop] at this
      have this : 1 = d.length - (d.length - 1) := this
      show 1 ≤ d.length
      omega
    · rintro ⟨_, h⟩; exact h.symm
  rw [this]; rfl
theorem join_eq (d n : Bs) : Lib.trimSuffix d [47] ++ [47] ++ n = joinG d n := by rw [trim_eq]; rfl
end Go.Proofs.YtjoakhpdajlhiaaDoor.V2.S
namespace Go.Proofs.YtjoakhpdajlhiaaDoor.V2
open Go.Shelf Go.Proofs
def sorted185_lay_ren : Go.Shelf.Ren := ⟨fun | 6 => 29 | 8 => 63 | 9 => 64 | 11 => 84 | 13 => 86 | 12 => 85 | 23 => 104 | 24 => 105 | 14 => 95 | 15 => 96 | 16 => 97 | 17 => 98 | 18 => 99 | 19 => 100 | 20 => 101 | 21 => 102 | 22 => 103 | 25 => 112 | 26 => 113 | 27 => 114 | 28 => 115 | 29 => 116 | 30 => 117 | 31 => 123 | n => n, fun | 26 => 9 | 28 => 62 | 24 => 56 | 0 => 0 | 3 => 3 | 37 => 97 | 48 => 117 | 50 => 120 | 4 => 4 | 40 => 133 | 39 => 132 | 45 => 137 | 5 => 5 | 9 => 9 | 51 => 144 | 55 => 148 | 57 => 151 | 58 => 87 | 33 => 71 | n => n, fun | n => n⟩
theorem sorted185_lay : Go.Proofs.SlLaysZ.n6 Tryd.prog sorted185_lay_ren := {
  mixed := by kernel_rfl
  f6 := ⟨Tryd.f29.name, by decide, Tryd.func29.trans (congrArg some (by kernel_rfl))⟩
  f8 := ⟨Tryd.f63.name, by decide, Tryd.func63.trans (congrArg some (by kernel_rfl))⟩
  f11 := ⟨Tryd.f84.name, by decide, Tryd.func84.trans (congrArg some (by kernel_rfl))⟩
  t0 := Tryd.underlying0
  a0 := Tryd.isAgg0
  z0 := Tryd.sizeOf0
  v0 := Tryd.zeroValue0
  t24 := Tryd.underlying56
  a24 := Tryd.isAgg56
  z24 := Tryd.sizeOf56
  v24 := Tryd.zeroValue56
  t26 := Tryd.underlying9
  a26 := Tryd.isAgg9
  z26 := Tryd.sizeOf9
  v26 := Tryd.zeroValue9
  t28 := Tryd.underlying62
  a28 := Tryd.isAgg62
  z28 := Tryd.sizeOf62
  v28 := Tryd.zeroValue62
  i26 := by kernel_rfl }
def sort184_lay_ren : Go.Shelf.Ren := ⟨fun | 6 => 64 | 8 => 86 | 9 => 85 | 19 => 104 | 20 => 105 | 21 => 95 | 22 => 96 | 23 => 97 | 24 => 98 | 25 => 99 | 26 => 100 | 27 => 101 | 28 => 102 | 29 => 103 | 36 => 112 | 31 => 113 | 32 => 114 | 37 => 115 | 38 => 116 | 39 => 117 | 41 => 123 | n => n, fun | 27 => 56 | 29 => 9 | 3 => 3 | 32 => 97 | 26 => 56 | 0 => 0 | 44 => 117 | 46 => 120 | 4 => 4 | 36 => 133 | 35 => 132 | 41 => 137 | 5 => 5 | 9 => 9 | 53 => 144 | 57 => 148 | 63 => 151 | 64 => 87 | n => n, fun | n => n⟩
theorem sort184_lay : Go.Proofs.SlLaysM.n6 Tryd.prog sort184_lay_ren := {
  mixed := by kernel_rfl
  f6 := ⟨Tryd.f64.name, by decide, Tryd.func64.trans (congrArg some (by kernel_rfl))⟩
  f8 := Tryd.func86.trans (congrArg some (by kernel_rfl))
  f9 := ⟨Tryd.f85.name, by decide, Tryd.func85.trans (congrArg some (by kernel_rfl))⟩
  f19 := Tryd.func104.trans (congrArg some (by kernel_rfl))
  f20 := Tryd.func105.trans (congrArg some (by kernel_rfl))
  f21 := ⟨Tryd.f95.name, by decide, Tryd.func95.trans (congrArg some (by kernel_rfl))⟩
  f22 := ⟨Tryd.f96.name, by decide, Tryd.func96.trans (congrArg some (by kernel_rfl))⟩
  f23 := ⟨Tryd.f97.name, by decide, Tryd.func97.trans (congrArg some (by kernel_rfl))⟩
  f24 := ⟨Tryd.f98.name, by decide, Tryd.func98.trans (congrArg some (by kernel_rfl))⟩
  f25 := ⟨Tryd.f99.name, by decide, Tryd.func99.trans (congrArg some (by kernel_rfl))⟩
  f26 := ⟨Tryd.f100.name, by decide, Tryd.func100.trans (congrArg some (by kernel_rfl))⟩
  f27 := ⟨Tryd.f101.name, by decide, Tryd.func101.trans (congrArg some (by kernel_rfl))⟩
  f28 := ⟨Tryd.f102.name, by decide, Tryd.func102.trans (congrArg some (by kernel_rfl))⟩
  f29 := ⟨Tryd.f103.name, by decide, Tryd.func103.trans (congrArg some (by kernel_rfl))⟩
  f31 := Tryd.func113.trans (congrArg some (by kernel_rfl))
  f32 := Tryd.func114.trans (congrArg some (by kernel_rfl))
  f36 := ⟨Tryd.f112.name, by decide, Tryd.func112.trans (congrArg some (by kernel_rfl))⟩
  f37 := ⟨Tryd.f115.name, by decide, Tryd.func115.trans (congrArg some (by kernel_rfl))⟩
  f38 := ⟨Tryd.f116.name, by decide, Tryd.func116.trans (congrArg some (by kernel_rfl))⟩
  f39 := ⟨Tryd.f117.name, by decide, Tryd.func117.trans (congrArg some (by kernel_rfl))⟩
  f41 := ⟨Tryd.f123.name, by decide, Tryd.func123.trans (congrArg some (by kernel_rfl))⟩
  t0 := Tryd.underlying0
  a0 := Tryd.isAgg0
  z0 := Tryd.sizeOf0
  v0 := Tryd.zeroValue0
  t3 := Tryd.underlying3
  a3 := Tryd.isAgg3
  z3 := Tryd.sizeOf3
  v3 := Tryd.zeroValue3
  t4 := Tryd.underlying4
  a4 := Tryd.isAgg4
  z4 := Tryd.sizeOf4
  v4 := Tryd.zeroValue4
  t5 := Tryd.underlying5
  a5 := Tryd.isAgg5
  z5 := Tryd.sizeOf5
  v5 := Tryd.zeroValue5
  t9 := Tryd.underlying9
  a9 := Tryd.isAgg9
  z9 := Tryd.sizeOf9
  v9 := Tryd.zeroValue9
  t26 := Tryd.underlying56
  a26 := Tryd.isAgg56
  z26 := Tryd.sizeOf56
  v26 := Tryd.zeroValue56
  t27 := Tryd.underlying56
  a27 := Tryd.isAgg56
  z27 := Tryd.sizeOf56
  v27 := Tryd.zeroValue56
  t29 := Tryd.underlying9
  a29 := Tryd.isAgg9
  z29 := Tryd.sizeOf9
  v29 := Tryd.zeroValue9
  t32 := Tryd.underlying97
  a32 := Tryd.isAgg97
  z32 := Tryd.sizeOf97
  v32 := Tryd.zeroValue97
  t35 := Tryd.underlying132
  a35 := Tryd.isAgg132
  z35 := Tryd.sizeOf132
  v35 := Tryd.zeroValue132
  t36 := Tryd.underlying133
  a36 := Tryd.isAgg133
  z36 := Tryd.sizeOf133
  v36 := Tryd.zeroValue133
  t41 := Tryd.underlying137
  a41 := Tryd.isAgg137
  z41 := Tryd.sizeOf137
  v41 := Tryd.zeroValue137
  t44 := Tryd.underlying117
  a44 := Tryd.isAgg117
  z44 := Tryd.sizeOf117
  v44 := Tryd.zeroValue117
  t46 := Tryd.underlying120
  a46 := Tryd.isAgg120
  z46 := Tryd.sizeOf120
  v46 := Tryd.zeroValue120
  t53 := Tryd.underlying144
  a53 := Tryd.isAgg144
  z53 := Tryd.sizeOf144
  v53 := Tryd.zeroValue144
  t57 := Tryd.underlying148
  a57 := Tryd.isAgg148
  z57 := Tryd.sizeOf148
  v57 := Tryd.zeroValue148
  t63 := Tryd.underlying151
  a63 := Tryd.isAgg151
  z63 := Tryd.sizeOf151
  v63 := Tryd.zeroValue151
  t64 := Tryd.underlying87
  a64 := Tryd.isAgg87
  z64 := Tryd.sizeOf87
  v64 := Tryd.zeroValue87 }
def last284_lay_ren : Go.Shelf.Ren := ⟨fun | 148 => 70 | 222 => 77 | 223 => 91 | 269 => 110 | n => n, fun | 9 => 9 | 3 => 3 | 4 => 4 | 5 => 5 | 146 => 118 | 51 => 117 | 46 => 97 | n => n, fun | n => n⟩
theorem last284_lay : Go.Proofs.Lays.n148 Tryd.prog last284_lay_ren := {
  mixed := by kernel_rfl
  f148 := Tryd.func70.trans (congrArg some (by kernel_rfl))
  f222 := Tryd.func77.trans (congrArg some (by kernel_rfl))
  f223 := Tryd.func91.trans (congrArg some (by kernel_rfl))
  f269 := Tryd.func110.trans (congrArg some (by kernel_rfl))
  t3 := Tryd.underlying3
  a3 := Tryd.isAgg3
  z3 := Tryd.sizeOf3
  v3 := Tryd.zeroValue3
  t4 := Tryd.underlying4
  a4 := Tryd.isAgg4
  z4 := Tryd.sizeOf4
  v4 := Tryd.zeroValue4
  t5 := Tryd.underlying5
  a5 := Tryd.isAgg5
  z5 := Tryd.sizeOf5
  v5 := Tryd.zeroValue5
  t9 := Tryd.underlying9
  a9 := Tryd.isAgg9
  z9 := Tryd.sizeOf9
  v9 := Tryd.zeroValue9
  t46 := Tryd.underlying97
  a46 := Tryd.isAgg97
  z46 := Tryd.sizeOf97
  v46 := Tryd.zeroValue97
  t51 := Tryd.underlying117
  a51 := Tryd.isAgg117
  z51 := Tryd.sizeOf117
  v51 := Tryd.zeroValue117
  t146 := Tryd.underlying118
  a146 := Tryd.isAgg118
  z146 := Tryd.sizeOf118
  v146 := Tryd.zeroValue118 }
def trim160_lay_ren : Go.Shelf.Ren := ⟨fun | 102 => 71 | 209 => 92 | 207 => 111 | n => n, fun | 9 => 9 | 4 => 4 | 3 => 3 | n => n, fun | n => n⟩
theorem trim160_lay : Go.Proofs.Lays.n102 Tryd.prog trim160_lay_ren := {
  mixed := by kernel_rfl
  f102 := Tryd.func71.trans (congrArg some (by kernel_rfl))
  f207 := Tryd.func111.trans (congrArg some (by kernel_rfl))
  f209 := Tryd.func92.trans (congrArg some (by kernel_rfl))
  t3 := Tryd.underlying3
  a3 := Tryd.isAgg3
  z3 := Tryd.sizeOf3
  v3 := Tryd.zeroValue3
  t4 := Tryd.underlying4
  a4 := Tryd.isAgg4
  z4 := Tryd.sizeOf4
  v4 := Tryd.zeroValue4
  t9 := Tryd.underlying9
  a9 := Tryd.isAgg9
  z9 := Tryd.sizeOf9
  v9 := Tryd.zeroValue9 }
end Go.Proofs.YtjoakhpdajlhiaaDoor.V2
namespace Go.Proofs.YtjoakhpdajlhiaaDoor.V2
open Go Go.RowKit Go.Maps Go.Sort Go.Shelf
theorem law9 : Keyed Tryd.prog 9 := string_keyed Tryd.underlying9
theorem sorts185 (m : Nat) : AnyZ.SortsIn Tryd.prog sorted185_lay_ren Fence.wide m :=
  ⟨fun blk off cap ss W hH hblk hsz => callsIn_wide.2 (AnyM.slices_Sort_string sort184_lay blk off cap ss W hH hblk hsz),
   fun p cap W => callsIn_wide.2 (AnyM.slices_Sort_string_none sort184_lay p cap W)⟩
set_option maxRecDepth 100000 in
set_option maxHeartbeats 1000000 in
theorem keys250 {H : Type} (n : Nat) (hn : 1 ≤ n) (l Bm o b nn : Nat) (D0 : DataW H) {R : Value → Option (DataW H × List MemPlace)} (J : List (List UInt8) → World → Prop)
    (hY : ∀ pre x W, J pre W → pre.length < Maps.size D0 → YieldAt Fence.wide (n - 1) Tryd.prog l #[encStr x] W fun e W' => e = .returned (.bool true) ∧ J (pre ++ [x]) W' ∧ KeepsWalks W W')
    (W : World) (hJ : AbidesFrom W.heap.size J) (hm : W.cell? ⟨Bm, o, none⟩ = some (.map (some b))) (hown : W.ownsMap Tryd.prog 9 R b nn D0) (h0 : J [] W) :
    CallsIn Fence.wide n Tryd.prog 65 #[.func (.yield l) #[] #[], .pointer (some ⟨Bm, o, none⟩)] W fun e W' => (∃ v, e = .returned v) ∧ ∃ ss : List (List UInt8), ss.Perm (strKeys D0) ∧ J ss W' := by
  refine callsIn_of_wp Tryd.func65 rfl trivial ?_ rfl
  simp only [Tryd.ntmps65, List.size_toArray, List.length_cons, List.length_nil, Nat.reduceAdd, Nat.reduceSub, Array.replicate_succ, Array.replicate_zero, List.push_toArray, List.append_toArray, List.nil_append, List.cons_append]
  gi_wp2_with (first
    | (gi_at_range; refine wpListIn_range_own _ rfl _ 29 rfl 9 32 law9 Tryd.underlying29 _ b nn _ rfl hown ?_; intro w0 hrg0 hg0 hs0)
    | gi_in)
  go_frame
  gi_loopw [3] (fun _ wr => ∃ (left : Lit → Bool) (cnt : Nat) (ss : List (List UInt8)), wr.ranges Tryd.prog 9 R b W.heap.size nn D0 left cnt ∧ ss.length + cnt ≤ Maps.size D0 ∧ Collected D0 left ss ∧ J ss wr)
    (fun _ wr => wr.rangeLeft b W.heap.size)
  case atStart =>
    exact ⟨_, _, [], hrg0, by simp, Collected.start D0, hJ [] W w0 none h0 hg0 (fun r e => by cases e)⟩
  case round =>
    obtain ⟨left, cnt, ss, hrg, hcs, hC, hJs⟩ := hrel
    gi_wp2_with (first
      | (gi_at_next; refine wpListIn_next_ranges _ rfl _ rfl 9 law9 R encStr id (fun key kl hk => by obtain ⟨x, hx, _⟩ := Maps.keyOf_str Tryd.underlying9 hk; exact ⟨x, hx⟩) (fun v _ _ => ⟨v, rfl⟩) b W.heap.size nn _ _ _ rfl hrg ?_ ?_)
      | gi_in)
    · intro hc0 hl0
      gi_wp2
      go_end0
      exact ⟨⟨_, rfl⟩, ss, hC.perm hown law9 Tryd.underlying9 hl0, hJs⟩
    · intro x c kl yd yp w2 cnt2 hkey hlk hv hat hrg2 hlt hg2 hs2 hen
      obtain ⟨x', ex, rfl, _⟩ := Maps.keyOf_str Tryd.underlying9 hkey
      obtain rfl : x = x' := encStr_inj ex
      have hJ2 : J ss w2 := hJ ss wr w2 (some W.heap.size) hJs hg2 (fun r e => by cases e; exact ⟨Nat.le_refl _, hrg.iter_walk⟩)
      obtain ⟨fn, tmps, assign, body, hy, hR⟩ := hY ss x w2 hJ2 (by omega)
      clear hs2
      gi_wp2
      refine hR.mono ?_
      rintro e W3 ⟨rfl, hJ3, hk3⟩
      gi_wp2
      have hrg3 := hrg2.of_walks hk3
      go_roundw
      case rel => exact ⟨_, cnt2, ss ++ [x], hrg3, by simp; omega, hC.step hlk hat, hJ3⟩
      case measure => rw [hrg3.left_eq, hrg.left_eq]; exact hlt
theorem gives250 {H : Type} (n : Nat) (hn : 1 ≤ n) (Bm o b nn : Nat) (D0 : DataW H) {R : Value → Option (DataW H × List MemPlace)} (w : World) (hBm : Bm < w.heap.size)
    (hm : w.cell? ⟨Bm, o, none⟩ = some (.map (some b))) (hown : w.ownsMap Tryd.prog 9 R b nn D0) :
    SeqGives Fence.wide n Tryd.prog 65 #[.pointer (some ⟨Bm, o, none⟩)] encStr (fun ss => ss.Perm (strKeys D0)) (Maps.size D0) w := fun l J W hW hJ hY h0 => by
  have hown' : W.ownsMap Tryd.prog 9 R b nn D0 := by
    have hbl := hown.lt
    obtain ⟨es, clock, hb, Ft, hs, hD⟩ := hown
    exact ⟨es, clock, (hW.block b hbl).trans hb, Ft, hs, hD⟩
  exact keys250 n hn l Bm o b nn D0 J hY W hJ ((hW.cell (p := ⟨Bm, o, none⟩) hBm).trans hm) hown' h0
theorem sorted250 {H : Type} (Bm o b nn : Nat) (D0 : DataW H) {R : Value → Option (DataW H × List MemPlace)} (w : World) (hBm : Bm < w.heap.size) (hm : w.cell? ⟨Bm, o, none⟩ = some (.map (some b)))
    (hown : w.ownsMap Tryd.prog 9 R b nn D0) (hmax : Maps.size D0 ≤ maxLen) (hbytes : Maps.size D0 * 16 ≤ 140737488355328) :
    Calls Tryd.prog 29 #[.func (.func 65) #[] #[.pointer (some ⟨Bm, o, none⟩)]] w fun e w' => ∃ (v : Value) (ss : List (List UInt8)), e = .returned v ∧ ss.Perm (strKeys D0) ∧
      w'.ownsRow w.heap.size 9 1 v ss.length ((ss.mergeSort (fun x y => decide (x ≤ y))).map encStr) ∧ (v = .slice none 0 0 ↔ ss = []) ∧ Below w.heap.size w w' :=
  (callsIn_wide (n := 5)).1 (AnyZ.sorted_in sorted185_lay Fence.wide 5 trivial trivial trivial trivial rfl (by omega) (sorts185 _) (enters_of Tryd.func64 (by kernel_rfl) rfl) 65 #[.pointer (some ⟨Bm, o, none⟩)] trivial (enters_of Tryd.func65 (by kernel_rfl) rfl) _ _ hmax hbytes _ (gives250 _ (by omega) Bm o b nn D0 w hBm hm hown))
end Go.Proofs.YtjoakhpdajlhiaaDoor.V2
namespace Go.Proofs.YtjoakhpdajlhiaaDoor.V2
open Go Go.RowKit Go.Maps Go.Sort Go.Shelf
def parB (p : List UInt8) : List UInt8 := p.take (max (Lib.lastIndex p [47]) 1).toNat
def joinB (d n : List UInt8) : List UInt8 := Lib.trimSuffix d [47] ++ [47] ++ n
theorem last_le (p s : List UInt8) : Lib.lastIndex p s ≤ p.length := by
  unfold Lib.lastIndex
  split
  · rcases Lib.lastOcc_spec p s (p.length - s.length + 1) with ⟨h, _⟩ | ⟨i, h1, h, _⟩
    · rw [h]; omega
    · rw [h]; omega
  · omega
theorem join_str (a b c : List UInt8) : ({ data := a.toArray } ++ { data := b.toArray } ++ { data := c.toArray } : ByteArray) = { data := (a ++ b ++ c).toArray } := by
  apply ByteArray.ext
  simp [ByteArray.data_append]
theorem cut_str (p : List UInt8) (n : Nat) : (({ data := p.toArray } : ByteArray).extract 0 n) = { data := (p.take n).toArray } := by
  apply ByteArray.ext
  rw [ByteArray.data_extract]
  simp
set_option maxRecDepth 100000 in
set_option maxHeartbeats 1000000 in
theorem parent91 (p : List UInt8) (w : World) (h0 : p ≠ []) (hs : p.length < 4611686018427387904) : Calls Tryd.prog 37 #[encStr p] w fun e w' => e = .returned (encStr (parB p)) ∧ w' = w := by
  have hL := Any.strings_LastIndex last284_lay ⟨p.toArray⟩ ⟨#[47]⟩ (by show p.toArray.size < _; simpa using hs) w
  change Calls Tryd.prog 70 _ _ _ at hL
  have hb : 0 ≤ max (Lib.lastIndex p [47]) 1 ∧ max (Lib.lastIndex p [47]) 1 ≤ (p.length : Int) := by
    have h1 := last_le p [47]
    have h2 := List.length_pos_iff.2 h0
    omega
  unfold encStr
  go_enter Tryd.func37, Tryd.ntmps37
  go_wp2_with (go_at_call 70; refine hL.mono ?_; rintro e w' ⟨rfl, rfl⟩)
  all_goals first
    | (exact absurd hb (by assumption))
    | (go_ret; exact ⟨by rw [cut_str]; rfl, rfl⟩)
set_option maxRecDepth 100000 in
set_option maxHeartbeats 1000000 in
theorem join92 (d n : List UInt8) (w : World) (hs : d.length ≤ 1000000) (hn : n.length ≤ 1000000) : Calls Tryd.prog 38 #[encStr d, encStr n] w fun e w' => e = .returned (encStr (joinB d n)) ∧ w' = w := by
  have hL := Any.strings_TrimSuffix trim160_lay ⟨d.toArray⟩ ⟨#[47]⟩ w (by show d.toArray.size ≤ _; simp; omega)
  change Calls Tryd.prog 71 _ _ _ at hL
  have hb : (Lib.trimSuffix d [47]).length ≤ d.length := by
    unfold Lib.trimSuffix
    split
    · rw [List.length_take]; omega
    · exact Nat.le_refl _
  unfold encStr
  go_enter Tryd.func38, Tryd.ntmps38
  go_wp2_with (go_at_call 71; refine hL.mono ?_; rintro e w' ⟨rfl, rfl⟩)
  all_goals first
    | (exfalso; simp at *; omega)
    | (go_ret; exact ⟨by rw [show (#[47] : Array UInt8) = [47].toArray from rfl, join_str]; rfl, rfl⟩)
end Go.Proofs.YtjoakhpdajlhiaaDoor.V2
namespace Go.Proofs.YtjoakhpdajlhiaaDoor.V2
open Go Go.RowKit Go.Maps Go.Sort Go.Shelf
theorem info9 : (Tryd.prog.info? 9).map (fun i => (i.zero, i.size, i.bytes)) = some (some (.string ⟨#[]⟩), 1, 16) := by kernel_rfl
theorem sort184 (m blk off cap : Nat) (ss : List (List UInt8)) (W : World) (hH : Holds encStr W blk off ss.toArray) (hb : blk < W.heap.size) (hs : ss.length < 4611686018427387904) :
    CallsIn Fence.wide m Tryd.prog 64 #[.slice (some ⟨blk, off, none⟩) ss.length cap] W fun e w' => e = .returned (.tuple #[]) ∧ ∃ k os, w' = grow (putRow encStr (Sort.ahead W k) blk off (ss.mergeSort fun x y => decide (x ≤ y)).toArray) os := (sorts185 m).1 blk off cap ss W hH hb hs
theorem sort184_nil (m : Nat) (p : Option Addr) (cap : Nat) (W : World) : CallsIn Fence.wide m Tryd.prog 64 #[.slice p 0 cap] W fun e w' => e = .returned (.tuple #[]) ∧ w' = W := (sorts185 m).2 p cap W
def outS (dir : List UInt8) (l : List (List UInt8)) : List (List UInt8) := (l.filter fun x => decide (parB x = dir)).map fun x => x.drop (joinB dir []).length
theorem outS_snoc (dir : List UInt8) (l : List (List UInt8)) (x : List UInt8) : outS dir (l ++ [x]) = outS dir l ++ (if parB x = dir then [x.drop (joinB dir []).length] else []) := by
  unfold outS
  rw [List.filter_append, List.map_append]
  by_cases h : parB x = dir <;> simp [h]
theorem outS_le (dir : List UInt8) (l : List (List UInt8)) : (outS dir l).length ≤ l.length := by
  unfold outS
  rw [List.length_map]
  exact List.length_filter_le _ _
theorem drop_str (p : List UInt8) (n : Nat) (h : n ≤ p.length) : (({ data := p.toArray } : ByteArray).extract n p.length) = { data := (p.drop n).toArray } := by
  apply ByteArray.ext
  rw [ByteArray.data_extract]
  simp
  exact List.take_of_length_le (by rw [List.length_drop]; omega)
theorem mem_keys {H : Type} {D0 : DataW H} {R : Value → Option (DataW H × List MemPlace)} {b nn : Nat} {w : World} (hown : w.ownsMap Tryd.prog 9 R b nn D0) {x : List UInt8} (h : has D0 (.string x) = true) : x ∈ strKeys D0 := by
  obtain ⟨es, rfl, hk⟩ := hown.keysOf
  rw [has_eq, List.any_eq_true] at h
  obtain ⟨p, hp, hs⟩ := h
  obtain ⟨v, hv⟩ := hk p hp
  obtain ⟨y, _, hy, _⟩ := Maps.keyOf_str Tryd.underlying9 hv
  rw [hy] at hs
  have : y = x := by simpa [Lit.sameKey] using hs
  subst this
  exact List.mem_map.2 ⟨p, hp, by rw [hy]; rfl⟩
set_option maxRecDepth 100000 in
set_option maxHeartbeats 2000000 in
theorem within94 {H : Type} (c o b nn : Nat) (D0 : DataW H) {R : Value → Option (DataW H × List MemPlace)} (dir : List UInt8) (w : World) (hc : c < w.heap.size) (ht : w.cell? ⟨c, o, none⟩ = some (.map (some b)))
    (hown : w.ownsMap Tryd.prog 9 R b nn D0) (hmax : Maps.size D0 ≤ 1000000) (hdir : dir.length ≤ 1000000)
    (hkeys : ∀ x ∈ strKeys D0, x ≠ [] ∧ x.length ≤ 1000000 ∧ (parB x = dir → (joinB dir []).length ≤ x.length)) :
    Calls Tryd.prog 40 #[.pointer (some ⟨c, o, none⟩), encStr dir] w fun e w' => ∃ (v : Value) (ss : List (List UInt8)), e = .returned v ∧ ss.Perm (outS dir (strKeys D0)) ∧
      w'.ownsRow w.heap.size 9 1 v ss.length ((ss.mergeSort (fun x y => decide (x ≤ y))).map encStr) ∧ (v = .slice none 0 0 ↔ ss = []) ∧ Below w.heap.size w w' := by
  obtain ⟨i0, hi, hz0, hz1, hz2⟩ := info_parts info9
  have hbl := hown.lt
  have hf1 : Fence.wide.fn 37 := trivial
  have hf2 : Fence.wide.fn 38 := trivial
  have hf3 : Fence.wide.fn 64 := trivial
  refine (callsIn_wide (n := 3)).1 ?_
  refine callsIn_of_wp Tryd.func40 rfl trivial ?_ rfl
  simp only [Tryd.ntmps40, List.size_toArray, List.length_cons, List.length_nil, Nat.reduceAdd, Nat.reduceSub, Array.replicate_succ, Array.replicate_zero, List.push_toArray, List.append_toArray, List.nil_append, List.cons_append]
  gi_wp2_with (first
    | (gi_at_range; refine wpListIn_range_own _ rfl _ 29 rfl 9 32 law9 Tryd.underlying29 _ b nn _ rfl hown ?_; intro w0 hrg0 hg0 hs0)
    | gi_in)
  go_frame
  gi_loopw [5, 6] (fun v _ wr => ∃ (left : Lit → Bool) (cnt : Nat) (ks : List (List UInt8)), wr.ranges Tryd.prog 9 R b w.heap.size nn D0 left cnt ∧ ks.length + cnt ≤ Maps.size D0 ∧
      wr.ownsRow w.heap.size 9 1 v (outS dir ks).length ((outS dir ks).map encStr) ∧ (v = .slice none 0 0 ↔ outS dir ks = []) ∧ Collected D0 left ks ∧ Below w.heap.size w wr)
    (fun _ _ wr => wr.rangeLeft b w.heap.size)
  case atStart =>
    exact ⟨_, _, [], hrg0, by simp, ⟨rfl, .inl ⟨rfl, rfl⟩⟩, by simp [outS], Collected.start D0, (Below.refl _ _).grown hg0 (Nat.le_refl _) (fun j hj => by cases hj)⟩
  case round =>
    obtain ⟨left, cnt, ks, hrg, hcs, hrow, hnn, hC, hnx⟩ := hrel
    have hol := outS_le dir ks
    gi_wp2_with (first
      | (gi_at_next; refine wpListIn_next_ranges _ rfl _ rfl 9 law9 R encStr id (fun key kl hk => by obtain ⟨x, hx, _⟩ := Maps.keyOf_str Tryd.underlying9 hk; exact ⟨x, hx⟩) (fun v _ _ => ⟨v, rfl⟩) b w.heap.size nn _ _ _ rfl hrg ?_ ?_)
      | gi_in)
    · intro hc0 hl0
      have hperm : (outS dir ks).Perm (outS dir (strKeys D0)) := ((hC.perm hown law9 Tryd.underlying9 hl0).filter _).map _
      rcases hrow.2 with ⟨rfl, hz⟩ | ⟨g, cap, cur, rfl, hbase, hb, h1, h2, h3, h4⟩
      · have ho : outS dir ks = [] := List.eq_nil_of_length_eq_zero hz
        gi_wp2_with (gi_at_call 64; refine (sort184_nil _ none 0 _).mono ?_; rintro e w' ⟨rfl, rfl⟩)
        go_ret
        exact ⟨_, outS dir ks, rfl, hperm, by rw [ho]; exact ⟨by simp, .inl ⟨rfl, rfl⟩⟩, ⟨fun _ => ho, fun _ => rfl⟩, hnx⟩
      · have hH : Holds encStr wr g 0 (outS dir ks).toArray := holds_of_block hb (by simpa using h4)
        have hgl : g < wr.heap.size := (Array.getElem?_eq_some_iff.1 hb).1
        gi_wp2_with (gi_at_call 64; refine (sort184 _ g 0 cap (outS dir ks) wr hH hgl (by omega)).mono ?_; rintro e w' ⟨rfl, nn, os, rfl⟩)
        go_ret
        exact ⟨_, outS dir ks, rfl, hperm, ownsRow_sorted (by simp) hbase hb h1 h2 h3, hnn, hnx.grown (grownBy_sorted _) hnx.size (fun j hj => by cases hj; exact hbase)⟩
    · intro x y kl yd yp w2 cnt2 hkey hlk hv hat hrg2 hlt hg2 hs2 hen
      obtain ⟨x', ex, rfl, _⟩ := Maps.keyOf_str Tryd.underlying9 hkey
      obtain rfl : x = x' := encStr_inj ex
      obtain ⟨hx0, hx1, hx2⟩ := hkeys x (mem_keys hown (has_true_of_atKey hat))
      have hrow2 := hrow.kept hg2 (Or.inr (row_ne_iter hrow hrg).symm)
      have hnx2 : Below w.heap.size w w2 := hnx.grown hg2 hnx.size (fun j hj => by cases hj; exact Nat.le_refl _)
      clear hs2
      by_cases hp : parB x = dir
      · have hx3 := hx2 hp
        gi_wp2_with (first
          | (gi_at_call 37; refine (callsIn_wide.2 (parent91 x _ hx0 (by omega))).mono ?_; rintro e w' ⟨rfl, hw⟩; rw [hw]; clear hw w')
          | (gi_at_call 38; refine (callsIn_wide.2 (join92 dir [] _ hdir (by simp))).mono ?_; rintro e w' ⟨rfl, hw⟩; rw [hw]; clear hw w')
          | (gi_at_builtin; refine wpListIn_append_own _ rfl _ _ 56 rfl w.heap.size 9 i0 (.string ⟨#[]⟩) 1 16 Tryd.underlying56 hi hz0 hz1 hz2 rfl (by decide) _ _ _ rfl (hrow2.alloc _) ⟨w2.heap.size, 0, none⟩ 1 1 [.string (({ data := x.toArray } : ByteArray).extract (joinB dir []).length x.length)] rfl rfl (cell_one_new _ _ _) (by simp [Value.oneCell']) (by simp only [maxLen]; omega) (by omega) (by have := hnx2.size; simp; omega) ?_; intro v' w3 hown' hg3 hnil3; go_frame)
          | gi_in)
        have hsn : outS dir (ks ++ [x]) = outS dir ks ++ [x.drop (joinB dir []).length] := by rw [outS_snoc, if_pos hp]
        have hrg3 := (hrg2.alloc _).kept hg3 (row_ne_low hrow2 hbl) (row_ne_iter hrow2 hrg2)
        go_roundw
        case rel =>
          refine ⟨_, cnt2, ks ++ [x], hrg3, by simp; omega, ?_, ?_, hC.step hlk hat, ?_⟩
          · rw [hsn]
            rw [drop_str x _ hx3] at hown'
            simpa [encStr] using hown'
          · rw [hsn]
            simp only [List.append_eq_nil_iff, List.cons_ne_self, and_false, iff_false]
            exact fun hv' => by have := (hnil3.1 hv').2; omega
          · exact (hnx2.alloc hnx2.size _).grown hg3 (by have := hnx2.size; simp; omega) (fun j hj => (hrow2.lt j hj).1)
        case measure => rw [hrg3.left_eq, hrg.left_eq]; exact hlt
      · have hpb : (parB x == dir) = false := by simpa using hp
        gi_wp2_with (first
          | (gi_at_call 37; refine (callsIn_wide.2 (parent91 x _ hx0 (by omega))).mono ?_; rintro e w' ⟨rfl, hw⟩; rw [hw]; clear hw w')
          | (gi_at_call 38; refine (callsIn_wide.2 (join92 dir [] _ hdir (by simp))).mono ?_; rintro e w' ⟨rfl, hw⟩; rw [hw]; clear hw w')
          | gi_in)
        have hsn : outS dir (ks ++ [x]) = outS dir ks := by rw [outS_snoc, if_neg hp, List.append_nil]
        go_roundw
        case rel => exact ⟨_, cnt2, ks ++ [x], hrg2, by simp; omega, by rw [hsn]; exact hrow2, by rw [hsn]; exact hnn, hC.step hlk hat, hnx2⟩
        case measure => rw [hrg2.left_eq, hrg.left_eq]; exact hlt
end Go.Proofs.YtjoakhpdajlhiaaDoor.V2
namespace Go.Proofs.YtjoakhpdajlhiaaDoor.V2
open Go
open Go.RowKit Go.Maps Go.Sort
theorem HR.adopt {ρ : Ren} {σ : AH} {W W' : World} (h : HR ρ σ W) (hb : Below W.heap.size W W') {g s : Nat} (hg : W.heap.size ≤ g) (hg' : g < W'.heap.size) (hs : σ.next < 1000000) {o : AObj} (hO : OR ρ (0, s) o W'.heap[g]?) :
    ∃ ρ', ρ' σ.next = some (g, (0, s)) ∧ Sub ρ ρ' ∧ HR ρ' (σ.new o) W' ∧ Stp σ.next ρ σ W ρ' (σ.new o) W' := by
  have hn : ρ σ.next = none := by
    cases hc : ρ σ.next with
    | none => rfl
    | some c => have := (h.dom _ c.1 c.2 hc).1; omega
  have hget : ∀ m, (σ.new o).get m = if m = σ.next then some o else σ.get m := fun m => T.get_put _ _ _ _ (by omega)
  have hsub : Sub ρ (fun b => if b = σ.next then some (g, (0, s)) else ρ b) := fun b x hc => by
    have hne : b ≠ σ.next := by rintro rfl; rw [hn] at hc; cases hc
    simp only [if_neg hne]; exact hc
  refine ⟨fun b => if b = σ.next then some (g, (0, s)) else ρ b, if_pos rfl, hsub, ⟨by show σ.next + 1 ≤ _; omega, fun m hm => by have hm : σ.next + 1 ≤ m := hm; rw [hget, if_neg (by omega)]; exact h.none_ m (by omega), fun b c d hc => ?_, fun b b' c d d' h1 h2 hne => ?_⟩, ⟨fun b hb => if_neg (by omega), fun b c d hc => ?_, by show σ.next ≤ σ.next + 1; omega, fun b ob hb _ ho' _ => ?_, fun c hc _ => hb.block c hc, hb.tape, hb.os, hb.output, hb.size, fun b c d ob hb' _ hc ho' _ => ⟨by rw [hget, if_neg (by omega)]; exact ho', hb.block c hc⟩⟩⟩
  · rw [hget]
    by_cases hbn : b = σ.next
    · subst hbn
      simp only [if_true, Option.some.injEq, Prod.mk.injEq] at hc
      obtain ⟨rfl, rfl⟩ := hc
      exact ⟨Nat.lt_succ_self _, hg', o, if_pos rfl, hO.mono hsub⟩
    · simp only [if_neg hbn] at hc ⊢
      obtain ⟨h1, h2, o2, h3, h4⟩ := h.dom b c d hc
      refine ⟨by show b < σ.next + 1; omega, Nat.lt_of_lt_of_le h2 hb.size, o2, h3, ?_⟩
      rw [hb.block c h2]
      exact h4.mono hsub
  · by_cases e1 : b = σ.next
    · subst e1
      simp only [if_true, Option.some.injEq, Prod.mk.injEq] at h1
      obtain ⟨rfl, rfl⟩ := h1
      simp only [if_neg (Ne.symm hne)] at h2
      have := (h.dom _ _ _ h2).2.1
      omega
    · by_cases e2 : b' = σ.next
      · subst e2
        simp only [if_true, Option.some.injEq, Prod.mk.injEq] at h2
        obtain ⟨rfl, rfl⟩ := h2
        simp only [if_neg e1] at h1
        have := (h.dom _ _ _ h1).2.1
        omega
      · simp only [if_neg e1, if_neg e2] at h1 h2
        exact (h.inj b b' c d d' h1 h2 hne).congr (by rw [hget, if_neg e1]) (by rw [hget, if_neg e2])
  · by_cases hbn : b = σ.next
    · subst hbn
      simp only [if_true, Option.some.injEq, Prod.mk.injEq] at hc
      exact .inr (by omega)
    · simp only [if_neg hbn] at hc
      exact .inl ⟨b, d, hc⟩
  · rw [hget, if_neg (by omega)]; exact ho'
theorem vrs_strs (ρ : Ren) : ∀ ss : List (List UInt8), VRs ρ (ss.map AV.str) (ss.map encStr)
  | [] => rfl
  | s :: ss => ⟨_, _, rfl, rfl, vrs_strs ρ ss⟩
theorem adopt_strs {ρ : Ren} {σ : AH} {W W' : World} (h : HR ρ σ W) (hb : Below W.heap.size W W') (hs : σ.next < 1000000) {u : Value} {ss : List (List UInt8)} (hne : ss ≠ []) (ho : W'.ownsRow W.heap.size 9 1 u ss.length (ss.map encStr)) :
    ∃ ρ', HR ρ' (σ.new (.cells (ss.map AV.str) 9 .more)) W' ∧ Stp σ.next ρ σ W ρ' (σ.new (.cells (ss.map AV.str) 9 .more)) W' ∧ VR ρ' (.sl σ.next 0 ss.length ss.length false 1) u := by
  have hl : 0 < ss.length := List.length_pos_iff.2 hne
  obtain ⟨_, ⟨_, h0⟩ | ⟨g, cap, cur, rfl, hg, hrow, hn, hcap, hsz, htk⟩⟩ := ho
  · omega
  have hg' : g < W'.heap.size := (Array.getElem?_eq_some_iff.1 hrow).1
  have hO : OR ρ (0, cap) (.cells (ss.map AV.str) 9 .more) W'.heap[g]? := by
    rw [hrow]
    refine OR.mk' rfl ⟨cur, 9, (0, 0), rfl, fun _ => ⟨rfl, .inl rfl, by rw [hsz, Nat.mul_one]⟩, by show (ss.map AV.str).length + 0 ≤ _; rw [List.length_map]; omega, by show (ss.map AV.str).length + 0 ≤ cap; rw [List.length_map]; omega, fun i a hi => ?_⟩
    have hil : i < ss.length := by have := (List.getElem?_eq_some_iff.1 hi).1; rwa [List.length_map] at this
    obtain ⟨v, h1, h2⟩ := (vrs_strs ρ ss).at i a hi
    refine ⟨v, ?_, h2⟩
    have e1 : (cur.toList.take (ss.length * 1))[i]? = (ss.map encStr)[i]? := by rw [htk]
    rw [List.getElem?_take, if_pos (by omega), Array.getElem?_toList] at e1
    rw [Nat.add_zero, e1]; exact h1
  obtain ⟨ρ', k1, _, k3, k4⟩ := h.adopt hb hg hg' hs hO
  refine ⟨ρ', k3, k4, ?_⟩
  unfold VR
  exact .inl ⟨g, (0, cap), 0, cap, k1, rfl, fun _ => rfl, Nat.le_refl _, hn, fun h => (by cases h), by show 0 + cap * 1 ≤ cap; omega⟩
def keysS : List (AV × AV) → Option (List (List UInt8))
  | [] => some []
  | p :: l => match p.1 with
    | .str s => match keysS l with
      | some m => some (s :: m)
      | none => none
    | _ => none
theorem keysS_spec {ρ : Ren} : ∀ {l : List (AV × AV)} {ks : List (List UInt8)} {es : List MapEntry}, keysS l = some ks → MapL ρ l es → es.map (·.key) = ks.map encStr
  | [], ks, es, h, hm => by cases h; rw [show es = [] from hm]; rfl
  | p :: l, ks, es, h, hm => by
    obtain ⟨e, m, rfl, h1, h2, h3⟩ := hm
    obtain ⟨a, b⟩ := p
    cases a <;> first | (cases h; done) | skip
    rename_i s
    simp only [keysS] at h
    cases hk : keysS l <;> rw [hk] at h
    · cases h
    rename_i m'
    cases h
    have h1 : e.key = .string ⟨s.toArray⟩ := h1
    rw [List.map_cons, List.map_cons, keysS_spec hk h3, h1]
def insS (x : List UInt8) : List (List UInt8) → List (List UInt8)
  | [] => [x]
  | y :: l => bif decide (y < x) then y :: insS x l else x :: y :: l
def sortS : List (List UInt8) → List (List UInt8)
  | [] => []
  | x :: l => insS x (sortS l)
def risS : List (List UInt8) → Bool
  | [] => true
  | x :: l => (match l with | [] => true | y :: _ => decide (x < y)) && risS l
theorem insS_perm (x : List UInt8) : ∀ l, (insS x l).Perm (x :: l)
  | [] => .refl _
  | y :: l => by
    unfold insS
    cases decide (y < x)
    · exact .refl _
    · exact (List.Perm.cons y (insS_perm x l)).trans (.swap _ _ _)
theorem sortS_perm : ∀ l, (sortS l).Perm l
  | [] => .refl _
  | x :: l => (insS_perm x _).trans (.cons x (sortS_perm l))
theorem risS_lt : ∀ {l : List (List UInt8)}, risS l = true → l.Pairwise (· < ·)
  | [], _ => .nil
  | [x], _ => List.pairwise_singleton _ _
  | x :: y :: l, h => by
    unfold risS at h
    rw [Bool.and_eq_true, decide_eq_true_eq] at h
    have ih := risS_lt h.2
    refine List.pairwise_cons.2 ⟨fun z hz => ?_, ih⟩
    rcases List.mem_cons.1 hz with rfl | hz
    · exact h.1
    · exact List.lt_trans h.1 (List.rel_of_pairwise_cons ih hz)
theorem risS_sort {l : List (List UInt8)} (h : risS (sortS l) = true) : l.Nodup ∧ l.mergeSort (fun x y => decide (x ≤ y)) = sortS l := by
  have hp := risS_lt h
  refine ⟨(sortS_perm l).nodup_iff.1 (hp.imp fun {a b} hab e => by subst e; exact List.lt_irrefl _ hab), ?_⟩
  have hle : (sortS l).Pairwise (fun a b => leB a b = true) := hp.imp fun {a b} hab => by simp only [leB, decide_eq_true_eq]; exact List.le_of_lt hab
  show l.mergeSort leB = _
  rw [mergeSort_of_perm (sortS_perm l).symm]
  exact List.mergeSort_of_pairwise hle
def shS (l : List (List UInt8)) : Bool := l.all fun s => Nat.ble s.length 1000000
def RNil (_ : Value) : Option (DataW Nat × List MemPlace) := some (.nil, [])
theorem own_of {ρ : Ren} {l : List (AV × AV)} {c : Nat} {W : World} (hM : MR ρ l W.heap[c]?) {ks : List (List UInt8)} (hk : keysS l = some ks) (hn : ks.Nodup) (hs : shS ks = true) (hl : ks.length ≤ 1000000) :
    ∃ D : DataW Nat, W.ownsMap Tryd.prog 9 RNil c ks.length D ∧ (strKeys D).Perm ks ∧ Maps.size D = ks.length := by
  obtain ⟨es, ck, hb, h1, h2, h3⟩ := hM
  have hkey := keysS_spec hk h1
  have hlen : es.size = ks.length := by have := congrArg List.length hkey; simpa using this
  have hrd : ∀ x ∈ es.toList, ∃ s, s ∈ ks ∧ x.key = encStr s ∧ Go.WideElems.rd Tryd.prog 9 RNil x = some (.string s, .nil) := fun x hx => by
    have : x.key ∈ ks.map encStr := by rw [← hkey]; exact List.mem_map_of_mem hx
    obtain ⟨s, hs1, hs2⟩ := List.mem_map.1 this
    refine ⟨s, hs1, hs2.symm, ?_⟩
    have hsl : s.length ≤ 1000000 := by have := List.all_eq_true.1 hs s hs1; rwa [Nat.ble_eq] at this
    have hko : keyOf Tryd.prog 9 (encStr s) = some (.string s) := by
      simp only [keyOf, Tryd.underlying9, mapKey, encStr]
      rw [if_pos (by show s.toArray.size ≤ maxLen; simp [maxLen]; omega)]
    exact Go.WideElems.rd_mk (yv := (.nil, [])) (by rw [← hs2]; exact hko) rfl
  have F : Go.WideElems.Fit Tryd.prog 9 RNil es ck := ⟨by rw [hlen]; simp only [maxLen]; omega, ⟨h3, Go.Proofs.YtjoakhpdajlhiaaDoor.V2.nodup_born h2, by rw [hkey]; exact List.pairwise_map.2 (hn.imp fun {a b} hab e => hab (encStr_inj e))⟩, fun x hx => by obtain ⟨s, _, _, h⟩ := hrd x hx; exact ⟨_, h⟩⟩
  refine ⟨_, ⟨es, ck, hb, F, Nat.le_of_eq hlen, rfl⟩, ?_, ?_⟩
  · show (((es.toList.map (Go.WideElems.rg Tryd.prog 9 RNil)).foldr DataW.insert []).map fun p => strOf p.1).Perm ks
    refine ((WideShapes.sorted_perm _).map _).trans ?_
    have : (es.toList.map (Go.WideElems.rg Tryd.prog 9 RNil)).map (fun p => strOf p.1) = ks := by
      have e2 : ∀ x ∈ es.toList, encStr (strOf (Go.WideElems.rg Tryd.prog 9 RNil x).1) = x.key := fun x hx => by
        obtain ⟨s, _, h5, h6⟩ := hrd x hx
        rw [Go.WideElems.rg_of h6, h5]; rfl
      have e3 : ((es.toList.map (Go.WideElems.rg Tryd.prog 9 RNil)).map (fun p => strOf p.1)).map encStr = ks.map encStr := by
        rw [List.map_map, List.map_map, ← hkey]
        exact List.map_congr_left e2
      exact (List.map_inj_right fun a b h => encStr_inj h).1 e3
    rw [this]
  · show ((es.toList.map (Go.WideElems.rg Tryd.prog 9 RNil)).foldr DataW.insert []).length = _
    rw [(WideShapes.sorted_perm _).length_eq, List.length_map, Array.length_toList, hlen]
noncomputable def srtO (σ : AH) (ks : List (List UInt8)) : Out := match sortS ks with
  | [] => (true, .nilsl, σ)
  | x :: l => (risS (x :: l) && shS ks && Nat.ble ks.length 1000000 && Nat.blt σ.next 1000000, .sl σ.next 0 (x :: l).length (x :: l).length false 1, σ.new (.cells ((x :: l).map AV.str) 9 .more))
noncomputable def srtM (σ : AH) (m : Nat) : Out := match σ.get m with
  | some (.map l) => match keysS l with
    | some ks => srtO σ ks
    | none => bad σ
  | _ => bad σ
noncomputable def srtA (args : List AV) (σ : AH) : Out := match args with
  | [.fn (.func q) [] [.ptr b o]] => bif Nat.beq q 65 || Nat.beq q 65 then match (σ.get b).bind fun ob => ob.at o with
    | some (.map m) => srtM σ m
    | _ => bad σ else bad σ
  | _ => bad σ
noncomputable def srF (g : FuncId → List AV → AH → Out) (f : FuncId) (args : List AV) (σ : AH) : Out := bif Nat.beq f 29 then srtA args σ else g f args σ
theorem srtO_ok {ρ : Ren} {σ : AH} {W : World} (hr : HR ρ σ W) {l : List (AV × AV)} {c : Nat} (hM : MR ρ l W.heap[c]?) {ks : List (List UInt8)} (hk : keysS l = some ks) (h : (srtO σ ks).1 = true) {v : Value}
    (hC : ∀ (D0 : DataW Nat), W.ownsMap Tryd.prog 9 RNil c ks.length D0 → Maps.size D0 ≤ maxLen → Maps.size D0 * 16 ≤ 140737488355328 → Calls Tryd.prog 29 #[v] W fun e w' => ∃ (v : Value) (ss : List (List UInt8)), e = .returned v ∧ ss.Perm (strKeys D0) ∧
      w'.ownsRow W.heap.size 9 1 v ss.length ((ss.mergeSort (fun x y => decide (x ≤ y))).map encStr) ∧ (v = .slice none 0 0 ↔ ss = []) ∧ Below W.heap.size W w') :
    Calls Tryd.prog 29 #[v] W fun e W' => ∃ v ρ', e = .returned v ∧ HR ρ' (srtO σ ks).2.2 W' ∧ Stp σ.next ρ σ W ρ' (srtO σ ks).2.2 W' ∧ VR ρ' (srtO σ ks).2.1 v := by
  unfold srtO at h ⊢
  have hso := sortS_perm ks
  cases hS : sortS ks with
  | nil =>
    rw [hS] at hso
    have hks : ks = [] := by simpa using hso.symm.length_eq
    subst hks
    obtain ⟨D, h1, h2, h3⟩ := own_of hM hk List.nodup_nil rfl (by simp)
    refine (hC D h1 (by rw [h3]; simp) (by rw [h3]; simp)).mono ?_
    rintro e W' ⟨v, ss, rfl, g1, g2, g3, g4⟩
    have : ss = [] := by have := (g1.trans h2).length_eq; simpa using this
    refine ⟨v, ρ, rfl, hr.below g4, .below (Nat.le_refl _) g4, ?_⟩
    unfold VR
    exact g3.2 this
  | cons x t =>
    rw [hS] at h
    simp only [Bool.and_eq_true, Nat.ble_eq, Nat.blt_eq] at h
    obtain ⟨⟨⟨h1, h2⟩, h3⟩, h4⟩ := h
    rw [← hS] at h1
    obtain ⟨i1, i2⟩ := risS_sort h1
    obtain ⟨D, j1, j2, j3⟩ := own_of hM hk i1 h2 h3
    refine (hC D j1 (by rw [j3]; simp only [maxLen]; omega) (by rw [j3]; omega)).mono ?_
    rintro e W' ⟨v, ss, rfl, g1, g2, g3, g4⟩
    have e1 : ss.mergeSort (fun x y => decide (x ≤ y)) = x :: t := by
      rw [← hS, ← i2]
      exact mergeSort_of_perm (g1.trans j2)
    have e2 : ss.length = (x :: t).length := by rw [← hS, hso.length_eq, (g1.trans j2).length_eq]
    rw [e1, e2] at g2
    obtain ⟨ρ', k1, k2, k3⟩ := adopt_strs hr g4 h4 (by simp) g2
    exact ⟨v, ρ', rfl, k1, k2, k3⟩
theorem srF_ok {Y : List Yl} {g : FuncId → List AV → AH → Out} (hg : FnOk Tryd.prog 3 g Y) : FnOk Tryd.prog 3 (srF g) Y := by
  intro f args σ h
  unfold srF at h ⊢
  cases hf : Nat.beq f 29
  case false => rw [hf] at h; rw [cond_false] at h ⊢; exact hg f args σ h
  rw [hf] at h
  simp only [cond_true] at h ⊢
  have e := Nat.eq_of_beq_eq_true hf
  subst e
  refine ⟨⟨_, Tryd.func29, by kernel_rfl, by kernel_rfl⟩, fun ρ W vs _ hG hr hvs => ?_⟩
  unfold srtA at h ⊢
  split at h
  case h_2 => cases h
  rename_i q b o
  cases hq : Nat.beq q 65 || Nat.beq q 65 <;> rw [hq] at h
  · cases h
  rw [cond_true] at h ⊢
  split at h
  case h_2 => cases h
  rename_i m hm
  obtain ⟨ob, hob, hat⟩ := Option.bind_eq_some_iff.1 hm
  obtain ⟨v, mm, rfl, hv, hmm⟩ := hvs
  have hmm : mm = [] := hmm
  subst hmm
  unfold VR at hv
  obtain ⟨us, ys, rfl, hus, hys⟩ := hv
  have hus : us = [] := hus
  subst hus
  obtain ⟨y, yy, rfl, hy, hyy⟩ := hys
  have hyy : yy = [] := hyy
  subst hyy
  unfold VR at hy
  obtain ⟨c, d, hc, rfl⟩ := hy
  obtain ⟨_, hcl, ob', ho', hO⟩ := hr.dom b c d hc
  rw [hob] at ho'
  cases ho'
  have hcy : ob.cellsy = true := by cases ob <;> first | rfl | (exact absurd hat (by simp [AObj.at]))
  have hpos : 0 < ob.len := by
    cases ob <;> simp only [AObj.at] at hat
    · cases hat
    · exact Nat.lt_of_le_of_lt (Nat.zero_le _) (List.getElem?_eq_some_iff.1 hat).1
    · obtain ⟨_, h5, _⟩ := Option.map_eq_some_iff.1 hat; exact Nat.lt_of_le_of_lt (Nat.zero_le _) (List.getElem?_eq_some_iff.1 h5).1
    · cases hat
    · cases hat
  obtain ⟨cs, el, fr, hx, _, _, _, hall⟩ := (hO.1 hcy).2 fun _ => hpos
  obtain ⟨u, hu, huv⟩ := hall o _ hat
  unfold VR at huv
  obtain ⟨c2, d2, hc2, rfl⟩ := huv
  have hcell : W.cell? ⟨c, o + d.1, none⟩ = some (.map (some c2)) := by simp [World.cell?, hx, hu]
  obtain ⟨_, _, ob2, ho2, hO2⟩ := hr.dom m c2 d2 hc2
  unfold srtM at h ⊢
  split at h
  case h_2 => cases h
  rename_i l hl
  rw [hl] at ho2
  cases ho2
  cases hk : keysS l <;> simp only [hk] at h ⊢
  · cases h
  rename_i ks
  rw [Bool.or_eq_true] at hq
  rcases hq with hq | hq
  · have e := Nat.eq_of_beq_eq_true hq
    subst e
    exact srtO_ok hr (hO2.2 l rfl) hk h fun D0 h1 h2 h3 => sorted250 c (o + d.1) c2 ks.length D0 W hcl hcell h1 h2 h3
  · have e := Nat.eq_of_beq_eq_true hq
    subst e
    exact srtO_ok hr (hO2.2 l rfl) hk h fun D0 h1 h2 h3 => sorted250 c (o + d.1) c2 ks.length D0 W hcl hcell h1 h2 h3
end Go.Proofs.YtjoakhpdajlhiaaDoor.V2
namespace Go.Proofs.YtjoakhpdajlhiaaDoor.V2
open Go
noncomputable section
def ltK (n : Nat) : Nat → Nat → Nat → FR → FR → FR := Nat.rec (motive := fun _ => Nat → Nat → Nat → FR → FR → FR) (fun m _ _ y s => Nat.rec s (fun _ _ => y) m)
  (fun _ ih m a b y s => Nat.rec (motive := fun _ => FR) s (fun m _ => Bool.rec (Bool.rec s (fN (Nat.div a 256) fun a => fN (Nat.div b 256) fun b => ih m a b y s) (Nat.beq (Nat.mod a 256) (Nat.mod b 256))) y (Nat.blt (Nat.mod a 256) (Nat.mod b 256))) m) n
theorem u8_lt {x y : Nat} : UInt8.ofNat (x % 256) < UInt8.ofNat (y % 256) ↔ x % 256 < y % 256 := by
  rw [UInt8.lt_iff_toNat_lt, UInt8.toNat_ofNat', UInt8.toNat_ofNat']; simp
theorem u8_eq {x y : Nat} : UInt8.ofNat (x % 256) = UInt8.ofNat (y % 256) ↔ x % 256 = y % 256 := by
  rw [← UInt8.toNat_inj, UInt8.toNat_ofNat', UInt8.toNat_ofNat']; simp
theorem ltK_eq : ∀ (n m a b : Nat) (y s : FR), ltK n m a b y s = bif decide (unpN n a < unpN m b) then y else s
  | 0, 0, a, b, y, s => by show s = _; simp [unpN]
  | 0, m + 1, a, b, y, s => by show y = _; simp [unpN]
  | n + 1, 0, a, b, y, s => by show s = _; simp [unpN]
  | n + 1, m + 1, a, b, y, s => by
    show (Bool.rec (Bool.rec s (fN (Nat.div a 256) fun a => fN (Nat.div b 256) fun b => ltK n m a b y s) (Nat.beq (Nat.mod a 256) (Nat.mod b 256))) y (Nat.blt (Nat.mod a 256) (Nat.mod b 256)) : FR) = _
    rw [fN_eq, fN_eq, ltK_eq n m]
    have h : decide (unpN (n + 1) a < unpN (m + 1) b) = (Nat.blt (Nat.mod a 256) (Nat.mod b 256) || (Nat.beq (Nat.mod a 256) (Nat.mod b 256) && decide (unpN n (Nat.div a 256) < unpN m (Nat.div b 256)))) := by
      rw [Bool.eq_iff_iff]
      simp only [unpN, List.cons_lt_cons_iff, decide_eq_true_eq, Bool.or_eq_true, Bool.and_eq_true, Nat.blt_eq, Nat.beq_eq, u8_lt, u8_eq]
      rfl
    rw [h]
    cases Nat.blt (Nat.mod a 256) (Nat.mod b 256)
    · cases Nat.beq (Nat.mod a 256) (Nat.mod b 256) <;> rfl
    · rfl
def ltC (x y : Nat) (t s : FR) : FR := ltK (bl x) (bl y) x y t s
theorem ltC_eq (x y : Nat) (t s : FR) : ltC x y t s = bif decide (unp x < unp y) then t else s := ltK_eq _ _ _ _ _ _
def insK (x : Nat) (l : List Nat) (k : List Nat → FR) : FR := List.rec (motive := fun _ => (List Nat → FR) → FR) (fun k => k [x]) (fun y m ih k => ltC y x (ih fun r => k (y :: r)) (k (x :: y :: m))) l k
def insN (x : Nat) : List Nat → List Nat
  | [] => [x]
  | y :: l => bif decide (unp y < unp x) then y :: insN x l else x :: y :: l
theorem insK_eq (x : Nat) : ∀ (l : List Nat) (k : List Nat → FR), insK x l k = k (insN x l)
  | [], _ => rfl
  | y :: l, k => by
    show ltC y x (insK x l fun r => k (y :: r)) (k (x :: y :: l)) = _
    rw [ltC_eq, insK_eq x l, insN]
    cases decide (unp y < unp x) <;> rfl
theorem insN_unp (x : Nat) : ∀ l : List Nat, (insN x l).map unp = insS (unp x) (l.map unp)
  | [] => rfl
  | y :: l => by
    rw [List.map_cons, insN, insS, ← insN_unp x l]
    cases decide (unp y < unp x) <;> rfl
def srtK (l : List Nat) (k : List Nat → FR) : FR := List.rec (motive := fun _ => (List Nat → FR) → FR) (fun k => k []) (fun x _ ih k => ih fun r => insK x r k) l k
theorem srtK_eq : ∀ (l : List Nat) (k : List Nat → FR), ∃ r, r.map unp = sortS (l.map unp) ∧ srtK l k = k r
  | [], _ => ⟨[], rfl, rfl⟩
  | x :: l, k => by
    obtain ⟨r, h1, h2⟩ := srtK_eq l fun r => insK x r k
    refine ⟨insN x r, ?_, ?_⟩
    · rw [insN_unp, h1]; rfl
    · show srtK l (fun r => insK x r k) = _
      rw [h2, insK_eq]
def risK (l : List Nat) (s : FR) : FR := List.rec (motive := fun _ => FR → FR) (fun s => s) (fun x m ih s => List.rec (motive := fun _ => FR) (ih s) (fun y _ _ => ltC x y (ih s) .bad) m) l s
theorem risK_cases : ∀ {l : List Nat} {s : FR}, risK l s ≠ .bad → risS (l.map unp) = true ∧ risK l s = s
  | [], _, _ => ⟨rfl, rfl⟩
  | [x], s, _ => ⟨rfl, rfl⟩
  | x :: y :: l, s, h => by
    have h : ltC x y (risK (y :: l) s) .bad ≠ .bad := h
    show _ ∧ ltC x y (risK (y :: l) s) .bad = s
    rw [ltC_eq] at h ⊢
    cases hd : decide (unp x < unp y) <;> rw [hd] at h
    · exact absurd rfl h
    · obtain ⟨h1, h2⟩ := risK_cases (l := y :: l) (s := s) h
      refine ⟨?_, h2⟩
      rw [List.map_cons, List.map_cons]
      unfold risS
      rw [List.map_cons] at h1
      rw [h1]
      simp [hd]
def shK (l : List Nat) (s : FR) : FR := List.rec (motive := fun _ => FR) s (fun x _ ih => gB (Nat.ble (bl x) 1000000) ih) l
theorem shK_cases : ∀ {l : List Nat} {s : FR}, shK l s ≠ .bad → shS (l.map unp) = true ∧ shK l s = s
  | [], _, _ => ⟨rfl, rfl⟩
  | x :: l, s, h => by
    have h : gB (Nat.ble (bl x) 1000000) (shK l s) ≠ .bad := h
    show _ ∧ gB (Nat.ble (bl x) 1000000) (shK l s) = s
    rw [gB_eq] at h ⊢
    cases hd : Nat.ble (bl x) 1000000 <;> rw [hd] at h
    · exact absurd rfl h
    · obtain ⟨h1, h2⟩ := shK_cases (l := l) (s := s) h
      refine ⟨?_, h2⟩
      unfold shS at h1 ⊢
      rw [List.map_cons, List.all_cons, h1, unp_length, hd]; rfl
def keysK (l : List (FV × FV)) (k : List Nat → FR) : FR := List.rec (motive := fun _ => (List Nat → FR) → FR) (fun k => k []) (fun p _ ih k => Prod.rec (fun x _ => kS (fun c => ih fun r => k (c :: r)) x) p) l k
theorem keysK_cases : ∀ {l : List (FV × FV)} {k : List Nat → FR}, keysK l k ≠ .bad → ∃ cs, keysS (αP l) = some (cs.map unp) ∧ keysK l k = k cs
  | [], _, _ => ⟨[], rfl, rfl⟩
  | (x, y) :: l, k, h => by
    have h : kS (fun c => keysK l fun r => k (c :: r)) x ≠ .bad := h
    show ∃ cs, _ ∧ kS (fun c => keysK l fun r => k (c :: r)) x = k cs
    obtain ⟨c, rfl, h1⟩ := kS_cases h
    rw [h1] at h ⊢
    obtain ⟨cs, h2, h3⟩ := keysK_cases h
    refine ⟨c :: cs, ?_, h3⟩
    simp only [αP, keysS, αV, h2, List.map_cons]
def txK (l : List Nat) (k : List FV → FR) : FR := List.rec (motive := fun _ => (List FV → FR) → FR) (fun k => k []) (fun c _ ih k => ih fun r => k (.s c :: r)) l k
theorem txK_eq : ∀ (l : List Nat) (k : List FV → FR), ∃ r, αL r = (l.map unp).map AV.str ∧ txK l k = k r
  | [], _ => ⟨[], rfl, rfl⟩
  | c :: l, k => by
    obtain ⟨r, h1, h2⟩ := txK_eq l fun r => k (.s c :: r)
    exact ⟨.s c :: r, by rw [αL, h1]; rfl, h2⟩
def lnK (l : List Nat) (k : Nat → FR) : FR := List.rec (motive := fun _ => (Nat → FR) → FR) (fun k => k 0) (fun _ _ ih k => ih fun n => fN (Nat.succ n) k) l k
theorem lnK_eq : ∀ (l : List Nat) (k : Nat → FR), lnK l k = k l.length
  | [], _ => rfl
  | c :: l, k => by
    show lnK l (fun n => fN (Nat.succ n) k) = _
    rw [lnK_eq l, fN_eq]; rfl
def srtQ (ks : List Nat) (σ : FH) (k : KV) : FR := shK ks (srtK ks fun r => List.rec (motive := fun _ => FR) (k (.o .sl) σ) (fun _ _ _ => risK r (lnK r fun n => gB (Nat.ble n 1000000) (txK r fun l => nM σ (.cells l 9 .more) fun b σ => k (.sl b 0 n n false 1) σ))) r)
theorem srtQ_sm (ks : List Nat) (σ : FH) (k : KV) : Sm (srtQ ks σ k) k (srtO (αH σ) (ks.map unp)) := by
  intro h
  unfold srtQ at h ⊢
  obtain ⟨h1, h2⟩ := shK_cases h
  rw [h2] at h ⊢
  obtain ⟨r, h3, h4⟩ := srtK_eq ks (fun r => List.rec (motive := fun _ => FR) (k (.o .sl) σ) (fun _ _ _ => risK r (lnK r fun n => gB (Nat.ble n 1000000) (txK r fun l => nM σ (.cells l 9 .more) fun b σ => k (.sl b 0 n n false 1) σ))) r)
  rw [h4] at h ⊢
  cases r with
  | nil =>
    refine ⟨.o .sl, σ, ?_, rfl⟩
    unfold srtO
    rw [← h3]; rfl
  | cons x t =>
    have h : risK (x :: t) (lnK (x :: t) fun n => gB (Nat.ble n 1000000) (txK (x :: t) fun l => nM σ (.cells l 9 .more) fun b σ => k (.sl b 0 n n false 1) σ)) ≠ .bad := h
    show ∃ v σ', _ ∧ risK (x :: t) (lnK (x :: t) fun n => gB (Nat.ble n 1000000) (txK (x :: t) fun l => nM σ (.cells l 9 .more) fun b σ => k (.sl b 0 n n false 1) σ)) = k v σ'
    obtain ⟨g1, g2⟩ := risK_cases h
    rw [g2] at h ⊢
    rw [lnK_eq, gB_eq] at h ⊢
    cases hb : Nat.ble (x :: t).length 1000000 <;> rw [hb] at h
    · exact absurd rfl h
    rw [cond_true] at h ⊢
    obtain ⟨l, g3, g4⟩ := txK_eq (x :: t) fun l => nM σ (.cells l 9 .more) fun b σ => k (.sl b 0 (x :: t).length (x :: t).length false 1) σ
    rw [g4] at h ⊢
    obtain ⟨g5, σ', g6, g7⟩ := nM_cases h
    refine ⟨.sl σ.next 0 (x :: t).length (x :: t).length false 1, σ', ?_, g7⟩
    have hlen : (ks.map unp).length = (x :: t).length := by
      have := (sortS_perm (ks.map unp)).length_eq
      rw [← h3, List.length_map] at this; exact this.symm
    unfold srtO
    rw [← h3, List.map_cons]
    simp only
    rw [List.map_cons] at g1 g3
    rw [g1, h1, hlen, hb, g5, g6]
    simp only [αO, αV, g3, List.length_cons, List.length_map]
    rfl
def kFn (f : Fn → List FV → List FV → FR) (v : FV) : FR := FV.rec (motive_1 := fun _ => FR) (motive_2 := fun _ => FR) (fun _ _ => .bad) (fun _ _ => .bad) (fun _ => .bad) (fun _ => .bad) (fun _ _ => .bad) (fun _ _ _ _ _ _ => .bad) (fun _ => .bad) (fun _ => .bad) (fun g a b _ _ => f g a b) (fun _ _ _ => .bad) (fun _ _ => .bad) (fun _ => .bad) (fun _ _ => .bad) (fun _ _ => .bad) (fun _ => .bad) .bad (fun _ _ _ _ => .bad) v
theorem kFn_cases {f : Fn → List FV → List FV → FR} {v : FV} (h : kFn f v ≠ .bad) : ∃ g a b, v = .fn g a b ∧ kFn f v = f g a b := by
  cases v <;> first | exact ⟨_, _, _, rfl, rfl⟩ | exact absurd rfl h
def kFu (f : Nat → FR) (g : Fn) : FR := Fn.rec (motive := fun _ => FR) f (fun _ => .bad) (fun _ _ => .bad) (fun _ _ _ _ => .bad) (fun _ => .bad) g
theorem kFu_cases {f : Nat → FR} {g : Fn} (h : kFu f g ≠ .bad) : ∃ n, g = .func n ∧ kFu f g = f n := by
  cases g <;> first | exact ⟨_, rfl, rfl⟩ | exact absurd rfl h
def kNi (l : List FV) (s : FR) : FR := List.rec (motive := fun _ => FR) s (fun _ _ _ => .bad) l
theorem kNi_cases {l : List FV} {s : FR} (h : kNi l s ≠ .bad) : l = [] ∧ kNi l s = s := by
  cases l
  · exact ⟨rfl, rfl⟩
  · exact absurd rfl h
def kCe (f : List FV → FR) (ob : FObj) : FR := FObj.rec (motive := fun _ => FR) .bad (fun l _ _ => f l) (fun _ _ _ => .bad) (fun _ _ _ _ => .bad) (fun _ => .bad) .bad ob
theorem kCe_cases {f : List FV → FR} {ob : FObj} (h : kCe f ob ≠ .bad) : ∃ l e t, ob = .cells l e t ∧ kCe f ob = f l := by
  cases ob <;> first | exact ⟨_, _, _, rfl, rfl⟩ | exact absurd rfl h
def srMQ (σ : FH) (m : Nat) (k : KV) : FR := gM σ m (kMp fun l => keysK l fun cs => srtQ cs σ k)
def srQ (l : List FV) (σ : FH) (k : KV) : FR := k1L l (kFn fun g a c => kFu (fun q => gB (Nat.beq q 65 || Nat.beq q 65) (kNi a (k1L c (kP fun b o => gM σ b (kCe fun l => nthK l o (kM fun m => srMQ σ m k)))))) g)
theorem srMQ_sm (σ : FH) (m : Nat) (k : KV) : Sm (srMQ σ m k) k (srtM (αH σ) m) := by
  intro h
  unfold srMQ at h ⊢
  obtain ⟨ob, _, h3, h4⟩ := gM_cases h
  rw [h4] at h ⊢
  obtain ⟨l, rfl, h5⟩ := kMp_cases h
  rw [h5] at h ⊢
  obtain ⟨cs, h6, h7⟩ := keysK_cases h
  rw [h7] at h ⊢
  obtain ⟨v, σ', h8, h9⟩ := srtQ_sm cs σ k h
  refine ⟨v, σ', ?_, h9⟩
  unfold srtM
  rw [h3]
  simp only [αO, h6]
  exact h8
theorem srQ_sm (l : List FV) (σ : FH) (k : KV) : Sm (srQ l σ k) k (srtA (αL l) (αH σ)) := by
  intro h
  unfold srQ at h ⊢
  obtain ⟨x, rfl, h1⟩ := k1L_cases h
  rw [h1] at h ⊢
  obtain ⟨g, a, c, rfl, h2⟩ := kFn_cases h
  rw [h2] at h ⊢
  obtain ⟨q, rfl, h3⟩ := kFu_cases h
  rw [h3] at h ⊢
  rw [gB_eq] at h ⊢
  cases hq : Nat.beq q 65 || Nat.beq q 65 <;> rw [hq] at h
  · exact absurd rfl h
  rw [cond_true] at h ⊢
  obtain ⟨rfl, h4⟩ := kNi_cases h
  rw [h4] at h ⊢
  obtain ⟨y, rfl, h5⟩ := k1L_cases h
  rw [h5] at h ⊢
  obtain ⟨b, o, rfl, h6⟩ := kP_cases h
  rw [h6] at h ⊢
  obtain ⟨ob, _, h7, h8⟩ := gM_cases h
  rw [h8] at h ⊢
  obtain ⟨l, e, t, rfl, h9⟩ := kCe_cases h
  rw [h9] at h ⊢
  rw [nthK_eq] at h ⊢
  cases hl : l[o]? <;> rw [hl] at h
  · exact absurd rfl h
  rename_i v
  have h : kM (fun m => srMQ σ m k) v ≠ .bad := h
  show ∃ w σ', _ ∧ kM (fun m => srMQ σ m k) v = k w σ'
  obtain ⟨m, rfl, h10⟩ := kM_cases h
  rw [h10] at h ⊢
  obtain ⟨v, σ', h11, h12⟩ := srMQ_sm σ m k h
  refine ⟨v, σ', ?_, h12⟩
  rw [← h11]
  simp only [αL, αV, srtA, hq, h7, Option.bind_some, αO, AObj.at, αL_map, List.getElem?_map, hl, Option.map_some, cond_true]
end
end Go.Proofs.YtjoakhpdajlhiaaDoor.V2
