/- Part 10 of the proof: texts of the proof. -/
import Derived.Test.YtjoakhpdajlhiaaDoorQP9
import Derived.Test.YtjoakhpdajlhiaaDoorCards
import Derived.Test.YtjoakhpdajlhiaaDoorTie
import Derived.LaidMore
import Derived.ProofKit
import Derived.OpenShut
import Derived.Carry
import Derived.Deep.DeepHandedRow
import Derived.Deep.Strs
import Derived.Deep.Matrix
import Derived.Lib.LaidTab
import Derived.Stop.LaidErr
namespace Go.Proofs.YtjoakhpdajlhiaaDoor.V2.S
open Go
set_option linter.unusedVariables false
set_option maxRecDepth 100000
open Go.RowKit
def Sc : AV → Bool
  | .int _ _ => true
  | .str _ => true
  | _ => false
def vO : AV → Value
  | .int k n => .int k n
  | .str l => .string ⟨l.toArray⟩
  | _ => .bool false
theorem Sc.vr {ρ : Ren} {a : AV} (h : Sc a = true) : VR ρ a (vO a) := by
  cases a <;> first | (cases h; done) | (unfold VR; rfl)
def RowV (w : World) (v : Value) (z n : Nat) (L : List AV) : Prop := L.length = n * z ∧ (∀ a ∈ L, Sc a = true) ∧ ((v = .slice none 0 0 ∧ n = 0) ∨ ∃ b off c, v = .slice (some ⟨b, off, none⟩) n c ∧ n ≤ c ∧ b < w.heap.size ∧ ∀ i a, L[i]? = some a → w.cell? ⟨b, off + i, none⟩ = some (vO a))
theorem or_row {ρ : Ren} {w : World} {b off D : Nat} {L : List AV} {e : TypeId} (hD : L.length + off ≤ D) (hsc : ∀ a ∈ L, Sc a = true) (h : ∀ i a, L[i]? = some a → w.cell? ⟨b, off + i, none⟩ = some (vO a)) : OR ρ (off, D) (.cells L e .ro) w.heap[b]? := ⟨fun _ => by
  refine ⟨hD, fun hl => ?_⟩
  have hl : 0 < L.length := hl rfl
  have h0 : ∀ i (hi : i < L.length), w.cell? ⟨b, off + i, none⟩ = some (vO L[i]) := fun i hi => h i _ (List.getElem?_eq_getElem hi)
  obtain ⟨c, t, fr, hb, _⟩ := cell_row (h0 0 hl)
  have hat : ∀ i (hi : i < L.length), c[i + off]? = some (vO L[i]) := fun i hi => by
    obtain ⟨c', t', fr', hb', hc⟩ := cell_row (h0 i hi)
    rw [hb] at hb'; cases hb'
    rw [Nat.add_comm]; exact hc
  refine ⟨c, t, fr, hb, (fun hh => by cases hh), ?_, hD, fun i a hi => ?_⟩
  · have := (Array.getElem?_eq_some_iff.1 (hat (L.length - 1) (by omega))).1
    show L.length + off ≤ c.size
    omega
  · have hi : L[i]? = some a := hi
    have hil := (List.getElem?_eq_some_iff.1 hi).1
    have ha := (List.getElem?_eq_some_iff.1 hi).2
    refine ⟨_, hat i hil, ?_⟩
    rw [ha]
    exact Sc.vr (hsc a (List.mem_of_getElem? hi)), fun l e => by cases e⟩
def gE : AObj := .cells [] 0 .ro
def memF (os : List AObj) : List AObj := gE :: gE :: gE :: os
def rF (rs : List (Option (Nat × (Nat × Nat)))) : List (Option (Nat × (Nat × Nat))) := some (0, (0, 0)) :: some (1, (0, 0)) :: some (2, (0, 0)) :: rs
noncomputable def sF (os : List AObj) : T FObj := (hL (memF os)).mem.map βO
theorem sF_am {os : List AObj} (hl : os.length ≤ 900000) {i : Nat} {o : AObj} (h : os[i]? = some o) : Am (sF os) (3 + i) (βO o) := by
  unfold Am
  show ((hL (memF os)).mem.map βO).get (3 + i) = _
  rw [T.map_get]
  have := hL_get (l := memF os) (by show os.length + 1 + 1 + 1 ≤ _; omega) (3 + i)
  show ((hL (memF os)).get (3 + i)).map βO = _
  rw [this, show 3 + i = i + 1 + 1 + 1 by omega]
  show (os[i]?).map βO = _
  rw [h]; rfl
theorem rF_glob (rs : List (Option (Nat × (Nat × Nat)))) : ∀ g, g < 3 → ∃ s, rL (rF rs) g = some (g, (0, s)) := fun g hg => by
  match g, hg with
  | 0, _ => exact ⟨0, rfl⟩
  | 1, _ => exact ⟨0, rfl⟩
  | 2, _ => exact ⟨0, rfl⟩
theorem memF_sh {os : List AObj} (h : ∀ o ∈ os, o.isSh = true) : ∀ o ∈ memF os, o.isSh = true := fun o ho => by
  unfold memF at ho
  simp only [List.mem_cons] at ho
  rcases ho with rfl | rfl | rfl | ho
  · rfl
  · rfl
  · rfl
  · exact h o ho
theorem hrF {w : World} (hs : 3 ≤ w.heap.size) {os : List AObj} {rs : List (Option (Nat × (Nat × Nat)))} (hl : os.length ≤ 900000) (hlen : rs.length = os.length) (hsh : ∀ o ∈ os, o.isSh = true)
    (h : ∀ (i c : Nat) (d : Nat × Nat) (o : AObj), rs[i]? = some (some (c, d)) → os[i]? = some o → c < w.heap.size ∧ ∀ ρ, OR ρ d o w.heap[c]?) : HR (rL (rF rs)) (hL (memF os)) w := by
  have hg : ∀ ρ g, OR ρ (0, 0) gE w.heap[g]? := fun ρ g => or_row (by show 0 + 0 ≤ 0; omega) (fun a ha => absurd ha List.not_mem_nil) fun i a hi => by simp at hi
  refine hr_ro (by show os.length + 1 + 1 + 1 ≤ _; omega) (by show rs.length + 1 + 1 + 1 = os.length + 1 + 1 + 1; omega) (memF_sh hsh) fun b c d o hb ho => ?_
  match b with
  | 0 => cases hb; cases ho; exact ⟨by omega, hg _ _⟩
  | 1 => cases hb; cases ho; exact ⟨by omega, hg _ _⟩
  | 2 => cases hb; cases ho; exact ⟨by omega, hg _ _⟩
  | i + 3 =>
    obtain ⟨h1, h2⟩ := h i c d o hb ho
    exact ⟨h1, h2 _⟩
def reF : Value → Nat → Option (Nat × (Nat × Nat))
  | .slice (some a) _ c, z => some (a.block, (a.off, a.off + c * z))
  | _, _ => none
def fvF (v : Value) (b z n : Nat) : FV := match v with
  | .slice (some _) _ _ => .sl b 0 n n false z
  | _ => .o .sl
theorem RowV.or {w : World} {v : Value} {z n : Nat} {L : List AV} {e : TypeId} (h : RowV w v z n L) (c : Nat) (d : Nat × Nat) (hr : reF v z = some (c, d)) : c < w.heap.size ∧ ∀ ρ, OR ρ d (.cells L e .ro) w.heap[c]? := by
  obtain ⟨h1, h2, h3⟩ := h
  rcases h3 with ⟨rfl, _⟩ | ⟨b, off, cc, rfl, hc, hb, h4⟩
  · cases hr
  · cases hr
    exact ⟨hb, fun ρ => or_row (by rw [h1]; have := Nat.mul_le_mul_right z hc; omega) h2 h4⟩
theorem RowV.vr {w : World} {v : Value} {z n : Nat} {L : List AV} {ρ : Ren} {b : Nat} (h : RowV w v z n L) (hr : ρ b = reF v z) : VR ρ (αV (fvF v b z n)) v := by
  obtain ⟨h1, h2, h3⟩ := h
  rcases h3 with ⟨rfl, _⟩ | ⟨b', off, cc, rfl, hc, hb, h4⟩
  · rfl
  · show VR ρ (.sl b 0 n n false z) _
    unfold VR
    exact .inl ⟨b', (off, off + cc * z), off, cc, hr, rfl, fun _ => by simp, Nat.le_refl _, hc, (fun h => by cases h), Nat.le_refl _⟩
def aA (a : Ac) : List AV := [.int .i64 a.w, .str a.p, .str a.d, .int .u16 a.m]
def aAs (l : List Ac) : List AV := l.flatMap aA
theorem aAs_len : ∀ l : List Ac, (aAs l).length = l.length * 4
  | [] => rfl
  | a :: l => by
    show (aA a ++ aAs l).length = _
    rw [List.length_append, aAs_len l, List.length_cons]; show 4 + _ = _; omega
theorem βL_app : ∀ a b : List AV, βL (a ++ b) = βL a ++ βL b
  | [], b => rfl
  | x :: a, b => by
    show βV x :: βL (a ++ b) = βV x :: βL a ++ βL b
    rw [βL_app a b]; rfl
theorem aA_β (a : Ac) : βL (aA a) = acV a := by
  rcases a with ⟨w | w, p, d, m⟩ <;> rfl
theorem aAs_β : ∀ l : List Ac, βL (aAs l) = acs l
  | [] => rfl
  | a :: l => by
    show βL (aA a ++ aAs l) = acV a ++ acs l
    rw [βL_app, aA_β, aAs_β l]
theorem aAs_sc (l : List Ac) : ∀ a ∈ aAs l, Sc a = true := fun a ha => by
  unfold aAs at ha
  obtain ⟨x, _, hx⟩ := List.mem_flatMap.1 ha
  simp only [aA, List.mem_cons, List.not_mem_nil, or_false] at hx
  rcases hx with rfl | rfl | rfl | rfl <;> rfl
theorem aAs_at : ∀ (l : List Ac) (k j : Nat) (a : Ac), l[k]? = some a → j < 4 → (aAs l)[k * 4 + j]? = (aA a)[j]?
  | [], k, j, a, h, _ => by simp at h
  | b :: l, 0, j, a, h, hj => by
    simp at h; subst h
    show (aA b ++ aAs l)[0 * 4 + j]? = _
    rw [Nat.zero_mul, Nat.zero_add, List.getElem?_append_left (by show j < 4; exact hj)]
  | b :: l, k + 1, j, a, h, hj => by
    have h' : l[k]? = some a := by simpa using h
    show (aA b ++ aAs l)[(k + 1) * 4 + j]? = _
    rw [List.getElem?_append_right (by show 4 ≤ _; omega), show (k + 1) * 4 + j - (aA b).length = k * 4 + j by show _ - 4 = _; omega]
    exact aAs_at l k j a h' hj
def sA (l : List Bs) : List AV := l.map .str
theorem sA_len (l : List Bs) : (sA l).length = l.length * 1 := by unfold sA; rw [List.length_map, Nat.mul_one]
theorem sA_β : ∀ l : List Bs, βL (sA l) = vsL l
  | [] => rfl
  | a :: l => by
    show βV (.str a) :: βL (sA l) = _
    rw [sA_β l]; rfl
theorem sA_sc (l : List Bs) : ∀ a ∈ sA l, Sc a = true := fun a ha => by
  unfold sA at ha
  obtain ⟨x, _, hx⟩ := List.mem_map.1 ha
  subst hx; rfl
theorem rowA_of {w : World} {v : Value} {os : List AObj} {l : List Ac} {i : Nat} {e : TypeId} (hl : os.length ≤ 900000) (h : RowV w v 4 l.length (aAs l)) (ho : os[i]? = some (.cells (aAs l) e .ro)) : RowA (sF os) (3 + os.length) (fvF v (3 + i) 4 l.length) l := by
  have ha := sF_am hl ho
  have hi := (List.getElem?_eq_some_iff.1 ho).1
  rw [show βO (.cells (aAs l) e .ro) = .cells (βL (aAs l)) e .ro from rfl, aAs_β] at ha
  obtain ⟨h1, h2, h3⟩ := h
  rcases h3 with ⟨rfl, h0⟩ | ⟨b', off, cc, rfl, hc, hb, h4⟩
  · exact .inl ⟨List.length_eq_zero_iff.1 h0, rfl⟩
  · exact .inr ⟨3 + i, _, _, _, _, rfl, by omega, ha⟩
end Go.Proofs.YtjoakhpdajlhiaaDoor.V2.S
namespace Go.Proofs.YtjoakhpdajlhiaaDoor
open Go.ChangeShapes Go.WideShapes Go.ChangeAt Go.RowKit
section
variable {H : Type} {enc : TypeId × Value → H} {P : Program}
theorem trodAll_stays (hl : laidOutB P = true) {W W' : World} {sp' : Nat → Bool} : ∀ {ts : List TypeId} {vs : List Value} {ds : List (DataW H)} {ps : List MemPlace}, (∀ t ∈ ts, P.readableRec t = true ∧ t < P.types.size) →
    DataW.TrodAll enc P W 0 (fun _ => true) true ts vs ds ps → (∀ p ∈ ps, W.sameAt W' p) → (∀ p ∈ ps, sp' p.block = true) → DataW.TrodAll enc P W' 0 sp' true ts vs ds ps
  | [], _, _, _, _, h, _, _ => by
    obtain ⟨rfl, rfl, rfl⟩ := trodAll_nil h
    exact trodAll_mk0
  | t :: ts, _, _, _, ht, h, h1, h2 => by
    obtain ⟨v, vs1, d, ds1, a, b, rfl, rfl, rfl, ha, hb⟩ := trodAll_cons h
    exact trodAll_cons_mk (WideElems.Trod_stays hl (ht t (by simp)).1 (ht t (by simp)).2 ha (fun p hp => h1 p (by simp [hp])) (fun p hp => h2 p (by simp [hp])))
      (trodAll_stays hl (fun t' h' => ht t' (by simp [h'])) hb (fun p hp => h1 p (by simp [hp])) (fun p hp => h2 p (by simp [hp])))
theorem post_of_below {f : Func} {s : ChangeSpec} {apart fresh handsOn again : Bool} {W W' : World} {args : Array Value} {v : Value} {ds gs : List (DataW H)} {before : List MemPlace}
    (hW : DataW.Whole enc P f.params.toList s.vars apart W args.toList ds gs before) (hl : laidOutB P = true) (hsv : s.vars = []) (hts : ∀ t ∈ f.params.toList, P.readableRec t = true ∧ t < P.types.size)
    (hb : Below W.heap.size W W') (ha : (s.fn H (ds ++ gs)).args = ds) (hgv : (s.fn H (ds ++ gs)).vars = [])
    (hres : ∀ (b : Nat) (sp : Nat → Bool) (hd : Bool), DataW.TrodAll enc P W' b sp hd f.resultTypes.toList (v.resultList f.resultTypes.size) (s.fn H (ds ++ gs)).results [])
    (hok : ∀ (j : Nat) (t : TypeId) (r : Value), f.resultTypes[j]? = some t → (v.resultList f.resultTypes.size)[j]? = some r → Value.okWide P W' .any 0 t r) :
    s.post enc P f apart fresh handsOn again W args v W' := by
  have hlt := hW.lt
  have hW0 := hW
  obtain ⟨p, q, hA0, hV, rfl, hz, hn⟩ := hW
  have hA : DataW.TrodAll enc P W 0 (fun _ => true) true f.params.toList args.toList ds p := hA0
  rw [hsv] at hV
  obtain ⟨rfl, rfl⟩ := trodVars_none hV
  rw [List.append_nil] at hlt hz hn
  have hs : ∀ x ∈ p, W.sameAt W' x := fun x hx => hb.same (hlt x hx)
  have hargs : ∀ sp : Nat → Bool, (∀ x ∈ p, sp x.block = true) → DataW.TrodAll enc P W' 0 sp true f.params.toList args.toList (s.fn H (ds ++ [])).args p := fun sp hsp => by
    rw [ha]; exact trodAll_stays hl hts hA hs hsp
  have hvars : ∀ sp : Nat → Bool, DataW.TrodVars enc P W' sp s.vars (s.fn H (ds ++ [])).vars [] := fun sp => by rw [hgv, hsv]; rfl
  have hold : ∀ x ∈ p, (fun b => decide (b < W.heap.size)) x.block = true := fun x hx => by simpa using hlt x hx
  refine ⟨ds, [], p ++ [], [], p, [], hW0, hres _ _ _, hargs _ hold, hvars _, ?_, fun _ => ?_⟩
  · exact hb.frame _
  · refine ⟨hok, _, _, ([] ++ p) ++ [], ⟨[] ++ p, [], trodAll_append (hargs _ (fun _ _ => rfl)) (hres _ _ _), hvars _, rfl, ?_, ?_⟩, ?_⟩
    · intro b off hp
      simp only [List.nil_append, List.append_nil] at hp
      rw [hb.frozen (hlt _ hp)]
      exact hz b off hp
    · intro h'
      simpa using hn h'
    · intro x hx _
      simpa using hx
end
theorem laidOut : laidOutB Tryd.prog = true := by kernel_rfl
theorem own : ownKnob Tryd.prog.godebug = none := by kernel_rfl
theorem gAcc : Tryd.prog.globalNamed "unicode/utf8.acceptRanges" = some 2 := by kernel_rfl
theorem size3 {W : World} {data : DataW Unit} {rest : List (String × DataW Unit)} (h : laidMet Tryd.prog (("unicode/utf8.acceptRanges", data) :: rest) W) : 3 ≤ W.heap.size := by
  obtain ⟨ps, ⟨g, t, cs, fuel, p, q, hg, _, hv, _⟩, _⟩ := h
  obtain rfl := Option.some.inj (gAcc.symm.trans hg)
  unfold World.var? at hv
  rw [gAcc, Option.bind_some] at hv
  split at hv
  · rename_i hh; have := (Array.getElem?_eq_some_iff.1 hh).1; omega
  · cases hv
mutual
def cellsD : DataW Unit → List Value
  | .lit (.int k n) => [.int k n]
  | .agg l => cellsDs l
  | _ => []
def cellsDs : List (DataW Unit) → List Value
  | [] => []
  | d :: l => cellsD d ++ cellsDs l
end
theorem add_none {a : Addr} (h : a.spot = none) (j : Nat) : a.add j = ⟨a.block, a.off + j, none⟩ := by
  obtain ⟨b, o, sp⟩ := a
  cases h
  unfold Addr.add; split <;> simp_all
theorem cellsAC : Tryd.prog.cellsOf 25 = 4 := by kernel_rfl
theorem cellsIN : Tryd.prog.cellsOf 3 = 1 := by kernel_rfl
theorem cellsST : Tryd.prog.cellsOf 9 = 1 := by kernel_rfl
theorem cellsU6 : Tryd.prog.cellsOf 23 = 1 := by kernel_rfl
theorem str_of (s : ByteArray) : Value.string s = V2.S.vO (.str s.data.toList) := by
  show Value.string s = Value.string ⟨s.data.toList.toArray⟩
  rw [Array.toArray_toList]
set_option maxRecDepth 100000 in
theorem open_act {H : Type} {enc : TypeId × Value → H} {W : World} {base n : Nat} {cs : List Value} {x : DataW H × List MemPlace} (h : DataW.trod enc Tryd.prog W base (fun _ => true) true n 25 cs = some x) :
    ∃ a : V2.S.Ac, cs = (V2.S.aA a).map V2.S.vO ∧ a.m ≤ 65535 := by
  obtain ⟨xs, m, hcs, _, hlen, hxl, hf⟩ := DataW.trod_struct Tryd.underlying25 h
  rw [cellsAC] at hlen
  obtain ⟨a0, a1, a2, a3, rfl⟩ : ∃ a0 a1 a2 a3, cs = [a0, a1, a2, a3] := by
    match cs, hlen with
    | [a0, a1, a2, a3], _ => exact ⟨a0, a1, a2, a3, rfl⟩
  have x0 : DataW.trod enc Tryd.prog W base (fun _ => true) true m 3 (([a0, a1, a2, a3].drop 0).take (Tryd.prog.cellsOf 3)) = xs[0]? := hf 0 _ rfl
  rw [cellsIN, List.getElem?_eq_getElem (by rw [hxl]; decide)] at x0
  have x1 : DataW.trod enc Tryd.prog W base (fun _ => true) true m 9 (([a0, a1, a2, a3].drop 1).take (Tryd.prog.cellsOf 9)) = xs[1]? := hf 1 _ rfl
  rw [cellsST, List.getElem?_eq_getElem (by rw [hxl]; decide)] at x1
  have x2 : DataW.trod enc Tryd.prog W base (fun _ => true) true m 9 (([a0, a1, a2, a3].drop 2).take (Tryd.prog.cellsOf 9)) = xs[2]? := hf 2 _ rfl
  rw [cellsST, List.getElem?_eq_getElem (by rw [hxl]; decide)] at x2
  have x3 : DataW.trod enc Tryd.prog W base (fun _ => true) true m 23 (([a0, a1, a2, a3].drop 3).take (Tryd.prog.cellsOf 23)) = xs[3]? := hf 3 _ rfl
  rw [cellsU6, List.getElem?_eq_getElem (by rw [hxl]; decide)] at x3
  obtain ⟨z0, e0, _, _⟩ := DataW.trod_int Tryd.underlying3 x0
  obtain ⟨s1, e1, _, _⟩ := DataW.trod_string Tryd.underlying9 x1
  obtain ⟨s2, e2, _, _⟩ := DataW.trod_string Tryd.underlying9 x2
  obtain ⟨z3, e3, _, w3⟩ := DataW.trod_int Tryd.underlying23 x3
  have e0 : [a0] = [Value.int .i64 z0] := e0
  have e1 : [a1] = [Value.string s1] := e1
  have e2 : [a2] = [Value.string s2] := e2
  have e3 : [a3] = [Value.int .u16 z3] := e3
  cases e0; cases e1; cases e2; cases e3
  have hz : (0 : Int) ≤ z3 ∧ z3 ≤ 65535 := by
    simp only [Lit.wf, Bool.and_eq_true, decide_eq_true_eq] at w3
    exact w3
  refine ⟨⟨z0, s1.data.toList, s2.data.toList, z3.toNat⟩, ?_, by show z3.toNat ≤ 65535; omega⟩
  rw [str_of s1, str_of s2]
  show _ = [Value.int .i64 z0, V2.S.vO (.str s1.data.toList), V2.S.vO (.str s2.data.toList), Value.int .u16 (Int.ofNat z3.toNat)]
  rw [show (Int.ofNat z3.toNat) = z3 by show ((z3.toNat : Nat) : Int) = z3; exact Int.toNat_of_nonneg hz.1]
instance : Inhabited V2.S.Ac := ⟨⟨0, [], [], 0⟩⟩
set_option maxRecDepth 100000 in
theorem open_acts {H : Type} {enc : TypeId × Value → H} {W : World} {v : Value} {d : DataW H} {p : List MemPlace} {r : Reach} {base : Nat} (hv : Value.okWide Tryd.prog W r base 22 v) (h : DataW.Trod enc Tryd.prog W 0 (fun _ => true) true 22 v d p) :
    ∃ l : List V2.S.Ac, V2.S.RowV W v 4 l.length (V2.S.aAs l) ∧ ∀ a ∈ l, a.m ≤ 65535 := by
  have hv0 := hv
  obtain ⟨A, L, C, rfl⟩ := okWide_slice Tryd.underlying22 hv
  obtain ⟨n, h⟩ := h
  rcases Deep.open_slice Tryd.underlying22 h with ⟨e, _⟩ | ⟨a, len, cap, m, n2, D, Pl, e, _, hl, hm, hmm, _, hx⟩
  · obtain ⟨rfl, rfl, rfl⟩ : A = none ∧ L = 0 ∧ C = 0 := by simpa [Value.cells] using e
    exact ⟨[], ⟨rfl, fun a ha => absurd ha List.not_mem_nil, .inl ⟨rfl, rfl⟩⟩, fun a ha => absurd ha List.not_mem_nil⟩
  · obtain ⟨rfl, rfl, rfl⟩ : A = some a ∧ L = len ∧ C = cap := by simpa [Value.cells] using e
    obtain ⟨hs, hb⟩ : a.spot = none ∧ a.block < W.heap.size := by
      simp only [Value.okWide, Tryd.underlying22, Cell.okWide, Cell.ok] at hv0
      obtain ⟨_, _, _, hsp, row, cells, hsh, _⟩ := hv0
      refine ⟨hsp, ?_⟩
      unfold World.shape? at hsh
      split at hsh
      · rename_i hh; exact (Array.getElem?_eq_some_iff.1 hh).1
      · cases hsh
    simp only [if_true] at hmm
    rw [cellsAC] at hx
    have each : ∀ i, i < L → ∃ x : V2.S.Ac, (∀ j, j < 4 → W.cell? ⟨a.block, a.off + (i * 4 + j), none⟩ = ((V2.S.aA x).map V2.S.vO)[j]?) ∧ x.m ≤ 65535 := fun i hi => by
      obtain ⟨cs', h1, h2⟩ := hx i (by omega)
      obtain ⟨x, rfl, hx2⟩ := open_act h2
      refine ⟨x, fun j hj => ?_, hx2⟩
      have := (World.cells?_some h1).2.2 j hj
      rw [add_none hs, add_none rfl] at this
      rw [← this]
      show W.cell? ⟨a.block, a.off + (i * 4 + j), none⟩ = W.cell? ⟨a.block, a.off + i * 4 + j, none⟩
      rw [Nat.add_assoc]
    obtain ⟨f, hf⟩ := Deep.choose_lt each
    have hlen : ((List.range L).map f).length = L := by simp
    refine ⟨(List.range L).map f, ⟨V2.S.aAs_len _, V2.S.aAs_sc _, .inr ⟨a.block, a.off, C, ?_, by rw [hlen]; exact hl, hb, fun i x hi => ?_⟩⟩, fun x hx => ?_⟩
    · rw [hlen]; obtain ⟨b, o, sp⟩ := a; cases hs; rfl
    · have hi' := (List.getElem?_eq_some_iff.1 hi).1
      rw [V2.S.aAs_len, hlen] at hi'
      have hk : i / 4 < L := by omega
      have hg : ((List.range L).map f)[i / 4]? = some (f (i / 4)) := by simp [hk]
      have h3 := V2.S.aAs_at _ (i / 4) (i % 4) _ hg (by omega)
      rw [show i / 4 * 4 + i % 4 = i by omega, hi] at h3
      have h4 := (hf (i / 4) hk).1 (i % 4) (by omega)
      rw [show i / 4 * 4 + i % 4 = i by omega, List.getElem?_map, ← h3] at h4
      exact h4
    · obtain ⟨i, hi, rfl⟩ := List.mem_map.1 hx
      exact (hf i (by simpa using hi)).2
set_option maxRecDepth 100000 in
theorem open_names {H : Type} {enc : TypeId × Value → H} {W : World} {v : Value} {d : DataW H} {p : List MemPlace} {r : Reach} {base : Nat} (hv : Value.okWide Tryd.prog W r base 56 v) (h : DataW.Trod enc Tryd.prog W 0 (fun _ => true) true 56 v d p) :
    ∃ ns : List V2.S.Bs, V2.S.RowV W v 1 ns.length (V2.S.sA ns) := by
  have hv0 := hv
  obtain ⟨A, L, C, rfl⟩ := okWide_slice Tryd.underlying56 hv
  obtain ⟨n, h⟩ := h
  rcases Deep.open_strs Tryd.underlying56 Tryd.underlying9 cellsST h with ⟨e, _⟩ | ⟨a, len, cap, m, Sx, e, _, hl, hm, hmm, _, hx⟩
  · obtain ⟨rfl, rfl, rfl⟩ : A = none ∧ L = 0 ∧ C = 0 := by simpa [Value.cells] using e
    exact ⟨[], ⟨rfl, fun a ha => absurd ha List.not_mem_nil, .inl ⟨rfl, rfl⟩⟩⟩
  · obtain ⟨rfl, rfl, rfl⟩ : A = some a ∧ L = len ∧ C = cap := by simpa [Value.cells] using e
    obtain ⟨hs, hb⟩ : a.spot = none ∧ a.block < W.heap.size := by
      simp only [Value.okWide, Tryd.underlying56, Cell.okWide, Cell.ok] at hv0
      obtain ⟨_, _, _, hsp, row, cells, hsh, _⟩ := hv0
      refine ⟨hsp, ?_⟩
      unfold World.shape? at hsh
      split at hsh
      · rename_i hh; exact (Array.getElem?_eq_some_iff.1 hh).1
      · cases hsh
    simp only [if_true] at hmm
    have hlen : ((List.range L).map fun i => (Sx i).data.toList).length = L := by simp
    refine ⟨(List.range L).map fun i => (Sx i).data.toList, ⟨V2.S.sA_len _, V2.S.sA_sc _, .inr ⟨a.block, a.off, C, ?_, by rw [hlen]; exact hl, hb, fun i x hi => ?_⟩⟩⟩
    · rw [hlen]; obtain ⟨b, o, sp⟩ := a; cases hs; rfl
    · have hi' := (List.getElem?_eq_some_iff.1 hi).1
      rw [V2.S.sA_len, hlen, Nat.mul_one] at hi'
      have h1 := (hx i (by omega)).1
      rw [add_none hs] at h1
      rw [h1, str_of]
      have : (V2.S.sA ((List.range L).map fun i => (Sx i).data.toList))[i]? = some (.str (Sx i).data.toList) := by unfold V2.S.sA; simp [hi']
      rw [this] at hi
      cases hi; rfl
end Go.Proofs.YtjoakhpdajlhiaaDoor
namespace Go.Proofs.YtjoakhpdajlhiaaDoor.V2.S
open Go
def insB (x : Bs) : List Bs → List Bs
  | [] => [x]
  | y :: l => if y < x then y :: insB x l else x :: y :: l
def sortB : List Bs → List Bs
  | [] => []
  | x :: l => insB x (sortB l)
def insE (x : En) : List En → List En
  | [] => [x]
  | y :: l => if y.path < x.path then y :: insE x l else x :: y :: l
def sortE : List En → List En
  | [] => []
  | x :: l => insE x (sortE l)
theorem insE_map (x : En) : ∀ l : List En, (insE x l).map En.path = insB x.path (l.map En.path)
  | [] => rfl
  | y :: l => by
    unfold insE
    rw [List.map_cons, insB]
    split
    · rw [List.map_cons, insE_map x l]
    · rfl
theorem sortE_map : ∀ l : List En, (sortE l).map En.path = sortB (l.map En.path)
  | [] => rfl
  | x :: l => by rw [sortE, insE_map, sortE_map l]; rfl
theorem insE_perm (x : En) : ∀ l : List En, (insE x l).Perm (x :: l)
  | [] => .refl _
  | y :: l => by
    unfold insE
    split
    · exact (List.Perm.cons y (insE_perm x l)).trans (List.Perm.swap x y l)
    · exact .refl _
theorem sortE_perm : ∀ l : List En, (sortE l).Perm l
  | [] => .refl _
  | x :: l => (insE_perm x (sortE l)).trans (List.Perm.cons x (sortE_perm l))
theorem sortE_len (l : List En) : (sortE l).length = l.length := (sortE_perm l).length_eq
theorem sizesG_perm {l l' : List En} (h : l.Perm l') : sizesG l = sizesG l' := by
  induction h with
  | nil => rfl
  | cons x _ ih => simp only [sizesG, ih]
  | swap x y l => simp only [sizesG]; omega
  | trans _ _ h1 h2 => exact h1.trans h2
theorem look_mem : ∀ {L : List En} {e : En}, (L.map En.path).Nodup → e ∈ L → lookM En.path e.path L = some e
  | [], e, _, h => absurd h List.not_mem_nil
  | b :: L, e, hn, h => by
    rw [List.map_cons, List.nodup_cons] at hn
    unfold lookM
    rcases List.mem_cons.1 h with h | h
    · subst h; rw [if_pos rfl]
    · rw [if_neg, look_mem hn.2 h]
      intro hb
      exact hn.1 (by rw [hb]; exact List.mem_map_of_mem h)
theorem sortE_at {L : List En} {i : Nat} {e : En} (hn : (L.map En.path).Nodup) (h : (sortE L)[i]? = some e) : lookM En.path e.path L = some e := look_mem hn ((sortE_perm L).mem_iff.1 (List.mem_of_getElem? h))
theorem sortB_at {L : List En} {i : Nat} {e : En} (h : (sortE L)[i]? = some e) : (sortB (L.map En.path))[i]? = some e.path := by rw [← sortE_map, List.getElem?_map, h]; rfl
theorem sortB_len (L : List En) : (sortB (L.map En.path)).length = L.length := by rw [← sortE_map, List.length_map, sortE_len]
theorem sizesG_take : ∀ {l : List En} {i : Nat} {e : En}, l[i]? = some e → sizesG (l.take (i + 1)) = sizesG (l.take i) + (e.path.length + e.data.length)
  | [], i, e, h => by simp at h
  | b :: l, 0, e, h => by
    simp at h; subst h
    simp [sizesG]
  | b :: l, i + 1, e, h => by
    have h : l[i]? = some e := by simpa using h
    have := sizesG_take h
    simp only [List.take_succ_cons, sizesG, this]; omega
theorem sizesG_le_take : ∀ (l : List En) (i : Nat), sizesG (l.take i) ≤ sizesG l
  | [], i => by simp [sizesG]
  | b :: l, 0 => by simp [sizesG]
  | b :: l, i + 1 => by
    have := sizesG_le_take l i
    simp only [List.take_succ_cons, sizesG]; omega
end Go.Proofs.YtjoakhpdajlhiaaDoor.V2.S
namespace Go.Proofs.YtjoakhpdajlhiaaDoor.V2.S
open Go
set_option maxRecDepth 100000
set_option maxHeartbeats 4000000
set_option linter.unusedVariables false
attribute [local irreducible] fN fO nM gM pM Phi.fn Phi.yl Phi.up mp bl bpart bapp top1 pack
def KeysS (Φ : Phi) : Prop := ∀ {mb : Nat} {L : List En} {n : Nat} {m : T FObj}, Am m mb (.map (L.map fun a => (.s (pack (En.path a)), entV a))) → mb < n → (L.map En.path).Nodup → L.length ≤ 1000 → (∀ e ∈ L, e.path.length ≤ 1000000) → ∀ (k : KV) (P : FR), n + 2 ≤ 1000000 →
  (∀ v n' m', n ≤ n' → n' ≤ n + 2 → Kp n m m' → (L = [] → v = .o .sl) → (L ≠ [] → ∃ b, v = .sl b 0 L.length L.length false 1 ∧ n ≤ b ∧ b < n' ∧ Am m' b (.cells (vsL (sortB (L.map En.path))) 9 .more)) → k v ⟨n', m'⟩ = P) → Phi.fn Φ 30 [.m mb] ⟨n, m⟩ (fun v σ => Phi.fn Φ 29 [v] σ k) = P
def WalkS (H : HF) (y : Nat) (Y : HF) : Prop := ∀ {tb mb : Nat} {t : Tr} {n : Nat} {m : T FObj} (c : Nat) (xs : List Nat) (I : Nat → T FObj → Prop), TreeAt m tb mb 65 t → tb < n → mb < n → WfT t → (∀ x ∈ xs, x < n) → (∀ x ∈ xs, tb ≠ x) → (∀ x ∈ xs, mb ≠ x) → (∀ i n1 m1 m2, n ≤ n1 → Kp n1 m1 m2 → I i m1 → I i m2) →
  (∀ i e n1 m1 (k : KV) (P : FR), (sortE t.L)[i]? = some e → n ≤ n1 → n1 + c ≤ 1000000 → Kq xs n m m1 → I i m1 → (∀ n2 m2, n1 ≤ n2 → n2 ≤ n1 + c → Kq xs n1 m1 m2 → I (i + 1) m2 → k (.b true) ⟨n2, m2⟩ = P) → Y [entV e] ⟨n1, m1⟩ k = P) →
  ∀ (k : KV) (P : FR), n + 2 + c * t.L.length ≤ 1000000 → I 0 m → (∀ n' m', n ≤ n' → n' ≤ n + 2 + c * t.L.length → Kq xs n m m' → I t.L.length m' → k (.tup []) ⟨n', m'⟩ = P) → H [.p tb 0, .y y] ⟨n, m⟩ k = P
theorem walk_s {O : Oz} (hO : O = zO) (Φ : Phi) (H1 : NoneS (Phi.fn Φ 28)) (H2 : KeysS Φ) (y : Nat) (Y : HF) (hy : Phi.yl Φ y = Y) : WalkS (p9 O Φ) y Y := fun {tb mb t n m} c xs I hT htb hmb hW hx1 hx2 hx3 hI hY k P hn h0 hf => by
  have hT1 := hT.s
  have hT2 := hT.m
  have hwl := hW.len
  have hpw : ∀ e ∈ t.L, e.path.length ≤ 1000000 := fun e he => by have := (hW.pl e he).1; omega
  by_cases hL : t.L = []
  · have hl0 : t.L.length = 0 := by rw [hL]; rfl
    rw [hl0] at hf hn
    repeat' ((conv => lhs; whnf); first | ((with_reducible refine atFn ?_); first | refine H1 (hT.kp (by repeat (first | assumption | exact Kp.refl _ _ | refine Kp.mp ?_ (by omega) (by omega) | refine Kp.trans ?_ (by assumption) (by omega))) htb hmb) _ _ ?_ | (refine H2 hT2 hmb hW.nd (by omega) hpw _ _ (by omega) ?_; rintro v1 n1 m1 h1 g1 k1 q0 q1; obtain rfl := q0 hL)) | ((with_reducible refine fa0 hO ?_)) | ((with_reducible refine atLd ?_); refine ldC hO (by repeat (first | assumption | exact am_same (by omega) | apply am_ne (by omega) (by omega) | apply kp_am (by assumption) (by omega) | apply Kq.am (by assumption) (by omega) (by simp only [List.mem_cons, List.not_mem_nil, or_false, forall_eq_or_imp, forall_eq, false_implies, implies_true, ne_eq, and_true]; omega))) (by rfl) ?_) | ((with_reducible refine lvN hO ?_)))
    all_goals (conv => lhs; whnf)
    all_goals first
      | exact hf _ _ (by omega) (by omega) (by repeat (first | assumption | exact Kq.refl _ _ _ | exact Kq.of (by assumption) _ | refine Kq.mp ?_ (by first | exact .inl (by omega) | exact .inr (by simp)) (by omega) | refine Kq.transP ?_ (by assumption) (by omega) | refine Kq.trans ?_ (by assumption) (by omega))) h0
      | (refine lpI hO (fun t e n' m' => t = 0 ∧ n' = n1 ∧ m' = m1 ∧ e = eof [(15, .n .i64 0)]) ?_ ?_ _ 0 _ _ _ (by omega) ⟨rfl, rfl, rfl, rfl⟩
         · rintro t e n' m' ⟨_, rfl, _⟩; omega
         · rintro t e n' m' ih ⟨rfl, rfl, rfl, rfl⟩ hih
           repeat' ((conv => lhs; whnf); first | ((with_reducible refine ltF hO (by omega) ?_)))
           all_goals (conv => lhs; whnf)
           all_goals first
             | exact hf _ _ (by omega) (by omega) (Kq.of (by repeat (first | assumption | exact Kp.refl _ _ | refine Kp.mp ?_ (by omega) (by omega) | refine Kp.trans ?_ (by assumption) (by omega))) _) (hI 0 n m _ (Nat.le_refl _) (by repeat (first | assumption | exact Kp.refl _ _ | refine Kp.mp ?_ (by omega) (by omega) | refine Kp.trans ?_ (by assumption) (by omega))) h0))
  · 
    repeat' ((conv => lhs; whnf); first | ((with_reducible refine atFn ?_); first | refine H1 (hT.kp (by repeat (first | assumption | exact Kp.refl _ _ | refine Kp.mp ?_ (by omega) (by omega) | refine Kp.trans ?_ (by assumption) (by omega))) htb hmb) _ _ ?_ | (refine H2 hT2 hmb hW.nd (by omega) hpw _ _ (by omega) ?_; rintro v1 n1 m1 h1 g1 k1 q0 q1; obtain ⟨b, rfl, q1, q2, q3⟩ := q1 hL)) | ((with_reducible refine fa0 hO ?_)) | ((with_reducible refine atLd ?_); refine ldC hO (by repeat (first | assumption | exact am_same (by omega) | apply am_ne (by omega) (by omega) | apply kp_am (by assumption) (by omega) | apply Kq.am (by assumption) (by omega) (by simp only [List.mem_cons, List.not_mem_nil, or_false, forall_eq_or_imp, forall_eq, false_implies, implies_true, ne_eq, and_true]; omega))) (by rfl) ?_) | ((with_reducible refine lvS hO ?_)))
    all_goals (conv => lhs; whnf)
    all_goals first
      | exact absurd rfl hL
      | (refine lpI hO (fun q e n' m' => ∃ i, i ≤ t.L.length ∧ q = t.L.length - i ∧ n1 ≤ n' ∧ n' ≤ n1 + c * i ∧ Kq xs n m m' ∧ Kq xs n1 m1 m' ∧ I i m' ∧ e = eof [(15, .n .i64 i)]) ?_ ?_ _ t.L.length _ _ _ (by omega) ⟨0, Nat.zero_le _, by omega, Nat.le_refl _, by omega, Kq.of (by repeat (first | assumption | exact Kp.refl _ _ | refine Kp.mp ?_ (by omega) (by omega) | refine Kp.trans ?_ (by assumption) (by omega))) _, Kq.refl _ _ _, hI 0 n m _ (Nat.le_refl _) (by repeat (first | assumption | exact Kp.refl _ _ | refine Kp.mp ?_ (by omega) (by omega) | refine Kp.trans ?_ (by assumption) (by omega))) h0, rfl⟩
         · rintro q e n' m' ⟨i, _, _, h, _⟩; omega
         · rintro q e n' m' ih ⟨i, z1, rfl, z2, z3, z4, z5, z6, rfl⟩ hih
           have hT' := hT.kq z4 htb hmb hx2 hx3
           have hT1' := hT'.s
           have hT2' := hT'.m
           have hb' : Am m' b (.cells (vsL (sortB (t.L.map En.path))) 9 .more) := z5 _ _ q2 (fun x hx => by have := hx1 x hx; omega) q3
           clear hT1 hT2
           rcases Nat.lt_or_ge i t.L.length with hlt | hge
           · obtain ⟨e1, he⟩ : ∃ e1, (sortE t.L)[i]? = some e1 := ⟨_, List.getElem?_eq_getElem (by rw [sortE_len]; omega)⟩
             have hle := sortE_at hW.nd he
             have hci : c * (i + 1) ≤ c * t.L.length := Nat.mul_le_mul_left c (by omega)
             have hcs : c * (i + 1) = c * i + c := Nat.mul_succ c i
             repeat' ((conv => lhs; whnf); first | ((rw [hy]; refine hY _ _ _ _ _ _ he (by omega) (by omega) z4 z6 (fun n5 m5 h5 g5 k5 q5 => ?_))) | ((with_reducible refine fa0 hO ?_)) | ((with_reducible refine atLd ?_); first | refine ldC hO (by repeat (first | assumption | exact am_same (by omega) | apply am_ne (by omega) (by omega) | apply kp_am (by assumption) (by omega) | apply Kq.am (by assumption) (by omega) (by simp only [List.mem_cons, List.not_mem_nil, or_false, forall_eq_or_imp, forall_eq, false_implies, implies_true, ne_eq, and_true]; omega))) (vsL_at (sortB_at he)) ?_ | refine ldC hO (by repeat (first | assumption | exact am_same (by omega) | apply am_ne (by omega) (by omega) | apply kp_am (by assumption) (by omega) | apply Kq.am (by assumption) (by omega) (by simp only [List.mem_cons, List.not_mem_nil, or_false, forall_eq_or_imp, forall_eq, false_implies, implies_true, ne_eq, and_true]; omega))) (by rfl) ?_) | ((with_reducible refine ltT hO (by omega) ?_)) | ((with_reducible refine adI hO (by omega) ?_)) | ((with_reducible refine ix01 hO (by omega) ?_)) | ((with_reducible refine atLk ?_); (refine lkS1 hO (by repeat (first | assumption | exact am_same (by omega) | apply am_ne (by omega) (by omega) | apply kp_am (by assumption) (by omega) | apply Kq.am (by assumption) (by omega) (by simp only [List.mem_cons, List.not_mem_nil, or_false, forall_eq_or_imp, forall_eq, false_implies, implies_true, ne_eq, and_true]; omega))) (fun a hla => ?_) (fun hla => absurd hla (by rw [hle]; simp)); obtain rfl : e1 = a := by rw [hle] at hla; exact Option.some.inj hla)))
             all_goals (conv => lhs; whnf)
             all_goals first
               | exact hih (t.L.length - (i + 1)) _ _ _ (by omega) ⟨i + 1, by omega, rfl, by omega, by omega, z4.trans k5 (by omega), z5.trans k5 (by omega), q5, rfl⟩
           · obtain rfl : i = t.L.length := by omega
             repeat' ((conv => lhs; whnf); first | ((with_reducible refine ltF hO (by omega) ?_)))
             all_goals (conv => lhs; whnf)
             all_goals first
               | exact hf _ _ (by omega) (by omega) z4 z6)
end Go.Proofs.YtjoakhpdajlhiaaDoor.V2.S
namespace Go.Proofs.YtjoakhpdajlhiaaDoor.V2.S
open Go
set_option maxRecDepth 100000
set_option maxHeartbeats 4000000
set_option linter.unusedVariables false
attribute [local irreducible] fN fO nM gM pM Phi.fn Phi.yl Phi.up mp bl bpart bapp top1 pack
theorem used_aux {t : Tr} {i : Nat} {e : En} (hW : WfT t) (he : (sortE t.L)[i]? = some e) : i < 128 ∧ sizesG ((sortE t.L).take i) + (e.path.length + e.data.length) ≤ 32768 := by
  have h1 := (List.getElem?_eq_some_iff.1 he).1
  rw [sortE_len] at h1
  have h2 := sizesG_take he
  have h3 := sizesG_le_take (sortE t.L) (i + 1)
  rw [sizesG_perm (sortE_perm t.L)] at h3
  exact ⟨by have := hW.len; omega, by have := hW.sz; omega⟩
theorem used_s {O : Oz} (hO : O = zO) (Φ : Phi) (H : ∀ y Y, WalkS (Phi.fn (Phi.up Φ y Y) 9) y Y) : UsedS (p52 O Φ) := fun {tb mb t n m} hT htb hmb hW k P hn hf => by
  have hlen := hW.len
  have ez : sizesG ((sortE t.L).take t.L.length) = sizesG t.L := by rw [List.take_of_length_le (by rw [sortE_len]; exact Nat.le_refl _), sizesG_perm (sortE_perm t.L)]
  rw [← ez] at hf
  repeat' ((conv => lhs; whnf); first | ((with_reducible refine atFn ?_); refine H _ _ 1 [n, n + 1] (fun i m2 => Am m2 n (.ints .i64 [Int.ofNat i] 3 .exact) ∧ Am m2 (n + 1) (.ints .i64 [Int.ofNat (sizesG ((sortE t.L).take i))] 3 .exact)) (hT.kp (by repeat (first | assumption | exact Kp.refl _ _ | refine Kp.mp ?_ (by omega) (by omega) | refine Kp.trans ?_ (by assumption) (by omega))) htb hmb) (by omega) (by omega) hW (fun x hx => by simp only [List.mem_cons, List.not_mem_nil, or_false] at hx; omega) (fun x hx => by simp only [List.mem_cons, List.not_mem_nil, or_false] at hx; omega) (fun x hx => by simp only [List.mem_cons, List.not_mem_nil, or_false] at hx; omega) (fun i n1 m1 m2 h1 hk hI => ⟨hk _ _ (by omega) hI.1, hk _ _ (by omega) hI.2⟩) (fun i e n1 m1 k5 P5 he hn1 hc5 hq5 hI5 hk5 => hI5.elim fun ha5 hb5 => (used_aux hW he).elim fun z1 z2 => ?_) _ _ (by omega) ⟨(by repeat (first | assumption | exact am_same (by omega) | apply am_ne (by omega) (by omega) | apply kp_am (by assumption) (by omega) | apply Kq.am (by assumption) (by omega) (by simp only [List.mem_cons, List.not_mem_nil, or_false, forall_eq_or_imp, forall_eq, false_implies, implies_true, ne_eq, and_true]; omega))), (by repeat (first | assumption | exact am_same (by omega) | apply am_ne (by omega) (by omega) | apply kp_am (by assumption) (by omega) | apply Kq.am (by assumption) (by omega) (by simp only [List.mem_cons, List.not_mem_nil, or_false, forall_eq_or_imp, forall_eq, false_implies, implies_true, ne_eq, and_true]; omega)))⟩ (fun n4 m4 h4 g4 k4 hI4 => hI4.elim fun ha4 hb4 => (fun k4l => ?_) (Kq.low (n := n) k4 (by omega) (by simp)))) | ((with_reducible refine fa0 hO ?_)) | ((with_reducible refine atLd ?_); first | refine ldC hO (by repeat (first | assumption | exact am_same (by omega) | apply am_ne (by omega) (by omega) | apply kp_am (by assumption) (by omega) | apply Kq.am (by assumption) (by omega) (by simp only [List.mem_cons, List.not_mem_nil, or_false, forall_eq_or_imp, forall_eq, false_implies, implies_true, ne_eq, and_true]; omega))) (by rfl) ?_ | refine ldI hO (by repeat (first | assumption | exact am_same (by omega) | apply am_ne (by omega) (by omega) | apply kp_am (by assumption) (by omega) | apply Kq.am (by assumption) (by omega) (by simp only [List.mem_cons, List.not_mem_nil, or_false, forall_eq_or_imp, forall_eq, false_implies, implies_true, ne_eq, and_true]; omega))) (by rfl) ?_) | (((with_reducible refine lsS hO ?_); try simp only [List.length_cons, List.length_nil, Nat.zero_add])) | ((with_reducible refine adI hO (by omega) ?_)) | ((with_reducible refine atSt ?_); refine ust hO ?_) | ((with_reducible refine alO hO (by omega) ?_)) | ((with_reducible refine rcE hO (by kernel_rfl) rfl ?_)) | (with_reducible refine (fN_eq _ _).trans ?_) | (with_reducible refine (nM_mp (by omega)).trans ?_) | (with_reducible refine pM_mp.trans ?_) | (refine gM_amP (by repeat (first | assumption | exact am_same (by omega) | apply am_ne (by omega) (by omega) | apply kp_am (by assumption) (by omega) | apply Kq.am (by assumption) (by omega) (by simp only [List.mem_cons, List.not_mem_nil, or_false, forall_eq_or_imp, forall_eq, false_implies, implies_true, ne_eq, and_true]; omega))) ?_))
  all_goals (conv => lhs; whnf)
  all_goals first
    | exact hf _ _ (by omega) (by omega) (by repeat (first | assumption | exact Kp.refl _ _ | refine Kp.mp ?_ (by omega) (by omega) | refine Kp.trans ?_ (by assumption) (by omega)))
    | exact hk5 _ _ (by omega) (by omega) (by repeat (first | assumption | exact Kq.refl _ _ _ | exact Kq.of (by assumption) _ | refine Kq.mp ?_ (by first | exact .inl (by omega) | exact .inr (by simp)) (by omega) | refine Kq.transP ?_ (by assumption) (by omega) | refine Kq.trans ?_ (by assumption) (by omega))) ⟨(by repeat (first | assumption | exact am_same (by omega) | apply am_ne (by omega) (by omega) | apply kp_am (by assumption) (by omega) | apply Kq.am (by assumption) (by omega) (by simp only [List.mem_cons, List.not_mem_nil, or_false, forall_eq_or_imp, forall_eq, false_implies, implies_true, ne_eq, and_true]; omega))), by rw [sizesG_take he, ← Nat.add_assoc]; repeat (first | assumption | exact am_same (by omega) | apply am_ne (by omega) (by omega) | apply kp_am (by assumption) (by omega) | apply Kq.am (by assumption) (by omega) (by simp only [List.mem_cons, List.not_mem_nil, or_false, forall_eq_or_imp, forall_eq, false_implies, implies_true, ne_eq, and_true]; omega))⟩
end Go.Proofs.YtjoakhpdajlhiaaDoor.V2.S
namespace Go.Proofs.YtjoakhpdajlhiaaDoor.V2.S
open Go
set_option maxRecDepth 100000
set_option maxHeartbeats 4000000
set_option linter.unusedVariables false
attribute [local irreducible] fN fO nM gM pM Phi.fn mp bl bpart bapp top1 pack
theorem dataG_le {t : Tr} (h : sizesG t.L ≤ 32768) (p : Bs) : (dataG t p).length ≤ 32768 := by
  unfold dataG look
  cases hl : lookM En.path p t.L with
  | none => exact Nat.zero_le _
  | some a => have := (look_sizes hl).1; show a.data.length ≤ 32768; omega
def WriteS (H : HF) : Prop := ∀ {tb mb : Nat} {t : Tr} {n : Nat} {m : T FObj}, TreeAt m tb mb 65 t → tb < n → mb < n → tb ≠ mb → WfT t → ∀ (path data : Bs) (more : Bool), path.length ≤ 900000 → data.length ≤ 800000 → RetX 760 [mb] H [.p tb 0, .s (pack path), .s (pack data), .b more] n m (fun v n' m' => v = .n .i64 (writeG t path data more).2 ∧ TreeAt m' tb mb 65 (writeG t path data more).1)
theorem write_s {O : Oz} (hO : O = zO) (Φ : Phi) (HA : AbsS (Phi.fn Φ 12)) (HK : KindS (Phi.fn Φ 35)) (HP : PutS (Phi.fn Φ 39)) : WriteS (p13 O Φ) := fun {tb mb t n m} hT htb hmb htm hW path data more hpl hdl k P hn hf => by
  have hT1 := hT.s
  have hT2 := hT.m
  have hal := absG_le (t := t) (path := path) hW.c2 hpl
  have hdg := dataG_le hW.sz (absG t path).1
  have hws := hW.sz
  have key : ∀ (d : Bs), (if more then dataG t (absG t path).1 ++ data else data) = d → ¬ (absG t path).2 ≠ 0 → kindG t (absG t path).1 ≠ 1 → ∀ n' m' v, n ≤ n' → n' ≤ n + 760 → Kq [mb] n m m' → (v = .n .i64 (putG t ⟨(absG t path).1, false, d⟩).2 ∧ TreeAt m' tb mb 65 (putG t ⟨(absG t path).1, false, d⟩).1) → k v ⟨n', m'⟩ = P := fun d hd h1 h2 n' m' v h3 h4 h5 h6 => by
    have e : writeG t path data more = putG t ⟨(absG t path).1, false, d⟩ := by unfold writeG; rw [if_neg h1, if_neg h2, hd]
    rw [e] at hf; exact hf _ _ _ h3 h4 h5 h6
  have e1 : (absG t path).2 ≠ 0 → writeG t path data more = (t, (absG t path).2) := fun h => by unfold writeG; rw [if_pos h]
  have e2 : ¬ (absG t path).2 ≠ 0 → kindG t (absG t path).1 = 1 → writeG t path data more = (t, 5) := fun h h2 => by unfold writeG; rw [if_neg h, if_pos h2]
  have ed : ∀ a, lookM En.path (absG t path).1 t.L = some a → dataG t (absG t path).1 = a.data := fun a hla => by unfold dataG look; rw [hla]
  have en : lookM En.path (absG t path).1 t.L = none → dataG t (absG t path).1 = [] := fun hla => by unfold dataG look; rw [hla]
  cases more
  all_goals
    repeat' ((conv => lhs; whnf); first | ((with_reducible refine atFn ?_); first | refine HA (hT.kp (by repeat (first | assumption | exact Kp.refl _ _ | refine Kp.mp ?_ (by omega) (by omega) | refine Kp.trans ?_ (by assumption) (by omega))) htb hmb) (by omega) (by omega) hW.c1 hW.c2 _ (by omega) _ _ (by omega) (fun n3 m3 h3 g3 k3 => ?_) | refine HK (hT.kp (by repeat (first | assumption | exact Kp.refl _ _ | refine Kp.mp ?_ (by omega) (by omega) | refine Kp.trans ?_ (by assumption) (by omega))) htb hmb) (by omega) (by omega) _ _ _ (by omega) (fun n4 m4 h4 g4 k4 => ?_) | refine HP (hT.kp (by repeat (first | assumption | exact Kp.refl _ _ | refine Kp.mp ?_ (by omega) (by omega) | refine Kp.trans ?_ (by assumption) (by omega))) htb hmb) (by omega) (by omega) htm hW ⟨(absG t path).1, false, data⟩ (by show (absG t path).1.length ≤ 900000; omega) (by show data.length ≤ 900000; omega) _ _ (by omega) (fun v5 n5 m5 h5 g5 k5 q5 => ?_) | refine HP (hT.kp (by repeat (first | assumption | exact Kp.refl _ _ | refine Kp.mp ?_ (by omega) (by omega) | refine Kp.trans ?_ (by assumption) (by omega))) htb hmb) (by omega) (by omega) htm hW ⟨(absG t path).1, false, a.data ++ data⟩ (by show (absG t path).1.length ≤ 900000; omega) (by show (a.data ++ data).length ≤ 900000; rw [List.length_append]; omega) _ _ (by omega) (fun v5 n5 m5 h5 g5 k5 q5 => ?_)) | ((with_reducible refine fa0 hO ?_)) | ((with_reducible refine atLd ?_); refine ldC hO (by repeat (first | assumption | exact am_same (by omega) | apply am_ne (by omega) (by omega) | apply kp_am (by assumption) (by omega) | apply Kq.am (by assumption) (by omega) (by simp only [List.mem_cons, List.not_mem_nil, or_false, forall_eq_or_imp, forall_eq, false_implies, implies_true, ne_eq, and_true]; omega))) (by rfl) ?_) | ((with_reducible refine eqB hO (fun h => ?_) (fun h => ?_))) | ((with_reducible refine neB hO (fun h => ?_) (fun h => ?_))) | ((with_reducible refine adS hO (by first | omega | (simp only [List.length_cons, List.length_nil, List.length_append]; omega)) ?_)) | ((with_reducible refine atLk ?_); refine lkS1 hO (by repeat (first | assumption | exact am_same (by omega) | apply am_ne (by omega) (by omega) | apply kp_am (by assumption) (by omega) | apply Kq.am (by assumption) (by omega) (by simp only [List.mem_cons, List.not_mem_nil, or_false, forall_eq_or_imp, forall_eq, false_implies, implies_true, ne_eq, and_true]; omega))) (fun a hla => (fun hsz => ?_) (look_sizes hla)) (fun hla => ?_)) | ((with_reducible first | refine umt hO ?_ | refine uqu hO ?_ | refine urm hO ?_ | refine uan hO ?_ | refine uro hO ?_ | refine uxr hO ?_ | refine uhl hO ?_ | refine uhr hO ?_ | refine uad hO ?_ | refine usb hO ?_ | refine ult hO ?_ | refine ule hO ?_ | refine ugt hO ?_ | refine uge hO ?_ | refine ueq hO ?_ | refine une hO ?_ | refine ucv hO ?_ | refine uia hO ?_ | refine usv hO ?_ | refine ubu hO ?_ | refine uap hO ?_ | refine ubs hO ?_ | refine umm hO ?_ | refine upq hO ?_ | refine unq hO ?_ | refine uln hO ?_)))
    all_goals (conv => lhs; whnf)
  all_goals first
    | (rw [e1 (by assumption)] at hf; exact hf _ _ _ (by omega) (by omega) (by repeat (first | assumption | exact Kq.refl _ _ _ | exact Kq.of (by assumption) _ | refine Kq.mp ?_ (by first | exact .inl (by omega) | exact .inr (by simp)) (by omega) | refine Kq.transP ?_ (by assumption) (by omega) | refine Kq.trans ?_ (by assumption) (by omega))) ⟨rfl, hT.kp (by repeat (first | assumption | exact Kp.refl _ _ | refine Kp.mp ?_ (by omega) (by omega) | refine Kp.trans ?_ (by assumption) (by omega))) htb hmb⟩)
    | (rw [e2 (by simp [*]) (by assumption)] at hf; exact hf _ _ _ (by omega) (by omega) (by repeat (first | assumption | exact Kq.refl _ _ _ | exact Kq.of (by assumption) _ | refine Kq.mp ?_ (by first | exact .inl (by omega) | exact .inr (by simp)) (by omega) | refine Kq.transP ?_ (by assumption) (by omega) | refine Kq.trans ?_ (by assumption) (by omega))) ⟨rfl, hT.kp (by repeat (first | assumption | exact Kp.refl _ _ | refine Kp.mp ?_ (by omega) (by omega) | refine Kp.trans ?_ (by assumption) (by omega))) htb hmb⟩)
    | exact key data rfl (by simp [*]) (by assumption) _ _ _ (by omega) (by omega) (by repeat (first | assumption | exact Kq.refl _ _ _ | exact Kq.of (by assumption) _ | refine Kq.mp ?_ (by first | exact .inl (by omega) | exact .inr (by simp)) (by omega) | refine Kq.transP ?_ (by assumption) (by omega) | refine Kq.trans ?_ (by assumption) (by omega))) q5
    | exact key (a.data ++ data) (by rw [if_pos rfl, ed a hla]) (by simp [*]) (by assumption) _ _ _ (by omega) (by omega) (by repeat (first | assumption | exact Kq.refl _ _ _ | exact Kq.of (by assumption) _ | refine Kq.mp ?_ (by first | exact .inl (by omega) | exact .inr (by simp)) (by omega) | refine Kq.transP ?_ (by assumption) (by omega) | refine Kq.trans ?_ (by assumption) (by omega))) q5
    | exact key ([] ++ data) (by rw [if_pos rfl, en hla]) (by simp [*]) (by assumption) _ _ _ (by omega) (by omega) (by repeat (first | assumption | exact Kq.refl _ _ _ | exact Kq.of (by assumption) _ | refine Kq.mp ?_ (by first | exact .inl (by omega) | exact .inr (by simp)) (by omega) | refine Kq.transP ?_ (by assumption) (by omega) | refine Kq.trans ?_ (by assumption) (by omega))) q5
def CdS (H : HF) : Prop := ∀ {tb mb : Nat} {t : Tr} {n : Nat} {m : T FObj}, TreeAt m tb mb 65 t → tb < n → mb < n → WfT t → ∀ (path : Bs), path.length ≤ 900000 → RetX 601 [tb] H [.p tb 0, .s (pack path)] n m (fun v n' m' => v = .n .i64 (cdG t path).2 ∧ (tb ≠ mb → TreeAt m' tb mb 65 (cdG t path).1))
theorem cd_s {O : Oz} (hO : O = zO) (Φ : Phi) (HI : IsS (Phi.fn Φ 41)) : CdS (p16 O Φ) := fun {tb mb t n m} hT htb hmb hW path hpl k P hn hf => by
  have hT1 := hT.s
  have hT2 := hT.m
  have e1 : (isG t path 1).2 ≠ 0 → cdG t path = (t, (isG t path 1).2) := fun h => by unfold cdG; rw [if_pos h]
  have e2 : (isG t path 1).2 = 0 → cdG t path = ({ t with cwd := (isG t path 1).1 }, 0) := fun h => by unfold cdG; rw [if_neg (by simp [h])]
  repeat' ((conv => lhs; whnf); first | ((with_reducible refine atFn ?_); refine HI (hT.kp (by repeat (first | assumption | exact Kp.refl _ _ | refine Kp.mp ?_ (by omega) (by omega) | refine Kp.trans ?_ (by assumption) (by omega))) htb hmb) (by omega) (by omega) hW _ _ (by omega) _ _ (by omega) (fun n3 m3 h3 g3 k3 => ?_)) | ((with_reducible refine fa0 hO ?_)) | ((with_reducible refine eqB hO (fun h => ?_) (fun h => ?_))) | ((with_reducible refine atSt ?_); refine stC hO (by repeat (first | assumption | exact am_same (by omega) | apply am_ne (by omega) (by omega) | apply kp_am (by assumption) (by omega) | apply Kq.am (by assumption) (by omega) (by simp only [List.mem_cons, List.not_mem_nil, or_false, forall_eq_or_imp, forall_eq, false_implies, implies_true, ne_eq, and_true]; omega))) (by kernel_rfl) (fun _ _ _ => rfl) (fun _ => rfl) ?_))
  all_goals (conv => lhs; whnf)
  all_goals first
    | (rw [e1 (by assumption)] at hf; exact hf _ _ _ (by omega) (by omega) (by repeat (first | assumption | exact Kq.refl _ _ _ | exact Kq.of (by assumption) _ | refine Kq.mp ?_ (by first | exact .inl (by omega) | exact .inr (by simp)) (by omega) | refine Kq.transP ?_ (by assumption) (by omega) | refine Kq.trans ?_ (by assumption) (by omega))) ⟨rfl, fun _ => hT.kp (by repeat (first | assumption | exact Kp.refl _ _ | refine Kp.mp ?_ (by omega) (by omega) | refine Kp.trans ?_ (by assumption) (by omega))) htb hmb⟩)
    | (have hz : (isG t path 1).2 = 0 := by assumption
       rw [e2 hz] at hf; exact hf _ _ _ (by omega) (by omega) (by repeat (first | assumption | exact Kq.refl _ _ _ | exact Kq.of (by assumption) _ | refine Kq.mp ?_ (by first | exact .inl (by omega) | exact .inr (by simp)) (by omega) | refine Kq.transP ?_ (by assumption) (by omega) | refine Kq.trans ?_ (by assumption) (by omega))) ⟨by rw [hz], fun _ => ⟨am_same (by omega), (by repeat (first | assumption | exact am_same (by omega) | apply am_ne (by omega) (by omega) | apply kp_am (by assumption) (by omega) | apply Kq.am (by assumption) (by omega) (by simp only [List.mem_cons, List.not_mem_nil, or_false, forall_eq_or_imp, forall_eq, false_implies, implies_true, ne_eq, and_true]; omega)))⟩⟩)
def NewS (H : HF) : Prop := ∀ (n : Nat) (m : T FObj), RetX 2 [] H [] n m (fun v n' m' => ∃ tb mb, v = .p tb 0 ∧ tb ≠ mb ∧ n ≤ tb ∧ tb < n' ∧ n ≤ mb ∧ mb < n' ∧ TreeAt m' tb mb 65 newG)
theorem new_s {O : Oz} (hO : O = zO) (Φ : Phi) : NewS (p26 O Φ) := fun n m k P hn hf => by
  repeat' ((conv => lhs; whnf); first | ((with_reducible refine atBx ?_); refine bxA hO (by omega) (by simp only [αL, αV, AObj.of, allInt, βO, βL, βV, unp_pack]) ?_) | ((with_reducible first | refine umt hO ?_ | refine uqu hO ?_ | refine urm hO ?_ | refine uan hO ?_ | refine uro hO ?_ | refine uxr hO ?_ | refine uhl hO ?_ | refine uhr hO ?_ | refine uad hO ?_ | refine usb hO ?_ | refine ult hO ?_ | refine ule hO ?_ | refine ugt hO ?_ | refine uge hO ?_ | refine ueq hO ?_ | refine une hO ?_ | refine ucv hO ?_ | refine uia hO ?_ | refine usv hO ?_ | refine ubu hO ?_ | refine uap hO ?_ | refine ubs hO ?_ | refine umm hO ?_ | refine upq hO ?_ | refine unq hO ?_ | refine uln hO ?_)) | (with_reducible refine (nM_mp (by omega)).trans ?_))
  all_goals (conv => lhs; whnf)
  all_goals first
    | exact hf _ _ _ (by omega) (by omega) (by repeat (first | assumption | exact Kq.refl _ _ _ | exact Kq.of (by assumption) _ | refine Kq.mp ?_ (by first | exact .inl (by omega) | exact .inr (by simp)) (by omega) | refine Kq.transP ?_ (by assumption) (by omega) | refine Kq.trans ?_ (by assumption) (by omega))) ⟨n + 1, n, rfl, by omega, by omega, by omega, by omega, by omega, ⟨am_same (by omega), (by repeat (first | assumption | exact am_same (by omega) | apply am_ne (by omega) (by omega) | apply kp_am (by assumption) (by omega) | apply Kq.am (by assumption) (by omega) (by simp only [List.mem_cons, List.not_mem_nil, or_false, forall_eq_or_imp, forall_eq, false_implies, implies_true, ne_eq, and_true]; omega)))⟩⟩
def CwdS (H : HF) : Prop := ∀ {tb mb : Nat} {t : Tr} {n : Nat} {m : T FObj}, TreeAt m tb mb 65 t → tb < n → mb < n → Ret0 H [.p tb 0] n m (.s (pack t.cwd))
theorem cwd_s {O : Oz} (hO : O = zO) (Φ : Phi) (H1 : NoneS (Phi.fn Φ 28)) : CwdS (p11 O Φ) := fun {tb mb t n m} hT htb hmb k P hf => by
  have hT1 := hT.s
  repeat' ((conv => lhs; whnf); first | ((with_reducible refine atFn ?_); refine H1 (hT.kp (by repeat (first | assumption | exact Kp.refl _ _ | refine Kp.mp ?_ (by omega) (by omega) | refine Kp.trans ?_ (by assumption) (by omega))) htb hmb) _ _ ?_) | ((with_reducible refine fa0 hO ?_)) | ((with_reducible refine atLd ?_); refine ldC hO (by repeat (first | assumption | exact am_same (by omega) | apply am_ne (by omega) (by omega) | apply kp_am (by assumption) (by omega) | apply Kq.am (by assumption) (by omega) (by simp only [List.mem_cons, List.not_mem_nil, or_false, forall_eq_or_imp, forall_eq, false_implies, implies_true, ne_eq, and_true]; omega))) (by rfl) ?_))
  all_goals (conv => lhs; whnf)
  all_goals first
    | exact hf
end Go.Proofs.YtjoakhpdajlhiaaDoor.V2.S
namespace Go.Proofs.YtjoakhpdajlhiaaDoor.V2.S
open Go
set_option maxRecDepth 100000
set_option maxHeartbeats 4000000
set_option linter.unusedVariables false
attribute [local irreducible] fN fO nM gM pM Phi.fn mp bl bpart bapp top1 pack
theorem setM_len (x : En) : ∀ L : List En, (setM En.path x L).length = match lookM En.path x.path L with | some _ => L.length | none => L.length + 1
  | [] => rfl
  | a :: l => by
    unfold setM lookM
    by_cases h : a.path = x.path
    · rw [if_pos h, if_pos h]; rfl
    · rw [if_neg h, if_neg h, List.length_cons, setM_len x l]
      cases lookM En.path x.path l <;> rfl
theorem setM_sizes (x : En) : ∀ L : List En, sizesG (setM En.path x L) = (match lookM En.path x.path L with | some o => sizesG L - o.data.length | none => sizesG L + x.path.length) + x.data.length
  | [] => by show x.path.length + x.data.length + 0 = 0 + x.path.length + x.data.length; omega
  | a :: l => by
    unfold setM lookM
    by_cases h : a.path = x.path
    · rw [if_pos h, if_pos h]; show x.path.length + x.data.length + sizesG l = a.path.length + a.data.length + sizesG l - a.data.length + x.data.length; rw [h]; omega
    · rw [if_neg h, if_neg h]
      have := setM_sizes x l
      cases hl : lookM En.path x.path l with
      | none => rw [hl] at this; show a.path.length + a.data.length + sizesG (setM En.path x l) = a.path.length + a.data.length + sizesG l + x.path.length + x.data.length; rw [this]; show _ + (sizesG l + x.path.length + x.data.length) = _; omega
      | some o =>
        have h2 := look_sizes hl
        rw [hl] at this; show a.path.length + a.data.length + sizesG (setM En.path x l) = a.path.length + a.data.length + sizesG l - o.data.length + x.data.length; rw [this]; show _ + (sizesG l - o.data.length + x.data.length) = _; omega
theorem setM_mem {x e : En} : ∀ {L : List En}, e ∈ setM En.path x L → e = x ∨ e ∈ L
  | [], h => .inl (by simpa [setM] using h)
  | a :: l, h => by
    unfold setM at h
    by_cases hp : a.path = x.path
    · rw [if_pos hp] at h
      rcases List.mem_cons.1 h with h | h
      · exact .inl h
      · exact .inr (List.mem_cons_of_mem _ h)
    · rw [if_neg hp] at h
      rcases List.mem_cons.1 h with h | h
      · exact .inr (by rw [h]; exact List.mem_cons_self)
      · rcases setM_mem h with h | h
        · exact .inl h
        · exact .inr (List.mem_cons_of_mem _ h)
theorem setM_path {x : En} {p : Bs} : ∀ {L : List En}, p ∈ (setM En.path x L).map En.path → p = x.path ∨ p ∈ L.map En.path := fun {L} h => by
  obtain ⟨e, h1, rfl⟩ := List.mem_map.1 h
  rcases setM_mem h1 with h | h
  · exact .inl (by rw [h])
  · exact .inr (List.mem_map.2 ⟨e, h, rfl⟩)
theorem setM_nd (x : En) : ∀ {L : List En}, (L.map En.path).Nodup → ((setM En.path x L).map En.path).Nodup
  | [], _ => by simp [setM]
  | a :: l, h => by
    rw [List.map_cons, List.nodup_cons] at h
    unfold setM
    by_cases hp : a.path = x.path
    · rw [if_pos hp, List.map_cons, List.nodup_cons, ← hp]; exact h
    · rw [if_neg hp, List.map_cons, List.nodup_cons]
      exact ⟨fun hm => (setM_path hm).elim hp h.1, setM_nd x h.2⟩
theorem delM_sub (p : Bs) : ∀ L : List En, (delM En.path p L).Sublist L
  | [] => by simp [delM]
  | a :: l => by
    unfold delM
    by_cases hp : a.path = p
    · rw [if_pos hp]; exact List.sublist_cons_self _ _
    · rw [if_neg hp]; exact (delM_sub p l).cons_cons _
theorem sizes_sub : ∀ {l l' : List En}, l.Sublist l' → sizesG l ≤ sizesG l' := fun h => by
  induction h with
  | slnil => exact Nat.le_refl _
  | cons a h ih => show _ ≤ a.path.length + a.data.length + sizesG _; omega
  | cons_cons a h ih => show a.path.length + a.data.length + sizesG _ ≤ a.path.length + a.data.length + sizesG _; omega
theorem look_in : ∀ {L : List En} {p : Bs} {a : En}, lookM En.path p L = some a → a ∈ L
  | [], p, a, h => by cases h
  | b :: L, p, a, h => by
    unfold lookM at h
    by_cases hb : b.path = p
    · rw [if_pos hb] at h; cases h; exact List.mem_cons_self
    · rw [if_neg hb] at h; exact List.mem_cons_of_mem _ (look_in h)
theorem putG_wf {t : Tr} (hW : WfT t) {x : En} (hx : x.path.head? = some 47) : WfT (putG t x).1 := by
  unfold putG
  split
  · exact hW
  split
  · exact hW
  rename_i h1 h2
  refine ⟨setM_nd x hW.nd, ?_, ?_, fun e he => ?_, fun e he => ?_, hW.hc, hW.c1, hW.c2⟩
  · show (setM En.path x t.L).length ≤ 128
    rw [setM_len]
    have : manyG t x = match lookM En.path x.path t.L with | some _ => t.L.length | none => t.L.length + 1 := rfl
    omega
  · show sizesG (setM En.path x t.L) ≤ 32768
    rw [setM_sizes]
    have : bytesG t x = match lookM En.path x.path t.L with | some o => sizesG t.L - o.data.length | none => sizesG t.L + x.path.length := rfl
    omega
  · rcases setM_mem he with rfl | he
    · exact hx
    · exact hW.hd e he
  · rcases setM_mem he with rfl | he
    · omega
    · exact hW.pl e he
theorem makeG_wf {t : Tr} (hW : WfT t) (path : Bs) : WfT (makeG t path).1 := by
  unfold makeG
  split
  · exact hW
  split
  · exact hW
  rename_i h1 h2
  exact putG_wf hW (absG_head hW.hc (by omega))
theorem writeG_wf {t : Tr} (hW : WfT t) (path data : Bs) (more : Bool) : WfT (writeG t path data more).1 := by
  unfold writeG
  split
  · exact hW
  split
  · exact hW
  rename_i h1 h2
  exact putG_wf hW (absG_head hW.hc (by omega))
theorem removeG_wf {t : Tr} (hW : WfT t) (path : Bs) : WfT (removeG t path).1 := by
  unfold removeG
  split
  · exact hW
  split
  · exact hW
  split
  · exact hW
  split
  · exact hW
  have hs := delM_sub (absG t path).1 t.L
  exact ⟨(hs.map _).nodup hW.nd, Nat.le_trans hs.length_le hW.len, Nat.le_trans (sizes_sub hs) hW.sz, fun e he => hW.hd e (hs.subset he), fun e he => hW.pl e (hs.subset he), hW.hc, hW.c1, hW.c2⟩
theorem kindG_le {t : Tr} (hW : WfT t) {a : Bs} (h : kindG t a ≠ 0) : a.head? = some 47 ∧ 1 ≤ a.length ∧ a.length ≤ 256 := by
  unfold kindG look at h
  by_cases ha : a = [47]
  · subst ha; exact ⟨rfl, by decide, by decide⟩
  · rw [if_neg ha] at h
    cases hl : lookM En.path a t.L with
    | none => rw [hl] at h; exact absurd rfl h
    | some e =>
      have h1 := look_in hl
      have h2 := (look_sizes hl).2
      have h3 := hW.hd e h1
      have h4 := (hW.pl e h1).1
      rw [h2] at h3 h4
      refine ⟨h3, ?_, h4⟩
      cases a with
      | nil => cases h3
      | cons c l => exact Nat.succ_le_succ (Nat.zero_le _)
theorem cdG_wf {t : Tr} (hW : WfT t) (path : Bs) : WfT (cdG t path).1 := by
  unfold cdG
  split
  · exact hW
  rename_i h
  have h : (isG t path 1).2 = 0 := by omega
  have h1 : kindG t (isG t path 1).1 ≠ 0 := by
    unfold isG at h ⊢
    by_cases ha : (absG t path).2 ≠ 0
    · rw [if_pos ha] at h; exact absurd h ha
    · rw [if_neg ha] at h ⊢
      by_cases hk : kindG t (absG t path).1 = 1
      · rw [if_pos hk]; show kindG t (absG t path).1 ≠ 0; omega
      · rw [if_neg hk] at h
        split at h <;> cases h
  obtain ⟨h2, h3, h4⟩ := kindG_le hW h1
  exact ⟨hW.nd, hW.len, hW.sz, hW.hd, hW.pl, h2, h3, h4⟩
theorem newG_wf : WfT newG := ⟨by simp [newG], by decide, by decide, fun e he => absurd he List.not_mem_nil, fun e he => absurd he List.not_mem_nil, rfl, by decide, by decide⟩
end Go.Proofs.YtjoakhpdajlhiaaDoor.V2.S
namespace Go.Proofs.YtjoakhpdajlhiaaDoor.V2.S
open Go
set_option maxRecDepth 100000
set_option maxHeartbeats 4000000
set_option linter.unusedVariables false
attribute [local irreducible] fN fO nM gM pM Phi.fn mp bl bpart bapp top1 pack
def pF : List Bs → Bs
  | [] => []
  | n :: ns => 47 :: n ++ pF ns
def dirP (ns : List Bs) : Bs := if ns = [] then [47] else pF ns
theorem pF_app : ∀ a b : List Bs, pF (a ++ b) = pF a ++ pF b
  | [], b => rfl
  | n :: a, b => by show 47 :: n ++ pF (a ++ b) = 47 :: n ++ pF a ++ pF b; rw [pF_app a b, List.append_assoc]
theorem pF_snoc (a : List Bs) (n : Bs) : pF (a ++ [n]) = pF a ++ 47 :: n := by rw [pF_app]; show _ ++ (47 :: n ++ []) = _; rw [List.append_nil]
theorem splitB_ne : ∀ l : Bs, splitB l ≠ []
  | [] => by simp [splitB]
  | c :: l => by
    unfold splitB
    split
    · simp
    · split <;> simp
theorem splitB_app : ∀ a b : Bs, splitB (a ++ 47 :: b) = splitB a ++ splitB b
  | [], b => by show splitB (47 :: b) = [[]] ++ splitB b; rw [splitB, if_pos rfl]; rfl
  | c :: a, b => by
    have ih := splitB_app a b
    rw [List.cons_append, splitB, splitB, ih]
    by_cases hc : c = 47
    · rw [if_pos hc, if_pos hc]; rfl
    · rw [if_neg hc, if_neg hc]
      cases h : splitB a with
      | nil => exact absurd h (splitB_ne a)
      | cons p ps => rfl
theorem splitB_pF : ∀ (ns : List Bs) (a : Bs), (∀ n ∈ ns, countS n = 0) → splitB (a ++ pF ns) = splitB a ++ ns
  | [], a, _ => by show splitB (a ++ []) = _; rw [List.append_nil, List.append_nil]
  | n :: ns, a, h => by
    have e : a ++ pF (n :: ns) = (a ++ 47 :: n) ++ pF ns := by show a ++ (47 :: n ++ pF ns) = _; rw [List.append_assoc]
    rw [e, splitB_pF ns _ fun x hx => h x (List.mem_cons_of_mem _ hx), splitB_app, split_none (h n List.mem_cons_self), List.append_assoc]; rfl
theorem split_pF {ns : List Bs} (h : ∀ n ∈ ns, countS n = 0) : splitB (pF ns) = [] :: ns := splitB_pF ns [] h
structure Good (n : Bs) : Prop where
  nm : nameB n = true
  c0 : countS n = 0
  e1 : n ≠ []
  e2 : n ≠ [46]
  e3 : n ≠ [46, 46]
theorem lastS_app0 : ∀ (a n : Bs), countS n = 0 → lastS (a ++ 47 :: n) = a.length + 1
  | [], n, h => by
    show lastS (47 :: n) = 1
    have h0 : lastS n = 0 := lastS_none fun i hi hb => by
      have : (47 : UInt8) ∈ n := by
        unfold bt at hb
        rw [List.getD_eq_getElem?_getD, List.getElem?_eq_getElem hi, Option.getD_some] at hb
        rw [← show n[i] = 47 from UInt8.toNat_inj.1 hb]; exact List.getElem_mem hi
      exact absurd h (by unfold countS; exact Nat.pos_iff_ne_zero.1 (List.count_pos_iff.2 this))
    rw [lastS, if_pos h0, if_pos rfl]
  | c :: a, n, h => by
    show lastS (c :: (a ++ 47 :: n)) = _
    rw [lastS, lastS_app0 a n h, if_neg (by omega)]; rfl
theorem hasSuf_app (a : Bs) {n : Bs} (h0 : countS n = 0) (h1 : n ≠ []) : hasSuf (a ++ n) [47] = false := by
  unfold hasSuf
  have hl := List.length_pos_iff.2 h1
  by_cases h : (a ++ n).drop ((a ++ n).length - [(47 : UInt8)].length) = [47]
  · have hm : (47 : UInt8) ∈ n := by
      rw [List.length_append, show a.length + n.length - [(47 : UInt8)].length = a.length + (n.length - 1) by show _ - 1 = _; omega, List.drop_length_add_append] at h
      exact List.mem_of_mem_drop (h ▸ List.mem_singleton.2 rfl)
    exact absurd h0 (by unfold countS; exact Nat.pos_iff_ne_zero.1 (List.count_pos_iff.2 hm))
  · rw [decide_eq_false h, Bool.and_false]
theorem hasSuf_app' (b : List Bs) {x : Bs} (h : Good x) : hasSuf (pF b ++ 47 :: x) [47] = false := by
  have := hasSuf_app (pF b ++ [47]) h.c0 h.e1
  rwa [List.append_assoc] at this
theorem dirP_snoc (a : List Bs) (n : Bs) : dirP (a ++ [n]) = pF a ++ 47 :: n := by
  unfold dirP; rw [if_neg (by simp), pF_snoc]
theorem join_dirP {a : List Bs} (ha : ∀ x ∈ a, Good x) (n : Bs) : joinG (dirP a) n = dirP (a ++ [n]) := by
  rw [dirP_snoc]
  unfold joinG trimG
  rcases List.eq_nil_or_concat a with rfl | ⟨b, x, rfl⟩
  · rfl
  · have hx := ha x (by simp)
    rw [List.concat_eq_append] at *
    rw [dirP_snoc, pF_snoc, hasSuf_app' b hx]
    simp
theorem par_dirP (a : List Bs) {n : Bs} (h : Good n) : parG (dirP (a ++ [n])) = dirP a := by
  rw [dirP_snoc]
  unfold parG
  rw [lastS_app0 _ _ h.c0, Nat.add_sub_cancel]
  cases a with
  | nil => rfl
  | cons x a =>
    have : 1 ≤ (pF (x :: a)).length := by show 1 ≤ (47 :: x ++ pF a).length; simp
    rw [Nat.max_eq_left this, List.take_left']
    · unfold dirP; rw [if_neg (by simp)]
    · rfl
theorem step_name {t : Tr} {a : List Bs} {n : Bs} (ha : ∀ x ∈ a, Good x) (hn : Good n) (hk : kindG t (dirP a) = 1) : stepG t (dirP a) n = .inr (dirP (a ++ [n])) := by
  unfold stepG
  rw [if_neg (by rintro (h | h); exact hn.e1 h; exact hn.e2 h), if_neg (by rintro ⟨_, h⟩; rw [hn.nm] at h; cases h), if_neg (by omega), if_neg (by omega), if_neg hn.e3, join_dirP ha]
theorem step_up {t : Tr} {a : List Bs} {n : Bs} (hn : Good n) (hk : kindG t (dirP (a ++ [n])) = 1) : stepG t (dirP (a ++ [n])) [46, 46] = .inr (dirP a) := by
  unfold stepG
  rw [if_neg (by decide), if_neg (by decide), if_neg (by omega), if_neg (by omega), if_pos rfl, par_dirP a hn]
theorem step_e {t : Tr} {a : Bs} : stepG t a [] = .inr a := by unfold stepG; rw [if_pos (.inl rfl)]
theorem step_d {t : Tr} {a : Bs} : stepG t a [46] = .inr a := by unfold stepG; rw [if_pos (.inr rfl)]
theorem loop_names {t : Tr} : ∀ (b a : List Bs), (∀ x ∈ a, Good x) → (∀ x ∈ b, Good x) → (∀ j, j < b.length → kindG t (dirP (a ++ b.take j)) = 1) → loopG t (dirP a) b = .inr (dirP (a ++ b))
  | [], a, _, _, _ => by rw [loopG, List.append_nil]
  | n :: b, a, ha, hb, hk => by
    have h0 := hk 0 (by simp)
    rw [List.take_zero, List.append_nil] at h0
    have hn := hb n List.mem_cons_self
    rw [loopG_step (step_name ha hn h0), loop_names b (a ++ [n]) (fun x hx => (List.mem_append.1 hx).elim (ha x) fun h => by rw [List.mem_singleton.1 h]; exact hn) (fun x hx => hb x (List.mem_cons_of_mem _ hx)) (fun j hj => by have := hk (j + 1) (by simpa using hj); rw [List.append_assoc]; exact this), List.append_assoc]; rfl
def wideG (n : Bs) : List Bs := [[], [46], n, [46, 46], n, [46]]
theorem loop_wide {t : Tr} : ∀ (b a : List Bs), (∀ x ∈ a, Good x) → (∀ x ∈ b, Good x) → (∀ j, j ≤ b.length → kindG t (dirP (a ++ b.take j)) = 1) → loopG t (dirP a) (b.flatMap wideG) = .inr (dirP (a ++ b))
  | [], a, _, _, _ => by rw [List.flatMap_nil, loopG, List.append_nil]
  | n :: b, a, ha, hb, hk => by
    have h0 := hk 0 (by simp)
    have h1 := hk 1 (by simp)
    rw [List.take_zero, List.append_nil] at h0
    have h1 : kindG t (dirP (a ++ [n])) = 1 := h1
    have hn := hb n List.mem_cons_self
    rw [List.flatMap_cons]
    show loopG t (dirP a) ([] :: [46] :: n :: [46, 46] :: n :: [46] :: b.flatMap wideG) = _
    rw [loopG_step step_e, loopG_step step_d, loopG_step (step_name ha hn h0), loopG_step (step_up hn h1), loopG_step (step_name ha hn h0), loopG_step step_d, loop_wide b (a ++ [n]) (fun x hx => (List.mem_append.1 hx).elim (ha x) fun h => by rw [List.mem_singleton.1 h]; exact hn) (fun x hx => hb x (List.mem_cons_of_mem _ hx)) (fun j hj => by have := hk (j + 1) (by simpa using hj); rw [List.append_assoc]; exact this), List.append_assoc]; rfl
end Go.Proofs.YtjoakhpdajlhiaaDoor.V2.S
namespace Go.Proofs.YtjoakhpdajlhiaaDoor.V2.S
open Go
set_option maxRecDepth 100000
set_option maxHeartbeats 4000000
set_option linter.unusedVariables false
attribute [local irreducible] fN fO nM gM pM Phi.fn mp bl bpart bapp top1 pack
theorem pF_len {k : Nat} : ∀ {ns : List Bs}, (∀ x ∈ ns, x.length ≤ k) → (pF ns).length ≤ (k + 1) * ns.length
  | [], _ => Nat.le_refl _
  | n :: ns, h => by
    have h1 := h n List.mem_cons_self
    have h2 := pF_len fun x hx => h x (List.mem_cons_of_mem _ hx)
    show (47 :: n ++ pF ns).length ≤ _
    rw [List.length_append, List.length_cons, List.length_cons, Nat.mul_succ]; omega
theorem hasPre_pF {b : List Bs} (h : b ≠ []) : hasPre (pF b) [47] = true := by
  cases b with
  | nil => exact absurd rfl h
  | cons n b => rw [pF]; simp [hasPre]
theorem pF_ne {b : List Bs} (h : b ≠ []) : pF b ≠ [] := by
  cases b with
  | nil => exact absurd rfl h
  | cons n b => simp [pF]
theorem absP {t : Tr} {b : List Bs} (hg : ∀ x ∈ b, Good x) (hk : ∀ j, j < b.length → kindG t (dirP (b.take j)) = 1) (hl : (pF b).length ≤ 256) (hb : b ≠ []) : absG t (pF b) = (pF b, 0) := by
  have h1 := loop_names b [] (fun x hx => absurd hx List.not_mem_nil) hg (t := t) hk
  unfold absG
  rw [if_neg (by rintro (h | h); exact pF_ne hb h; omega), hasPre_pF hb, if_pos rfl, split_pF fun n hn => (hg n hn).c0, loopG_step step_e]
  rw [show dirP ([] : List Bs) = [47] from rfl, List.nil_append] at h1
  rw [h1]
  show (dirP b, 0) = (pF b, 0)
  unfold dirP; rw [if_neg hb]
theorem absW {t : Tr} {b : List Bs} (hg : ∀ x ∈ b, Good x) (hk : ∀ j, j ≤ b.length → kindG t (dirP (b.take j)) = 1) (hl : (pF (b.flatMap wideG)).length ≤ 256) (hb : b ≠ []) : absG t (pF (b.flatMap wideG)) = (pF b, 0) := by
  have h1 := loop_wide b [] (fun x hx => absurd hx List.not_mem_nil) hg (t := t) hk
  have hne : b.flatMap wideG ≠ [] := by
    cases b with
    | nil => exact absurd rfl hb
    | cons n b => simp [List.flatMap_cons, wideG]
  unfold absG
  rw [if_neg (by rintro (h | h); exact pF_ne hne h; omega), hasPre_pF hne, if_pos rfl, split_pF (fun n hn => by
    obtain ⟨x, hx, hnx⟩ := List.mem_flatMap.1 hn
    unfold wideG at hnx
    simp only [List.mem_cons, List.not_mem_nil, or_false] at hnx
    rcases hnx with rfl | rfl | rfl | rfl | rfl | rfl
    · decide
    · decide
    · exact (hg _ hx).c0
    · decide
    · exact (hg _ hx).c0
    · decide), loopG_step step_e]
  rw [show dirP ([] : List Bs) = [47] from rfl, List.nil_append] at h1
  rw [h1]
  show (dirP b, 0) = (pF b, 0)
  unfold dirP; rw [if_neg hb]
theorem lookM_app {p : Bs} (x : En) : ∀ L : List En, lookM En.path p (L ++ [x]) = match lookM En.path p L with | some e => some e | none => if x.path = p then some x else none
  | [] => rfl
  | a :: l => by
    rw [List.cons_append, lookM, lookM]
    by_cases h : a.path = p
    · rw [if_pos h, if_pos h]
    · rw [if_neg h, if_neg h]; exact lookM_app x l
structure Tk (t : Tr) (ns : List Bs) : Prop where
  cw : t.cwd = [47]
  wf : WfT t
  len : t.L.length = ns.length
  sz : sizesG t.L ≤ 100 * ns.length
  kd : ∀ j, j ≤ ns.length → kindG t (dirP (ns.take j)) = 1
  pl : ∀ e ∈ t.L, e.path.length ≤ (pF ns).length
theorem Tk.new : Tk newG [] := ⟨rfl, newG_wf, rfl, by decide, fun j _ => by rw [List.take_nil]; rfl, fun e he => absurd he List.not_mem_nil⟩
theorem Tk.make {t : Tr} {ns : List Bs} {n : Bs} (h : Tk t ns) (hg : ∀ x ∈ ns ++ [n], Good x) (hl : ns.length < 4) (h21 : ∀ x ∈ ns ++ [n], x.length ≤ 21) : (makeG t (pF (ns ++ [n]))).2 = 0 ∧ Tk (makeG t (pF (ns ++ [n]))).1 (ns ++ [n]) := by
  have hn := hg n (by simp)
  have hpl := pF_len h21
  rw [List.length_append, List.length_singleton] at hpl
  have hpn : (pF (ns ++ [n])).length = (pF ns).length + (n.length + 1) := by rw [pF_snoc, List.length_append, List.length_cons]
  have hn1 := List.length_pos_iff.2 hn.e1
  have ha : absG t (pF (ns ++ [n])) = (pF (ns ++ [n]), 0) := absP hg (fun j hj => by
    rw [List.length_append, List.length_singleton] at hj
    rw [List.take_append_of_le_length (by omega)]; exact h.kd j (by omega)) (by omega) (by simp)
  have hno : lookM En.path (pF (ns ++ [n])) t.L = none := by
    cases hq : lookM En.path (pF (ns ++ [n])) t.L with
    | none => rfl
    | some e =>
      have h1 := h.pl e (look_in hq)
      rw [(look_sizes hq).2] at h1; omega
  have h47 : pF (ns ++ [n]) ≠ [47] := fun hq => by have := congrArg List.length hq; rw [hpn] at this; simp at this; omega
  have hk0 : kindG t (pF (ns ++ [n])) = 0 := by unfold kindG look; rw [if_neg h47, hno]
  have hsz := h.sz
  have hm : manyG t ⟨pF (ns ++ [n]), true, []⟩ = t.L.length + 1 := by unfold manyG look; rw [hno]
  have hb : bytesG t ⟨pF (ns ++ [n]), true, []⟩ = sizesG t.L + (pF (ns ++ [n])).length := by unfold bytesG look; rw [hno]
  have e : makeG t (pF (ns ++ [n])) = ({ t with L := t.L ++ [⟨pF (ns ++ [n]), true, []⟩] }, 0) := by
    unfold makeG
    rw [ha, if_neg (by simp), if_neg (by simp [hk0])]
    unfold putG
    rw [if_neg (by rintro (h | h) <;> simp at h; omega), hm, hb, if_neg (by have := h.len; rintro (h | h) <;> first | omega | (simp only [List.length_nil, Nat.add_zero] at h; omega)), setM_eq]
    have hno' : lookM En.path (En.path ⟨pF (ns ++ [n]), true, []⟩) t.L = none := hno
    rw [hno']
  have hw := makeG_wf h.wf (pF (ns ++ [n]))
  rw [e] at hw ⊢
  refine ⟨rfl, h.cw, hw, ?_, ?_, fun j hj => ?_, fun x hx => ?_⟩
  · show (t.L ++ [_]).length = (ns ++ [n]).length
    rw [List.length_append, List.length_append, h.len]; rfl
  · show sizesG (t.L ++ [_]) ≤ _
    have : ∀ (L : List En) (x : En), sizesG (L ++ [x]) = sizesG L + (x.path.length + x.data.length) := fun L x => by
      induction L with
      | nil => show x.path.length + x.data.length + 0 = 0 + _; omega
      | cons a l ih => show a.path.length + a.data.length + sizesG (l ++ [x]) = a.path.length + a.data.length + sizesG l + _; omega
    rw [this, List.length_append, List.length_singleton]
    show sizesG t.L + ((pF (ns ++ [n])).length + 0) ≤ _
    omega
  · rw [List.length_append, List.length_singleton] at hj
    rcases Nat.lt_or_ge ns.length j with hlt | hge
    · rw [List.take_of_length_le (by rw [List.length_append, List.length_singleton]; omega), dirP_snoc, ← pF_snoc]
      unfold kindG look
      rw [if_neg h47, lookM_app, hno]
      show (match (if pF (ns ++ [n]) = pF (ns ++ [n]) then some (⟨pF (ns ++ [n]), true, []⟩ : En) else none) with | some e => if e.dir then 1 else 2 | none => 0) = 1
      rw [if_pos rfl]; rfl
    · rw [List.take_append_of_le_length hge]
      have hk := h.kd j hge
      unfold kindG look at hk ⊢
      split
      · rfl
      · rename_i hne
        rw [if_neg hne] at hk
        rw [lookM_app]
        cases hq : lookM En.path (dirP (ns.take j)) t.L with
        | none => rw [hq] at hk; cases hk
        | some e => rw [hq] at hk; exact hk
  · rcases List.mem_append.1 hx with hx | hx
    · have := h.pl x hx; omega
    · rw [List.mem_singleton.1 hx]; exact Nat.le_refl _
/-! Names brought. -/
def cl (c : UInt8) : UInt8 := if c.toNat < 32 ∨ c.toNat = 127 ∨ c.toNat = 47 then 95 else c
def clean (s : Bs) : Bs := (110 :: s.take (min s.length 20)).map cl
theorem cl_odd (c : UInt8) : odd (cl c).toNat = false := by
  unfold cl odd
  split
  · decide
  · rename_i h
    simp only [not_or] at h
    simp [h]
theorem clean_len (s : Bs) : (clean s).length ≤ 21 := by unfold clean; rw [List.length_map, List.length_cons, List.length_take]; omega
theorem clean_head (s : Bs) : ∃ r, clean s = 110 :: r := ⟨_, rfl⟩
theorem clean_mem {s : Bs} {c : UInt8} (h : c ∈ clean s) : odd c.toNat = false := by
  unfold clean at h
  obtain ⟨x, _, rfl⟩ := List.mem_map.1 h
  exact cl_odd x
theorem clean_good (s : Bs) : Good (clean s) := by
  obtain ⟨r, hr⟩ := clean_head s
  have hl := clean_len s
  have e1 : clean s ≠ [] := by rw [hr]; simp
  have e2 : clean s ≠ [46] := by rw [hr]; simp
  have e3 : clean s ≠ [46, 46] := by rw [hr]; simp
  refine ⟨?_, ?_, e1, e2, e3⟩
  · unfold nameB
    rw [decide_eq_true e1, decide_eq_true e2, decide_eq_true e3, decide_eq_true (by omega)]
    have : ((clean s).any fun b => odd b.toNat) = false := by
      rw [List.any_eq_false]; intro c hc; rw [clean_mem hc]; simp
    rw [this]; rfl
  · unfold countS
    refine List.count_eq_zero.2 fun h => ?_
    have := clean_mem h
    exact absurd this (by decide)
theorem kind_root (t : Tr) : kindG t [47] = 1 := by unfold kindG; rw [if_pos rfl]
theorem abs_x (t : Tr) : absG t [47, 120] = ([47, 120], 0) := absP (t := t) (b := [[120]]) (fun x hx => by rw [List.mem_singleton.1 hx]; exact ⟨by decide, by decide, by decide, by decide, by decide⟩) (fun j hj => by
  have : j = 0 := by simpa using hj
  subst this; exact kind_root t) (by decide) (by decide)
end Go.Proofs.YtjoakhpdajlhiaaDoor.V2.S
namespace Go.Proofs.YtjoakhpdajlhiaaDoor.V2.S
open Go
set_option maxRecDepth 100000
set_option maxHeartbeats 4000000
set_option linter.unusedVariables false
attribute [local irreducible] fN fO nM gM pM Phi.fn mp bl bpart bapp top1 pack
def FewS (H : HF) : Prop := ∀ {l : List Ac} {n : Nat} {m : T FObj} {v : FV}, RowA m n v l → (∀ a ∈ l, a.m ≤ 65535) → RetX 160 [] H [v] n m (fun v n' m' => ∃ o, FewOk o ∧ ActsAt m' n n' v o)
def FewS1 (H : HF) : Prop := ∀ {l : List Ac} {b Kk n : Nat} {m : T FObj} {x : Bool} {e : TypeId} {tl : Tl}, Am m b (.cells (acs l) e tl) → b < n → (∀ a ∈ l, a.m ≤ 65535) → RetX 160 [] H [.sl b 0 l.length Kk x 4] n m (fun v n' m' => ∃ o, FewOk o ∧ ActsAt m' n n' v o)
theorem few_s1 {O : Oz} (hO : O = zO) (Φ : Phi) : FewS1 (p8 O Φ) := fun {l b Kk n m x e0 tl} ha hb hm k P hn hf => by
  skip
  all_goals (conv => lhs; whnf)
  all_goals first
    | refine lpI hO (fun t e n' m' => ∃ i out v, i ≤ l.length ∧ i ≤ 40 ∧ t = 40 - i ∧ n ≤ n' ∧ n' ≤ n + 4 * i ∧ Kp n m m' ∧ out.length = i ∧ FewOk out ∧ ActsAt m' n n' v out ∧ e = eof [(2, .o .sl), (3, v), (4, .n .i64 i)]) ?_ ?_ _ 40 _ _ _ (by omega) ⟨0, [], .o .sl, by omega, by omega, by omega, by omega, by omega, Kp.refl _ _, rfl, ⟨by decide, fun a ha => absurd ha List.not_mem_nil⟩, .inl ⟨rfl, rfl⟩, rfl⟩
  · rintro t e n' m' ⟨i, out, v, _, _, _, h, _⟩; exact h
  · rintro t e n' m' ih ⟨i, out, v, hi, hi4, rfl, g1, g2, hk, hol, hok, hat, rfl⟩ hih
    rcases Nat.lt_or_ge i l.length with hlt | hge
    · obtain ⟨a, hgi⟩ : ∃ a, l[i]? = some a := ⟨l[i], List.getElem?_eq_getElem hlt⟩
      have ham := hm a (List.mem_of_getElem? hgi)
      rcases Nat.lt_or_ge i 40 with hl4 | hg4
      · have fin : ∀ (d : Bs) (n2 : Nat) (m2 : T FObj) (v2 : FV), d.length ≤ 9000 → n ≤ n2 → n2 ≤ n + 4 * (i + 1) → Kp n m m2 → ActsAt m2 n n2 v2 (out ++ [⟨a.w, a.p.take (min a.p.length 300), d, a.m⟩]) → ih (eof [(2, .o .sl), (3, v2), (4, .n .i64 (i + 1))]) ⟨n2, m2⟩ = P := fun d n2 m2 v2 h1 h2 h3 h4 h5 =>
          hih (40 - (i + 1)) _ _ _ (by omega) ⟨i + 1, _, v2, by omega, by omega, rfl, h2, h3, h4, by rw [List.length_append, hol]; rfl, ⟨by rw [List.length_append, hol]; exact hl4, fun y hy => by
            rcases List.mem_append.1 hy with hy | hy
            · exact hok.2 y hy
            · rw [List.mem_singleton.1 hy]; exact ⟨by show (a.p.take (min a.p.length 300)).length ≤ 300; rw [List.length_take]; omega, h1⟩⟩, h5, rfl⟩
        rcases hat with ⟨rfl, rfl⟩ | ⟨b1, K1, rfl, b2, b3, b4⟩
        all_goals
        repeat' ((conv => lhs; whnf); first | ((with_reducible refine fa0 hO ?_)) | ((with_reducible refine atLd ?_); refine ldC hO (by repeat (first | assumption | exact am_same (by omega) | apply am_ne (by omega) (by omega) | apply kp_am (by assumption) (by omega) | apply Kq.am (by assumption) (by omega) (by simp only [List.mem_cons, List.not_mem_nil, or_false, forall_eq_or_imp, forall_eq, false_implies, implies_true, ne_eq, and_true]; omega))) (by rfl) ?_) | (((with_reducible refine lsS hO ?_); try simp only [List.length_cons, List.length_nil, Nat.zero_add])) | ((with_reducible refine lvS hO ?_)) | ((with_reducible refine ltT hO (by omega) ?_)) | ((with_reducible refine mnI hO ?_)) | ((with_reducible refine ix0 hO (by omega) ?_)) | ((with_reducible refine ssH hO (by omega) ?_)) | ((with_reducible refine atSt ?_); first | refine stAc hO (by repeat (first | assumption | exact am_same (by omega) | apply am_ne (by omega) (by omega) | apply kp_am (by assumption) (by omega) | apply Kq.am (by assumption) (by omega) (by simp only [List.mem_cons, List.not_mem_nil, or_false, forall_eq_or_imp, forall_eq, false_implies, implies_true, ne_eq, and_true]; omega))) ?_ | refine stC hO (by repeat (first | assumption | exact am_same (by omega) | apply am_ne (by omega) (by omega) | apply kp_am (by assumption) (by omega) | apply Kq.am (by assumption) (by omega) (by simp only [List.mem_cons, List.not_mem_nil, or_false, forall_eq_or_imp, forall_eq, false_implies, implies_true, ne_eq, and_true]; omega))) (by kernel_rfl) (fun _ _ _ => rfl) (fun _ => rfl) ?_) | ((with_reducible refine alO hO (by omega) ?_)) | ((with_reducible refine atLn ?_); refine lnAc hO (by repeat (first | assumption | exact am_same (by omega) | apply am_ne (by omega) (by omega) | apply kp_am (by assumption) (by omega) | apply Kq.am (by assumption) (by omega) (by simp only [List.mem_cons, List.not_mem_nil, or_false, forall_eq_or_imp, forall_eq, false_implies, implies_true, ne_eq, and_true]; omega))) hgi ?_))
        all_goals (conv => lhs; whnf)
        all_goals first
          | refine lpI hO (fun t e n2 m2 => ∃ d, d.length ≤ 9000 ∧ t = 9000 - d.length ∧ n2 = n' + 1 ∧ Kp n' m' m2 ∧ Am m2 n' (.cells [wV a.w, .s (pack (a.p.take (min a.p.length 300))), .s (pack d), .n .u16 a.m] 25 .exact) ∧ e = eof [(2, .o .sl), (3, .o .sl), (4, .n .i64 i)]) ?_ ?_ _ (9000 - (a.d.take (min a.d.length 40)).length) _ _ _ (by omega) ⟨a.d.take (min a.d.length 40), by rw [List.length_take]; omega, by omega, rfl, (by repeat (first | assumption | exact Kp.refl _ _ | refine Kp.mp ?_ (by omega) (by omega) | refine Kp.trans ?_ (by assumption) (by omega))), am_same (by omega), rfl⟩
          | refine lpI hO (fun t e n2 m2 => ∃ d, d.length ≤ 9000 ∧ t = 9000 - d.length ∧ n2 = n' + 1 ∧ Kp n' m' m2 ∧ Am m2 n' (.cells [wV a.w, .s (pack (a.p.take (min a.p.length 300))), .s (pack d), .n .u16 a.m] 25 .exact) ∧ e = eof [(2, .o .sl), (3, .sl b1 0 out.length K1 false 4), (4, .n .i64 i)]) ?_ ?_ _ (9000 - (a.d.take (min a.d.length 40)).length) _ _ _ (by omega) ⟨a.d.take (min a.d.length 40), by rw [List.length_take]; omega, by omega, rfl, (by repeat (first | assumption | exact Kp.refl _ _ | refine Kp.mp ?_ (by omega) (by omega) | refine Kp.trans ?_ (by assumption) (by omega))), am_same (by omega), rfl⟩
        all_goals first
          | (rintro t e n' m' ⟨_, _, _, rfl, _⟩; omega)
          | (rintro t e n2 m2 ih2 ⟨d, q1, rfl, rfl, q3, q4, rfl⟩ hih2
             repeat' ((conv => lhs; whnf); first | ((with_reducible refine bsAc hO (by omega) ?_)) | ((with_reducible refine adS hO (by rw [List.length_take]; omega) ?_)) | ((with_reducible refine fa0 hO ?_)) | ((with_reducible refine atLd ?_); refine ldC hO (by repeat (first | assumption | exact am_same (by omega) | apply am_ne (by omega) (by omega) | apply kp_am (by assumption) (by omega) | apply Kq.am (by assumption) (by omega) (by simp only [List.mem_cons, List.not_mem_nil, or_false, forall_eq_or_imp, forall_eq, false_implies, implies_true, ne_eq, and_true]; omega))) (by rfl) ?_) | (((with_reducible refine lsS hO ?_); try simp only [List.length_cons, List.length_nil, Nat.zero_add])) | ((with_reducible refine ltB hO (fun h => ?_) (fun h => ?_))) | ((with_reducible refine neSB hO (fun h => ?_) (fun h => ?_))) | ((with_reducible refine adI hO (by omega) ?_)) | ((with_reducible refine sbI hO (by omega) (by omega) ?_)) | ((with_reducible refine rmI hO (by omega) ?_)) | ((with_reducible refine cvI hO (by omega) ?_)) | ((with_reducible refine mnI hO ?_)) | ((with_reducible refine ssH hO (by omega) ?_)) | ((with_reducible refine atSt ?_); refine stC hO (by repeat (first | assumption | exact am_same (by omega) | apply am_ne (by omega) (by omega) | apply kp_am (by assumption) (by omega) | apply Kq.am (by assumption) (by omega) (by simp only [List.mem_cons, List.not_mem_nil, or_false, forall_eq_or_imp, forall_eq, false_implies, implies_true, ne_eq, and_true]; omega))) (by rfl) (fun _ _ _ => rfl) (fun _ => rfl) ?_) | ((with_reducible refine atAp ?_); first | refine apAc hO (by repeat (first | assumption | exact am_same (by omega) | apply am_ne (by omega) (by omega) | apply kp_am (by assumption) (by omega) | apply Kq.am (by assumption) (by omega) (by simp only [List.mem_cons, List.not_mem_nil, or_false, forall_eq_or_imp, forall_eq, false_implies, implies_true, ne_eq, and_true]; omega))) (by repeat (first | assumption | exact am_same (by omega) | apply am_ne (by omega) (by omega) | apply kp_am (by assumption) (by omega) | apply Kq.am (by assumption) (by omega) (by simp only [List.mem_cons, List.not_mem_nil, or_false, forall_eq_or_imp, forall_eq, false_implies, implies_true, ne_eq, and_true]; omega))) (fun _ => rfl) (by omega) (by omega) (by rfl) ?_ | refine apAn hO (by repeat (first | assumption | exact am_same (by omega) | apply am_ne (by omega) (by omega) | apply kp_am (by assumption) (by omega) | apply Kq.am (by assumption) (by omega) (by simp only [List.mem_cons, List.not_mem_nil, or_false, forall_eq_or_imp, forall_eq, false_implies, implies_true, ne_eq, and_true]; omega))) (by omega) ?_) | ((with_reducible refine atLn ?_); refine lnA4 (a := ⟨a.w, a.p.take (min a.p.length 300), d, a.m⟩) hO (by repeat (first | assumption | exact am_same (by omega) | apply am_ne (by omega) (by omega) | apply kp_am (by assumption) (by omega) | apply Kq.am (by assumption) (by omega) (by simp only [List.mem_cons, List.not_mem_nil, or_false, forall_eq_or_imp, forall_eq, false_implies, implies_true, ne_eq, and_true]; omega))) (by rfl) ?_))
             all_goals (conv => lhs; whnf)
             all_goals first
               | exact hih2 (9000 - (d ++ d.take (min d.length (a.m % 9000 - d.length))).length) _ _ _ (by rw [List.length_append, List.length_take]; have := List.length_pos_iff.2 (by assumption : d ≠ []); omega) ⟨d ++ d.take (min d.length (a.m % 9000 - d.length)), by rw [List.length_append, List.length_take]; omega, rfl, rfl, (by repeat (first | assumption | exact Kp.refl _ _ | refine Kp.mp ?_ (by omega) (by omega) | refine Kp.trans ?_ (by assumption) (by omega))), am_same (by omega), rfl⟩
               | exact fin d _ _ _ q1 (by omega) (by omega) (by repeat (first | assumption | exact Kp.refl _ _ | refine Kp.mp ?_ (by omega) (by omega) | refine Kp.trans ?_ (by assumption) (by omega))) (.inr ⟨_, _, by rfl, by omega, by omega, am_same (by omega)⟩)
               | exact fin d _ _ _ q1 (by omega) (by omega) (by repeat (first | assumption | exact Kp.refl _ _ | refine Kp.mp ?_ (by omega) (by omega) | refine Kp.trans ?_ (by assumption) (by omega))) (.inr ⟨_, out.length + 1, by rw [List.length_append]; rfl, by omega, by omega, am_same (by omega)⟩))
      · skip
        repeat' ((conv => lhs; whnf); first | ((with_reducible refine lvS hO ?_)) | ((with_reducible refine ltT hO (by omega) ?_)) | ((with_reducible refine ltF hO (by omega) ?_)))
        all_goals (conv => lhs; whnf)
        all_goals first
          | exact hf _ _ _ (by omega) (by omega) (Kq.of (by repeat (first | assumption | exact Kp.refl _ _ | refine Kp.mp ?_ (by omega) (by omega) | refine Kp.trans ?_ (by assumption) (by omega))) _) ⟨out, hok, hat⟩
    · skip
      repeat' ((conv => lhs; whnf); first | ((with_reducible refine lvS hO ?_)) | ((with_reducible refine ltF hO (by omega) ?_)))
      all_goals (conv => lhs; whnf)
      all_goals first
        | exact hf _ _ _ (by omega) (by omega) (Kq.of (by repeat (first | assumption | exact Kp.refl _ _ | refine Kp.mp ?_ (by omega) (by omega) | refine Kp.trans ?_ (by assumption) (by omega))) _) ⟨out, hok, hat⟩
theorem few_nil {O : Oz} (hO : O = zO) (Φ : Phi) (n : Nat) (m : T FObj) : Ret0 (p8 O Φ) [.o .sl] n m (.o .sl) := fun k P hf => by
  skip
  all_goals (conv => lhs; whnf)
  all_goals first
    | refine lpI hO (fun q e n' m' => q = 0 ∧ n' = n ∧ m' = m ∧ e = eof [(2, .o .sl), (3, .o .sl), (4, .n .i64 0)]) ?_ ?_ _ 0 _ _ _ (by omega) ⟨rfl, rfl, rfl, rfl⟩
  · rintro q e n' m' ⟨_, rfl, _⟩; omega
  · rintro q e n' m' ih ⟨rfl, rfl, rfl, rfl⟩ hih
    repeat' ((conv => lhs; whnf); first | ((with_reducible refine lvN hO ?_)) | ((with_reducible refine ltF hO (by omega) ?_)))
    all_goals (conv => lhs; whnf)
    all_goals first
      | exact hf
theorem few_s {O : Oz} (hO : O = zO) (Φ : Phi) : FewS (p8 O Φ) := fun {l n m v} hR hm => by
  rcases hR with ⟨rfl, rfl⟩ | ⟨b, Kk, x, e, tl, rfl, hb, ha⟩
  · exact fun k P hn hf => few_nil hO Φ n m k P (hf _ _ _ (Nat.le_refl _) (by omega) (Kq.refl _ _ _) ⟨[], ⟨by decide, fun a ha => absurd ha List.not_mem_nil⟩, .inl ⟨rfl, rfl⟩⟩)
  · exact few_s1 hO Φ ha hb hm
end Go.Proofs.YtjoakhpdajlhiaaDoor.V2.S
namespace Go.Proofs.YtjoakhpdajlhiaaDoor.V2.S
open Go
set_option maxRecDepth 100000
set_option maxHeartbeats 4000000
set_option linter.unusedVariables false
attribute [local irreducible] fN fO nM gM pM Phi.fn mp bl bpart bapp top1 pack
def RunS (H : HF) : Prop := ∀ {l : List Ac} {n : Nat} {m : T FObj} {v : FV}, RowA m n v l → (∀ a ∈ l, a.m ≤ 65535) → RetX 40000 [] H [v] n m (fun v n' m' => ∃ tb mb t, v = .p tb 0 ∧ tb ≠ mb ∧ n ≤ tb ∧ tb < n' ∧ n ≤ mb ∧ mb < n' ∧ TreeAt m' tb mb 65 t ∧ WfT t)
theorem run_s {O : Oz} (hO : O = zO) (Φ : Phi) (HN : NewS (Phi.fn Φ 26)) (HF : FewS (Phi.fn Φ 8)) (HW : WriteS (Phi.fn Φ 13)) (HM : MakeS (Phi.fn Φ 14)) (HR : RemoveS (Phi.fn Φ 15)) (HC : CdS (Phi.fn Φ 16)) : RunS (p7 O Φ) := fun {l n m v0} hRA hm k P hn hf => by
  repeat' ((conv => lhs; whnf); first | ((with_reducible refine atFn ?_); first | (refine HN _ _ _ _ (by omega) (fun v1 n1 m1 h1 g1 k1 q1 => ?_); obtain ⟨tb, mb, rfl, htm, t1, t2, t3, t4, hT⟩ := q1; have k1p := Kq.kp k1) | (refine HF (hRA.kp k1p h1) hm _ _ (by omega) (fun v2 n2 m2 h2 g2 k2 q2 => ?_); obtain ⟨o, ho, hat⟩ := q2; have k2p := Kq.kp k2; rcases hat with ⟨rfl, rfl⟩ | ⟨b1, K1, rfl, b2, b3, b4⟩)) | ((with_reducible refine lvS hO ?_)) | ((with_reducible refine lvN hO ?_)))
  all_goals (conv => lhs; whnf)
  all_goals first
    | refine lpI hO (fun q e n' m' => ∃ i t x y, i ≤ o.length ∧ q = o.length - i ∧ n2 ≤ n' ∧ n' ≤ n + 162 + 761 * i ∧ Kp n m m' ∧ Am m' b1 (.cells (acs o) 25 .more) ∧ TreeAt m' tb mb 65 t ∧ WfT t ∧ e = eof [(2, .o .ptr), (10, .n .i64 i), (16, x), (30, y)]) ?_ ?_ _ o.length _ _ _ (by have := ho.1; omega) ⟨0, newG, .o .top, .o .top, by omega, rfl, by omega, by omega, (by repeat (first | assumption | exact Kp.refl _ _ | refine Kp.mp ?_ (by omega) (by omega) | refine Kp.trans ?_ (by assumption) (by omega))), b4, hT.kp (by repeat (first | assumption | exact Kp.refl _ _ | refine Kp.mp ?_ (by omega) (by omega) | refine Kp.trans ?_ (by assumption) (by omega))) (by assumption) (by assumption), newG_wf, rfl⟩
    | refine lpI hO (fun q e n' m' => q = 0 ∧ n' = n2 ∧ m' = m2 ∧ e = eof [(2, .o .ptr), (10, .n .i64 0)]) ?_ ?_ _ 0 _ _ _ (by omega) ⟨rfl, rfl, rfl, rfl⟩
  all_goals first
    | (rintro q e n' m' ⟨_, rfl, _⟩; omega; done)
    | (rintro q e n' m' ⟨i, t, x, y, _, _, h, _⟩; omega; done)
    | skip
  · rintro q e n' m' ih ⟨rfl, rfl, rfl, rfl⟩ hih
    repeat' ((conv => lhs; whnf); first | ((with_reducible refine ltF hO (by omega) ?_)))
    all_goals (conv => lhs; whnf)
    all_goals first
      | exact hf _ _ _ (by omega) (by omega) (by repeat (first | assumption | exact Kq.refl _ _ _ | exact Kq.of (by assumption) _ | refine Kq.mp ?_ (by first | exact .inl (by omega) | exact .inr (by simp)) (by omega) | refine Kq.transP ?_ (by assumption) (by omega) | refine Kq.trans ?_ (by assumption) (by omega))) ⟨tb, mb, newG, rfl, htm, by omega, by omega, by omega, by omega, hT.kp (by repeat (first | assumption | exact Kp.refl _ _ | refine Kp.mp ?_ (by omega) (by omega) | refine Kp.trans ?_ (by assumption) (by omega))) (by assumption) (by assumption), newG_wf⟩
  · have hol := ho.1
    rintro q e n' m' ih ⟨i, t, x9, y9, hi, rfl, g7, g8, hk, ham, hT, hW, rfl⟩ hih
    have htb : tb < n' := by omega
    have hmb : mb < n' := by omega
    rcases Nat.lt_or_ge i o.length with hlt | hge
    · obtain ⟨⟨w, p, d, mm⟩, hgi⟩ : ∃ a, o[i]? = some a := ⟨o[i], List.getElem?_eq_getElem hlt⟩
      obtain ⟨hp, hd⟩ : p.length ≤ 300 ∧ d.length ≤ 9000 := ho.2 _ (List.mem_of_getElem? hgi)
      rcases w with x | x
      all_goals
        repeat' ((conv => lhs; whnf); first | ((with_reducible refine atFn ?_); first | refine HW (hT.kp (by repeat (first | assumption | exact Kp.refl _ _ | refine Kp.mp ?_ (by omega) (by omega) | refine Kp.trans ?_ (by assumption) (by omega))) htb hmb) (by omega) (by omega) htm hW _ _ _ (by omega) (by omega) _ _ (by omega) (fun v5 n5 m5 h5 g5 k5 q5 => (fun k5l => ?_) (Kq.low (n := n) k5 (by omega) (by simp only [List.mem_cons, List.not_mem_nil, or_false, forall_eq]; omega))) | refine HM (hT.kp (by repeat (first | assumption | exact Kp.refl _ _ | refine Kp.mp ?_ (by omega) (by omega) | refine Kp.trans ?_ (by assumption) (by omega))) htb hmb) (by omega) (by omega) htm hW _ (by omega) _ _ (by omega) (fun v5 n5 m5 h5 g5 k5 q5 => (fun k5l => ?_) (Kq.low (n := n) k5 (by omega) (by simp only [List.mem_cons, List.not_mem_nil, or_false, forall_eq]; omega))) | refine HR (hT.kp (by repeat (first | assumption | exact Kp.refl _ _ | refine Kp.mp ?_ (by omega) (by omega) | refine Kp.trans ?_ (by assumption) (by omega))) htb hmb) (by omega) (by omega) htm hW _ (by omega) _ _ (by omega) (fun v5 n5 m5 h5 g5 k5 q5 => (fun k5l => ?_) (Kq.low (n := n) k5 (by omega) (by simp only [List.mem_cons, List.not_mem_nil, or_false, forall_eq]; omega))) | refine HC (hT.kp (by repeat (first | assumption | exact Kp.refl _ _ | refine Kp.mp ?_ (by omega) (by omega) | refine Kp.trans ?_ (by assumption) (by omega))) htb hmb) (by omega) (by omega) hW _ (by omega) _ _ (by omega) (fun v5 n5 m5 h5 g5 k5 q5 => (fun k5l => ?_) (Kq.low (n := n) k5 (by omega) (by simp only [List.mem_cons, List.not_mem_nil, or_false, forall_eq]; omega)))) | ((with_reducible refine fa0 hO ?_)) | ((with_reducible refine atLd ?_); refine ldC hO (by repeat (first | assumption | exact am_same (by omega) | apply am_ne (by omega) (by omega) | apply kp_am (by assumption) (by omega) | apply Kq.am (by assumption) (by omega) (by simp only [List.mem_cons, List.not_mem_nil, or_false, forall_eq_or_imp, forall_eq, false_implies, implies_true, ne_eq, and_true]; omega))) (by rfl) ?_) | ((with_reducible refine ltT hO (by omega) ?_)) | ((with_reducible refine eqT hO (by omega) ?_)) | ((with_reducible refine eqF hO (by omega) ?_)) | ((with_reducible refine eqB hO (fun h => ?_) (fun h => ?_))) | ((with_reducible refine adI hO (by omega) ?_)) | ((with_reducible refine ix0 hO (by omega) ?_)) | ((with_reducible refine atSt ?_); first | refine stAg (r := [.n .i64 x, .s (pack p), .s (pack d), .n .u16 mm]) hO (by repeat (first | assumption | exact am_same (by omega) | apply am_ne (by omega) (by omega) | apply kp_am (by assumption) (by omega) | apply Kq.am (by assumption) (by omega) (by simp only [List.mem_cons, List.not_mem_nil, or_false, forall_eq_or_imp, forall_eq, false_implies, implies_true, ne_eq, and_true]; omega))) (by rfl) (by rfl) (fun _ => rfl) ?_ | refine stAg (r := [.z .i64 x, .s (pack p), .s (pack d), .n .u16 mm]) hO (by repeat (first | assumption | exact am_same (by omega) | apply am_ne (by omega) (by omega) | apply kp_am (by assumption) (by omega) | apply Kq.am (by assumption) (by omega) (by simp only [List.mem_cons, List.not_mem_nil, or_false, forall_eq_or_imp, forall_eq, false_implies, implies_true, ne_eq, and_true]; omega))) (by rfl) (by rfl) (fun _ => rfl) ?_) | ((with_reducible refine alO hO (by omega) ?_)) | ((with_reducible refine atLn ?_); refine lnAc hO (by repeat (first | assumption | exact am_same (by omega) | apply am_ne (by omega) (by omega) | apply kp_am (by assumption) (by omega) | apply Kq.am (by assumption) (by omega) (by simp only [List.mem_cons, List.not_mem_nil, or_false, forall_eq_or_imp, forall_eq, false_implies, implies_true, ne_eq, and_true]; omega))) hgi ?_) | ((with_reducible first | refine umt hO ?_ | refine uqu hO ?_ | refine urm hO ?_ | refine uan hO ?_ | refine uro hO ?_ | refine uxr hO ?_ | refine uhl hO ?_ | refine uhr hO ?_ | refine uad hO ?_ | refine usb hO ?_ | refine ult hO ?_ | refine ule hO ?_ | refine ugt hO ?_ | refine uge hO ?_ | refine ueq hO ?_ | refine une hO ?_ | refine ucv hO ?_ | refine uia hO ?_ | refine usv hO ?_ | refine ubu hO ?_ | refine uap hO ?_ | refine ubs hO ?_ | refine umm hO ?_ | refine upq hO ?_ | refine unq hO ?_ | refine uln hO ?_)))
        all_goals (conv => lhs; whnf)
      all_goals first
        | exact hih (o.length - (i + 1)) _ _ _ (by omega) ⟨i + 1, _, _, _, by omega, rfl, by omega, by omega, (by repeat (first | assumption | exact Kp.refl _ _ | refine Kp.mp ?_ (by omega) (by omega) | refine Kp.trans ?_ (by assumption) (by omega))), (by repeat (first | assumption | exact am_same (by omega) | apply am_ne (by omega) (by omega) | apply kp_am (by assumption) (by omega) | apply Kq.am (by assumption) (by omega) (by simp only [List.mem_cons, List.not_mem_nil, or_false, forall_eq_or_imp, forall_eq, false_implies, implies_true, ne_eq, and_true]; omega))), q5.2, by first | exact writeG_wf hW _ _ _ | exact makeG_wf hW _ | exact removeG_wf hW _, rfl⟩
        | exact hih (o.length - (i + 1)) _ _ _ (by omega) ⟨i + 1, _, _, _, by omega, rfl, by omega, by omega, (by repeat (first | assumption | exact Kp.refl _ _ | refine Kp.mp ?_ (by omega) (by omega) | refine Kp.trans ?_ (by assumption) (by omega))), (by repeat (first | assumption | exact am_same (by omega) | apply am_ne (by omega) (by omega) | apply kp_am (by assumption) (by omega) | apply Kq.am (by assumption) (by omega) (by simp only [List.mem_cons, List.not_mem_nil, or_false, forall_eq_or_imp, forall_eq, false_implies, implies_true, ne_eq, and_true]; omega))), q5.2 htm, cdG_wf hW _, rfl⟩
        | exact hih (o.length - (i + 1)) _ _ _ (by omega) ⟨i + 1, t, _, _, by omega, rfl, by omega, by omega, (by repeat (first | assumption | exact Kp.refl _ _ | refine Kp.mp ?_ (by omega) (by omega) | refine Kp.trans ?_ (by assumption) (by omega))), (by repeat (first | assumption | exact am_same (by omega) | apply am_ne (by omega) (by omega) | apply kp_am (by assumption) (by omega) | apply Kq.am (by assumption) (by omega) (by simp only [List.mem_cons, List.not_mem_nil, or_false, forall_eq_or_imp, forall_eq, false_implies, implies_true, ne_eq, and_true]; omega))), hT.kp (by repeat (first | assumption | exact Kp.refl _ _ | refine Kp.mp ?_ (by omega) (by omega) | refine Kp.trans ?_ (by assumption) (by omega))) htb hmb, hW, rfl⟩
    · skip
      repeat' ((conv => lhs; whnf); first | ((with_reducible refine ltF hO (by omega) ?_)))
      all_goals (conv => lhs; whnf)
      all_goals first
        | exact hf _ _ _ (by omega) (by omega) (Kq.of (by repeat (first | assumption | exact Kp.refl _ _ | refine Kp.mp ?_ (by omega) (by omega) | refine Kp.trans ?_ (by assumption) (by omega))) _) ⟨tb, mb, t, rfl, htm, by omega, by omega, by omega, by omega, hT, hW⟩
end Go.Proofs.YtjoakhpdajlhiaaDoor.V2.S
namespace Go.Proofs.YtjoakhpdajlhiaaDoor.V2.S
open Go
set_option maxRecDepth 100000
set_option maxHeartbeats 4000000
set_option linter.unusedVariables false
attribute [local irreducible] fN fO nM gM pM Phi.fn mp bl bpart bapp top1 pack
def tT1 : Tr := ⟨[⟨[47, 97], true, []⟩], [47]⟩
def tT2 : Tr := ⟨[⟨[47, 97], true, []⟩, ⟨[47, 97, 47, 102], false, [120]⟩], [47]⟩
def tT3 : Tr := ⟨[⟨[47, 97], true, []⟩, ⟨[47, 97, 47, 102], false, [120]⟩], [47, 97]⟩
theorem tellsM : makeG newG [97] = (tT1, 0) := by rfl
theorem tellsW : writeG tT1 [97, 47, 46, 46, 47, 97, 47, 46, 47, 102] [120] false = (tT2, 0) := by rfl
theorem tellsC : cdG tT2 [47, 97] = (tT3, 0) := by rfl
theorem tellsR : readG tT3 [102] = ([120], 0) := by rfl
theorem tT1_wf : WfT tT1 := by have := makeG_wf newG_wf [97]; rw [tellsM] at this; exact this
theorem tT2_wf : WfT tT2 := by have := writeG_wf tT1_wf [97, 47, 46, 46, 47, 97, 47, 46, 47, 102] [120] false; rw [tellsW] at this; exact this
theorem tT3_wf : WfT tT3 := by have := cdG_wf tT2_wf [47, 97]; rw [tellsC] at this; exact this
def TellsS (H : HF) : Prop := ∀ (n : Nat) (m : T FObj), Ret 4000 H [] n m (.b true)
theorem tells_s {O : Oz} (hO : O = zO) (Φ : Phi) (HN : NewS (Phi.fn Φ 26)) (HM : MakeS (Phi.fn Φ 14)) (HW : WriteS (Phi.fn Φ 13)) (HC : CdS (Phi.fn Φ 16)) (HD : ReadS (Phi.fn Φ 20)) (HE : CwdS (Phi.fn Φ 11)) : TellsS (p18 O Φ) := fun n m k P hn hf => by
  repeat' ((conv => lhs; whnf); first | ((with_reducible refine atFn ?_); first | (refine HN _ _ _ _ (by omega) (fun v1 n1 m1 h1 g1 k1 q1 => ?_); obtain ⟨tb, mb, rfl, htm, t1, htb, t3, hmb, hT⟩ := q1; have k1p := Kq.kp k1) | (refine HM (t := newG) (hT.kp (by repeat (first | assumption | exact Kp.refl _ _ | refine Kp.mp ?_ (by omega) (by omega) | refine Kp.trans ?_ (by assumption) (by omega))) htb hmb) (by omega) (by omega) htm newG_wf _ (by decide) _ _ (by omega) (fun v5 n5 m5 h5 g5 k5 q5 => (fun k5l => ?_) (Kq.low (n := n) k5 (by omega) (by simp only [List.mem_cons, List.not_mem_nil, or_false, forall_eq]; omega))); obtain ⟨hv, hT⟩ := q5; rw [tellsM] at hv hT; have htb : tb < n5 := (by omega); have hmb : mb < n5 := (by omega); subst hv) | (refine HW (t := tT1) (hT.kp (by repeat (first | assumption | exact Kp.refl _ _ | refine Kp.mp ?_ (by omega) (by omega) | refine Kp.trans ?_ (by assumption) (by omega))) htb hmb) (by omega) (by omega) htm tT1_wf _ _ _ (by decide) (by decide) _ _ (by omega) (fun v5 n5 m5 h5 g5 k5 q5 => (fun k5l => ?_) (Kq.low (n := n) k5 (by omega) (by simp only [List.mem_cons, List.not_mem_nil, or_false, forall_eq]; omega))); obtain ⟨hv, hT⟩ := q5; rw [tellsW] at hv hT; have htb : tb < n5 := (by omega); have hmb : mb < n5 := (by omega); subst hv) | (refine HC (t := tT2) (hT.kp (by repeat (first | assumption | exact Kp.refl _ _ | refine Kp.mp ?_ (by omega) (by omega) | refine Kp.trans ?_ (by assumption) (by omega))) htb hmb) (by omega) (by omega) tT2_wf _ (by decide) _ _ (by omega) (fun v5 n5 m5 h5 g5 k5 q5 => (fun k5l => ?_) (Kq.low (n := n) k5 (by omega) (by simp only [List.mem_cons, List.not_mem_nil, or_false, forall_eq]; omega))); obtain ⟨hv, hT⟩ := q5; have hT := hT htm; rw [tellsC] at hv hT; have htb : tb < n5 := (by omega); have hmb : mb < n5 := (by omega); subst hv) | (refine HD (t := tT3) (hT.kp (by repeat (first | assumption | exact Kp.refl _ _ | refine Kp.mp ?_ (by omega) (by omega) | refine Kp.trans ?_ (by assumption) (by omega))) htb hmb) (by omega) (by omega) tT3_wf _ (by decide) _ _ (by omega) (fun n5 m5 h5 g5 k5 => ?_); rw [tellsR]) | (refine HE (t := tT3) (hT.kp (by repeat (first | assumption | exact Kp.refl _ _ | refine Kp.mp ?_ (by omega) (by omega) | refine Kp.trans ?_ (by assumption) (by omega))) htb hmb) (by omega) (by omega) _ _ ?_)) | ((with_reducible refine eqT hO (by omega) ?_)) | ((with_reducible refine eqST hO (by first | rfl | assumption) ?_)) | ((with_reducible refine eqSB hO (fun h => ?_) (fun h => ?_))))
  all_goals (conv => lhs; whnf)
  all_goals first
    | exact hf _ _ (by omega) (by omega) (by repeat (first | assumption | exact Kp.refl _ _ | refine Kp.mp ?_ (by omega) (by omega) | refine Kp.trans ?_ (by assumption) (by omega)))
    | (rename_i hx; exact absurd rfl hx)
    | exact absurd rfl h
end Go.Proofs.YtjoakhpdajlhiaaDoor.V2.S
namespace Go.Proofs.YtjoakhpdajlhiaaDoor.V2.S
open Go
set_option maxRecDepth 100000
set_option maxHeartbeats 4000000
set_option linter.unusedVariables false
attribute [local irreducible] fN fO nM gM pM Phi.fn mp bl bpart bapp top1
theorem bset_pack {v : UInt8} : ∀ {l : Bs} {i : Nat}, i < l.length → bset (pack l) i v.toNat = pack (l.set i v)
  | [], i, h => by simp at h
  | b :: l, 0, h => by
    rw [bset_eq, List.set_cons_zero]
    have hb := UInt8.toNat_lt b
    show (b.toNat + 256 * pack l) + v.toNat * 256 ^ 0 - ((b.toNat + 256 * pack l) / 256 ^ 0 % 256) * 256 ^ 0 = v.toNat + 256 * pack l
    rw [Nat.pow_zero, Nat.div_one]; omega
  | b :: l, i + 1, h => by
    have ih := bset_pack (v := v) (l := l) (i := i) (by simpa using h)
    rw [bset_eq] at ih ⊢
    rw [List.set_cons_succ]
    have hb := UInt8.toNat_lt b
    show (b.toNat + 256 * pack l) + v.toNat * 256 ^ (i + 1) - ((b.toNat + 256 * pack l) / 256 ^ (i + 1) % 256) * 256 ^ (i + 1) = b.toNat + 256 * pack (l.set i v)
    rw [← ih, Nat.pow_succ, Nat.mul_comm (256 ^ i) 256, ← Nat.div_div_eq_div_mul, show (b.toNat + 256 * pack l) / 256 = pack l by omega]
    have h1 : (pack l / 256 ^ i % 256) * 256 ^ i ≤ pack l := Nat.le_trans (Nat.mul_le_mul_right _ (Nat.mod_le _ _)) (Nat.div_mul_le_self _ _)
    have e1 : ∀ a : Nat, a * (256 * 256 ^ i) = 256 * (a * 256 ^ i) := fun a => by rw [← Nat.mul_assoc, Nat.mul_comm a 256, Nat.mul_assoc]
    rw [e1, e1]; omega
theorem stB {O : Oz} (hO : O = zO) {P : FR} {k : KV} {n : Nat} {m : T FObj} {b i v : Nat} {l : Bs} {e : TypeId} {t : Tl} (ha : Am m b (.bs (pack l) e t)) (hi : i < l.length) (hv : v < 256) (ht : ∀ r, gW t r = r) (h : k (.tup []) ⟨n, mp m b (.bs (pack (l.set i (UInt8.ofNat v))) e t)⟩ = P) : O.st 1 (.p b i) (.n .u8 v) ⟨n, m⟩ k = P := by
  subst hO
  show (gM ⟨n, m⟩ b fun ob => woF ob 1 i (.n .u8 v) fun ob => pM ⟨n, m⟩ b ob fun σ => k (.tup []) σ) = P
  rw [gM_am ha]
  show (gW t (gT (Nat.beq 1 1) (gT (Nat.ble (Nat.succ v) 256) (gT (Nat.ble (Nat.succ i) (bl (pack l))) (fN (bset (pack l) i v) fun s' => gT (Nat.beq (bl s') (bl (pack l))) (pM ⟨n, m⟩ b (.bs s' e t) fun σ => k (.tup []) σ)))))) = P
  have e1 : bset (pack l) i v = pack (l.set i (UInt8.ofNat v)) := by
    have := bset_pack (v := UInt8.ofNat v) hi
    rwa [UInt8.toNat_ofNat', Nat.mod_eq_of_lt (by omega)] at this
  rw [ht, fN_eq, e1, bl_pack, bl_pack, List.length_set, gTt (b := Nat.beq 1 1) rfl, gTt (ble_t (by omega)), gTt (ble_t (by omega)), gTt (beqT' rfl), pM_mp]
  exact h
theorem bSS {O : Oz} (hO : O = zO) {P : FR} {c : FV → FR} {n : Nat} {m : T FObj} {b L Kk : Nat} {x : Bool} {l : Bs} {e : TypeId} {t : Tl} (ha : Am m b (.bs (pack l) e t)) (hl : l.length = L) (h : c (.s (pack l)) = P) : O.bS (.sl b 0 L Kk x 1) ⟨n, m⟩ c = P := by
  subst hO
  show (rowQ false 1 ⟨n, m⟩ (.sl b 0 L Kk x 1) fun _ R => kR (fun s => c (.s s)) (fun l => List.rec (motive := fun _ => FR) (c (.s 1)) (fun _ _ _ => .bad) l) (fun _ _ => slV (lstep std (αH ⟨n, m⟩) .sl2str [αV (.sl b 0 L Kk x 1)]) c) R) = P
  rw [rowQs, rowSb ha (by omega)]
  show c (.s (pack ((l.drop 0).take L))) = P
  rw [List.drop_zero, List.take_of_length_le (by omega)]; exact h
end Go.Proofs.YtjoakhpdajlhiaaDoor.V2.S
namespace Go.Proofs.YtjoakhpdajlhiaaDoor.V2.S
open Go
set_option maxRecDepth 100000
set_option maxHeartbeats 4000000
set_option linter.unusedVariables false
attribute [local irreducible] fN fO nM gM pM Phi.fn mp bl bpart bapp top1 pack
def repG : Bs := [46, 46, 47, 46, 46, 47, 46, 46, 47, 46, 46, 47, 46, 46, 47, 46, 46, 47, 46, 46, 47, 46, 46, 47, 46, 46, 47]
theorem repG_split : splitB repG = List.replicate 9 [46, 46] ++ [[]] := by decide
theorem step_root {t : Tr} : stepG t [47] [46, 46] = .inr [47] := by
  unfold stepG
  rw [if_neg (by decide), if_neg (by decide), if_neg (by rw [kind_root]; decide), if_neg (by rw [kind_root]; decide), if_pos rfl]; rfl
theorem loop_root {t : Tr} : ∀ k, loopG t [47] (List.replicate k [46, 46] ++ [[]]) = .inr [47]
  | 0 => by show loopG t [47] [[]] = _; rw [loopG_step step_e]; rfl
  | k + 1 => by rw [List.replicate_succ, List.cons_append, loopG_step step_root]; exact loop_root k
theorem loop_up {t : Tr} : ∀ (k : Nat) (a : List Bs), a.length ≤ k → (∀ x ∈ a, Good x) → (∀ j, j ≤ a.length → kindG t (dirP (a.take j)) = 1) → loopG t (dirP a) (List.replicate k [46, 46] ++ [[]]) = .inr [47]
  | k, a, h, hg, hk => by
    rcases List.eq_nil_or_concat a with rfl | ⟨b, x, rfl⟩
    · exact loop_root k
    · rw [List.concat_eq_append] at *
      rw [List.length_append, List.length_singleton] at h
      obtain ⟨q, rfl⟩ : ∃ q, k = q + 1 := ⟨k - 1, by omega⟩
      have h1 := hk (b ++ [x]).length (Nat.le_refl _)
      rw [List.take_length] at h1
      rw [List.replicate_succ, List.cons_append, loopG_step (step_up (hg x (by simp)) h1)]
      exact loop_up q b (by omega) (fun y hy => hg y (by simp [hy])) fun j hj => by
        have := hk j (by rw [List.length_append]; omega)
        rwa [List.take_append_of_le_length hj] at this
structure EndP (t t2 : Tr) (p w : Bs) : Prop where
  a1 : absG t p = (p, 0)
  a2 : absG t w = (p, 0)
  wl : w.length ≤ 256
  cd : cdG t w = (t2, 0)
  cw : t2.cwd = p
  h1 : absG t2 [46] = (p, 0)
  h2 : absG t2 repG = ([47], 0)
theorem abs_dot {t : Tr} : absG t [46] = (t.cwd, 0) := by
  unfold absG
  rw [if_neg (by decide), show hasPre [46] [47] = false by decide, show splitB [46] = [[46]] by decide]
  show (match loopG t t.cwd [[46]] with | .inl e => ([], e) | .inr a => (a, 0)) = _
  rw [loopG_step step_d]; rfl
theorem abs_rep {t : Tr} {a : List Bs} (hc : t.cwd = dirP a) (h4 : a.length ≤ 9) (hg : ∀ x ∈ a, Good x) (hk : ∀ j, j ≤ a.length → kindG t (dirP (a.take j)) = 1) : absG t repG = ([47], 0) := by
  unfold absG
  rw [if_neg (by decide), show hasPre repG [47] = false by decide, repG_split]
  show (match loopG t t.cwd (List.replicate 9 [46, 46] ++ [[]]) with | .inl e => ([], e) | .inr a => (a, 0)) = _
  rw [hc, loop_up 9 a h4 hg hk]
theorem kind_cwd (t : Tr) (c p : Bs) : kindG { t with cwd := c } p = kindG t p := rfl
theorem pF_wide_len : ∀ {ns : List Bs}, (∀ x ∈ ns, x.length ≤ 21) → (pF (ns.flatMap wideG)).length ≤ 52 * ns.length
  | [], _ => Nat.le_refl _
  | n :: ns, h => by
    have h1 := h n List.mem_cons_self
    have h2 := pF_wide_len fun x hx => h x (List.mem_cons_of_mem _ hx)
    rw [List.flatMap_cons, pF_app, List.length_append, List.length_cons]
    have : (pF (wideG n)).length = 10 + 2 * n.length := by simp only [wideG, pF, List.length_append, List.length_cons, List.length_nil]; omega
    omega
theorem Tk.fin {t : Tr} {ns : List Bs} (h : Tk t ns) (hg : ∀ x ∈ ns, Good x) (h4 : ns.length ≤ 4) (h21 : ∀ x ∈ ns, x.length ≤ 21) (hne : ns ≠ []) : EndP t { t with cwd := pF ns } (pF ns) (pF (ns.flatMap wideG)) := by
  have hl1 := pF_len h21
  have hl2 := pF_wide_len h21
  have hd : dirP ns = pF ns := by unfold dirP; rw [if_neg hne]
  have hk := h.kd ns.length (Nat.le_refl _)
  rw [List.take_length, hd] at hk
  have a2 := absW (t := t) hg h.kd (by omega) hne
  refine ⟨absP hg (fun j hj => h.kd j (by omega)) (by omega) hne, a2, by omega, ?_, rfl, abs_dot, abs_rep (a := ns) hd.symm (by omega) hg fun j hj => by rw [kind_cwd]; exact h.kd j hj⟩
  have hi : isG t (pF (ns.flatMap wideG)) 1 = (pF ns, 0) := by
    unfold isG
    rw [a2, if_neg (by simp), if_pos hk]
  unfold cdG
  rw [hi, if_neg (by simp)]
theorem Tk.fin0 {t : Tr} (h : Tk t []) : EndP t { t with cwd := [47] } [47] [47, 46, 46] := by
  have b1 : absG t [47] = ([47], 0) := by
    unfold absG
    rw [if_neg (by decide), show hasPre [47] [47] = true by decide, show splitB [47] = [[], []] by decide, if_pos rfl, loopG_step step_e, loopG_step step_e]; rfl
  have b2 : absG t [47, 46, 46] = ([47], 0) := by
    unfold absG
    rw [if_neg (by decide), show hasPre [47, 46, 46] [47] = true by decide, show splitB [47, 46, 46] = [[], [46, 46]] by decide, if_pos rfl, loopG_step step_e, loopG_step step_root]; rfl
  refine ⟨b1, b2, by decide, ?_, rfl, abs_dot, abs_rep (a := []) rfl (by decide) (fun x hx => absurd hx List.not_mem_nil) fun j hj => by rw [List.take_nil]; exact kind_root _⟩
  have hi : isG t [47, 46, 46] 1 = ([47], 0) := by
    unfold isG
    rw [b2, if_neg (by simp), if_pos (kind_root t)]
  unfold cdG
  rw [hi, if_neg (by simp)]
/-! Bytes brought one by one. -/
def curB (r : Bs) (j : Nat) : Bs := (r.take j).map cl ++ r.drop j
theorem curB_len (r : Bs) (j : Nat) : (curB r j).length = r.length := by unfold curB; rw [List.length_append, List.length_map, List.length_take, List.length_drop]; omega
theorem curB_end {r : Bs} {j : Nat} (h : r.length ≤ j) : curB r j = r.map cl := by unfold curB; rw [List.take_of_length_le h, List.drop_of_length_le h, List.append_nil]
theorem curB_split {r : Bs} {j : Nat} (h : j < r.length) : curB r j = (r.take j).map cl ++ r[j] :: r.drop (j + 1) := by unfold curB; rw [List.drop_eq_getElem_cons h]
theorem curB_succ {r : Bs} {j : Nat} (h : j < r.length) : curB r (j + 1) = (r.take j).map cl ++ cl r[j] :: r.drop (j + 1) := by
  unfold curB; rw [List.take_succ_eq_append_getElem h, List.map_append, List.append_assoc]; rfl
theorem curB_bt {r : Bs} {j : Nat} (h : j < r.length) : bt (curB r j) j = (r[j]).toNat := by
  unfold bt
  rw [curB_split h, List.getD_eq_getElem?_getD, List.getElem?_append_right (by rw [List.length_map, List.length_take]; omega), List.length_map, List.length_take, Nat.min_eq_left (by omega), Nat.sub_self]; rfl
theorem curB_set {r : Bs} {j : Nat} (h : j < r.length) (hc : bt (curB r j) j < 32 ∨ bt (curB r j) j = 127 ∨ bt (curB r j) j = 47) : (curB r j).set j 95 = curB r (j + 1) := by
  rw [curB_bt h] at hc
  rw [curB_split h, curB_succ h, List.set_append_right _ _ (by rw [List.length_map, List.length_take]; omega), List.length_map, List.length_take, Nat.min_eq_left (by omega), Nat.sub_self, List.set_cons_zero, cl, if_pos hc]
theorem curB_same {r : Bs} {j : Nat} (h : j < r.length) (hc : ¬ (bt (curB r j) j < 32 ∨ bt (curB r j) j = 127 ∨ bt (curB r j) j = 47)) : curB r j = curB r (j + 1) := by
  rw [curB_bt h] at hc
  rw [curB_split h, curB_succ h, cl, if_neg hc]
end Go.Proofs.YtjoakhpdajlhiaaDoor.V2.S
namespace Go.Proofs.YtjoakhpdajlhiaaDoor.V2.S
open Go
set_option maxRecDepth 100000
set_option maxHeartbeats 4000000
set_option linter.unusedVariables false
attribute [local irreducible] fN fO nM gM pM Phi.fn mp bl bpart bapp top1 pack
theorem EndP.wf {t t2 : Tr} {p w : Bs} (h : EndP t t2 p w) (hW : WfT t) : WfT t2 := by have := cdG_wf hW w; rw [h.cd] at this; exact this
theorem EndP.pl {t t2 : Tr} {p w : Bs} (h : EndP t t2 p w) (hW : WfT t) : p.length ≤ 256 := by have := (h.wf hW).c2; rw [h.cw] at this; exact this
def RepS (H : HF) : Prop := ∀ (n : Nat) (m : T FObj), Ret 20 H [.s (pack [46, 46, 47]), .n .i64 9] n m (.s (pack repG))
def PathsS (H : HF) : Prop := ∀ {l : List Ac} {ns : List Bs} {b2 K2 n : Nat} {m : T FObj} {x2 : Bool} {e2 : TypeId} {tl2 : Tl} {v : FV}, RowA m n v l → (∀ a ∈ l, a.m ≤ 65535) → Am m b2 (.cells (vsL ns) e2 tl2) → b2 < n → Ret 60000 H [v, .sl b2 0 ns.length K2 x2 1] n m (.b true)
theorem paths_s {O : Oz} (hO : O = zO) (Φ : Phi) (HN : NewS (Phi.fn Φ 26)) (HM : MakeS (Phi.fn Φ 14)) (HA : AbsS (Phi.fn Φ 12)) (HC : CdS (Phi.fn Φ 16)) (HE : CwdS (Phi.fn Φ 11)) (HP : RepS (Phi.fn Φ 27)) (HR : RunS (Phi.fn Φ 7)) (HT : TellsS (Phi.fn Φ 18)) : PathsS (p6 O Φ) := fun {l ns b2 K2 n m x2 e2 tl2 v0} hRA hm ha2 hb2 k P hn hf => by
  repeat' ((conv => lhs; whnf); first | ((with_reducible refine atFn ?_); (refine HN _ _ _ _ (by omega) (fun v1 n1 m1 h1 g1 k1 q1 => ?_); obtain ⟨tb, mb, rfl, htm, t1, t2, t3, t4, hT⟩ := q1; have k1p := Kq.kp k1)) | ((with_reducible refine lvS hO ?_)))
  all_goals (conv => lhs; whnf)
  all_goals first
    | refine lpI hO (fun q e n' m' => ∃ i t y, i ≤ ns.length ∧ i ≤ 4 ∧ q = 4 - i ∧ n1 ≤ n' ∧ n' ≤ n + 2 + 762 * i ∧ Kp n m m' ∧ TreeAt m' tb mb 65 t ∧ Tk t ((ns.take i).map clean) ∧ e = eof [(4, .b false), (6, .s (pack (pF ((ns.take i).map clean)))), (7, .s (pack (pF (((ns.take i).map clean).flatMap wideG)))), (27, .n .i64 i), (43, y)]) ?_ ?_ _ 4 _ _ _ (by omega) ⟨0, newG, .o .top, by omega, by omega, rfl, by omega, by omega, (by repeat (first | assumption | exact Kp.refl _ _ | refine Kp.mp ?_ (by omega) (by omega) | refine Kp.trans ?_ (by assumption) (by omega))), hT, Tk.new, rfl⟩
  · rintro q e n' m' ⟨i, t, y, _, _, _, h, _⟩; omega
  · rintro q e n' m' ih ⟨i, t, y9, hi, hi4, rfl, g7, g8, hk, hT, hK, rfl⟩ hih
    have htb : tb < n' := by omega
    have hmb : mb < n' := by omega
    have hgood : ∀ y ∈ (ns.take i).map clean, Good y := fun y hy => by
      obtain ⟨z, _, rfl⟩ := List.mem_map.1 hy
      exact clean_good z
    have h21 : ∀ y ∈ (ns.take i).map clean, y.length ≤ 21 := fun y hy => by
      obtain ⟨z, _, rfl⟩ := List.mem_map.1 hy
      exact clean_len z
    have hlen : ((ns.take i).map clean).length = i := by rw [List.length_map, List.length_take]; omega
    have hl1 := pF_len h21
    have hl2 := pF_wide_len h21
    rw [hlen] at hl1 hl2
    by_cases hgo : i < ns.length ∧ i ≠ 4
    · obtain ⟨hlt, h4⟩ := hgo
      obtain ⟨s, hgi⟩ : ∃ s, ns[i]? = some s := ⟨ns[i], List.getElem?_eq_getElem hlt⟩
      have hgs := vsL_at hgi
      have hrl : ((110 : UInt8) :: s.take (min s.length 20)).length ≤ 21 := by rw [List.length_cons, List.length_take]; omega
      have hcl := clean_len s
      have htk : (ns.take (i + 1)).map clean = (ns.take i).map clean ++ [clean s] := by rw [List.take_add_one, hgi, List.map_append]; rfl
      have hmk := Tk.make (n := clean s) hK (fun y hy => by
        rw [← htk] at hy
        obtain ⟨z, _, rfl⟩ := List.mem_map.1 hy
        exact clean_good z) (by omega) (fun y hy => by
        rw [← htk] at hy
        obtain ⟨z, _, rfl⟩ := List.mem_map.1 hy
        exact clean_len z)
      have hpe : pF ((ns.take i).map clean) ++ ([47] ++ clean s) = pF ((ns.take i).map clean ++ [clean s]) := by rw [pF_snoc]; rfl
      have hwe : pF (((ns.take i).map clean).flatMap wideG) ++ (((([47, 47, 46, 47] ++ clean s) ++ [47, 46, 46, 47]) ++ clean s) ++ [47, 46]) = pF (((ns.take i).map clean ++ [clean s]).flatMap wideG) := by
        rw [List.flatMap_append, pF_app]
        simp [List.flatMap_cons, wideG, pF]
      have hpl : (pF ((ns.take i).map clean ++ [clean s])).length ≤ 900000 := by rw [← hpe, List.length_append, List.length_append, List.length_singleton]; omega
      repeat' ((conv => lhs; whnf); first | ((with_reducible refine adS hO (by simp only [List.length_cons, List.length_nil, List.length_take]; omega) ?_)) | ((with_reducible refine atLd ?_); refine ldC hO (by repeat (first | assumption | exact am_same (by omega) | apply am_ne (by omega) (by omega) | apply kp_am (by assumption) (by omega) | apply Kq.am (by assumption) (by omega) (by simp only [List.mem_cons, List.not_mem_nil, or_false, forall_eq_or_imp, forall_eq, false_implies, implies_true, ne_eq, and_true]; omega))) hgs ?_) | (((with_reducible refine lsS hO ?_); try simp only [List.length_cons, List.length_nil, Nat.zero_add])) | ((with_reducible refine lvS hO ?_)) | ((with_reducible refine ltT hO (by omega) ?_)) | ((with_reducible refine eqF hO (by omega) ?_)) | ((with_reducible refine mnI hO ?_)) | ((with_reducible refine ix01 hO (by omega) ?_)) | ((with_reducible refine ssH hO (by omega) ?_)) | ((with_reducible refine sBS hO (by omega) ?_)))
      all_goals (conv => lhs; whnf)
      all_goals first
        | refine lpI hO (fun q e n2 m2 => ∃ j, j ≤ ([110] ++ s.take (min s.length 20)).length ∧ q = ([110] ++ s.take (min s.length 20)).length - j ∧ n2 = n' + 1 ∧ Kp n' m' m2 ∧ Am m2 n' (.bs (pack (curB ([110] ++ s.take (min s.length 20)) j)) 5 .exact) ∧ e = eof [(4, .b false), (6, .s (pack (pF ((ns.take i).map clean)))), (7, .s (pack (pF (((ns.take i).map clean).flatMap wideG)))), (27, .n .i64 i), (43, .n .i64 j)]) ?_ ?_ _ ([110] ++ s.take (min s.length 20)).length _ _ _ (by simp only [List.length_append, List.length_singleton]; simp only [List.length_cons] at hrl; omega) ⟨0, by omega, by omega, rfl, (by repeat (first | assumption | exact Kp.refl _ _ | refine Kp.mp ?_ (by omega) (by omega) | refine Kp.trans ?_ (by assumption) (by omega))), am_same (by omega), rfl⟩
      · rintro q e n2 m2 ⟨_, _, _, rfl, _⟩; omega
      · rintro q e n2 m2 ih2 ⟨j, hj, rfl, rfl, q3, q4, rfl⟩ hih2
        have hrl2 : ([110] ++ s.take (min s.length 20)).length ≤ 21 := hrl
        rcases Nat.lt_or_ge j ([110] ++ s.take (min s.length 20)).length with hjl | hje
        · have hcl3 := curB_len ([110] ++ s.take (min s.length 20)) j
          repeat' ((conv => lhs; whnf); first | ((with_reducible refine atLd ?_); refine ldB hO (by repeat (first | assumption | exact am_same (by omega) | apply am_ne (by omega) (by omega) | apply kp_am (by assumption) (by omega) | apply Kq.am (by assumption) (by omega) (by simp only [List.mem_cons, List.not_mem_nil, or_false, forall_eq_or_imp, forall_eq, false_implies, implies_true, ne_eq, and_true]; omega))) (by omega) ?_) | ((with_reducible refine ltT hO (by omega) ?_)) | ((with_reducible refine ltB hO (fun h => ?_) (fun h => ?_))) | ((with_reducible refine eqB hO (fun h => ?_) (fun h => ?_))) | ((with_reducible refine adI hO (by omega) ?_)) | ((with_reducible refine ix01 hO (by omega) ?_)) | ((with_reducible refine atSt ?_); refine stB hO (by repeat (first | assumption | exact am_same (by omega) | apply am_ne (by omega) (by omega) | apply kp_am (by assumption) (by omega) | apply Kq.am (by assumption) (by omega) (by simp only [List.mem_cons, List.not_mem_nil, or_false, forall_eq_or_imp, forall_eq, false_implies, implies_true, ne_eq, and_true]; omega))) (by omega) (by omega) (fun _ => rfl) ?_))
          all_goals (conv => lhs; whnf)
          all_goals first
            | exact hih2 (([110] ++ s.take (min s.length 20)).length - (j + 1)) _ _ _ (by omega) ⟨j + 1, by omega, rfl, rfl, (by repeat (first | assumption | exact Kp.refl _ _ | refine Kp.mp ?_ (by omega) (by omega) | refine Kp.trans ?_ (by assumption) (by omega))), by rw [← curB_set hjl (by omega)]; exact am_same (by omega), rfl⟩
            | exact hih2 (([110] ++ s.take (min s.length 20)).length - (j + 1)) _ _ _ (by omega) ⟨j + 1, by omega, rfl, rfl, (by repeat (first | assumption | exact Kp.refl _ _ | refine Kp.mp ?_ (by omega) (by omega) | refine Kp.trans ?_ (by assumption) (by omega))), by rw [← curB_same hjl (by omega)]; exact q4, rfl⟩
        · have hce : curB ([110] ++ s.take (min s.length 20)) j = clean s := curB_end (by omega)
          have hcl2 : (clean s).length = ([110] ++ s.take (min s.length 20)).length := by rw [← hce, curB_len]
          rw [hce] at q4
          repeat' ((conv => lhs; whnf); first | (((with_reducible refine atBS ?_); refine bSS hO (by repeat (first | assumption | exact am_same (by omega) | apply am_ne (by omega) (by omega) | apply kp_am (by assumption) (by omega) | apply Kq.am (by assumption) (by omega) (by simp only [List.mem_cons, List.not_mem_nil, or_false, forall_eq_or_imp, forall_eq, false_implies, implies_true, ne_eq, and_true]; omega))) hcl2 ?_)) | ((with_reducible refine adS hO (by simp only [List.length_append, List.length_cons, List.length_nil]; omega) ?_)) | ((with_reducible refine atFn ?_); (rw [hpe]; refine HM (hT.kp (by repeat (first | assumption | exact Kp.refl _ _ | refine Kp.mp ?_ (by omega) (by omega) | refine Kp.trans ?_ (by assumption) (by omega))) htb hmb) (by omega) (by omega) htm hK.wf _ (by omega) _ _ (by omega) (fun v5 n5 m5 h5 g5 k5 q5 => (fun k5l => ?_) (Kq.low (n := n) k5 (by omega) (by simp only [List.mem_cons, List.not_mem_nil, or_false, forall_eq]; omega))); obtain ⟨hv, hT2⟩ := q5; rw [hmk.1] at hv; subst hv)) | ((with_reducible refine ltF hO (by omega) ?_)) | ((with_reducible refine neF hO (by omega) ?_)) | ((with_reducible refine adI hO (by omega) ?_)))
          all_goals (conv => lhs; whnf)
          all_goals first
            | (rw [hwe]; exact hih (4 - (i + 1)) _ _ _ (by omega) ⟨i + 1, _, _, by omega, by omega, rfl, by omega, by omega, (by repeat (first | assumption | exact Kp.refl _ _ | refine Kp.mp ?_ (by omega) (by omega) | refine Kp.trans ?_ (by assumption) (by omega))), hT2, by rw [htk]; exact hmk.2, by rw [htk]; rfl⟩)
    · obtain ⟨s, hgs⟩ : ∃ s, i < ns.length → (vsL ns)[i]? = some (.s (pack s)) := by
        rcases Nat.lt_or_ge i ns.length with hlt | hge
        · exact ⟨ns[i], fun _ => vsL_at (List.getElem?_eq_getElem hlt)⟩
        · exact ⟨[], fun h => absurd h (by omega)⟩
      have hW := hK.wf
      rcases Nat.lt_or_ge i ns.length with hlt | hge
      all_goals by_cases hD : (ns.take i).map clean = []
      all_goals first
        | (have hE := Tk.fin0 (t := t) (by rw [hD] at hK; exact hK)
           have hPe : pF ((ns.take i).map clean) = [] := by rw [hD]; rfl
           have hW2 := hE.wf hW
           have hpl := hE.pl hW
           have hwl := hE.wl
           repeat' ((conv => lhs; whnf); first | ((with_reducible refine atFn ?_); first | (refine HA (hT.kp (by repeat (first | assumption | exact Kp.refl _ _ | refine Kp.mp ?_ (by omega) (by omega) | refine Kp.trans ?_ (by assumption) (by omega))) htb hmb) (by omega) (by omega) hW.c1 hW.c2 _ (by first | omega | decide) _ _ (by omega) (fun n5 m5 h5 g5 k5 => ?_); first | rw [hE.a1] | rw [hE.a2] | rw [hE.h1] | rw [hE.h2] | rw [abs_x]; dsimp only) | (refine HC (hT.kp (by repeat (first | assumption | exact Kp.refl _ _ | refine Kp.mp ?_ (by omega) (by omega) | refine Kp.trans ?_ (by assumption) (by omega))) htb hmb) (by omega) (by omega) hW _ (by first | omega | decide) _ _ (by omega) (fun v5 n5 m5 h5 g5 k5 q5 => (fun k5l => ?_) (Kq.low (n := n) k5 (by omega) (by simp only [List.mem_cons, List.not_mem_nil, or_false, forall_eq]; omega))); obtain ⟨hv, hT2⟩ := q5; have hT2 := hT2 htm; rw [hE.cd] at hv hT2; have htb2 : tb < n5 := (by omega); have hmb2 : mb < n5 := (by omega); subst hv; dsimp only) | (refine HA (hT2.kp (by repeat (first | assumption | exact Kp.refl _ _ | refine Kp.mp ?_ (by omega) (by omega) | refine Kp.trans ?_ (by assumption) (by omega))) htb2 hmb2) (by omega) (by omega) hW2.c1 hW2.c2 _ (by first | omega | decide) _ _ (by omega) (fun n5 m5 h5 g5 k5 => ?_); first | rw [hE.a1] | rw [hE.a2] | rw [hE.h1] | rw [hE.h2] | rw [abs_x]; dsimp only) | (refine HE (hT2.kp (by repeat (first | assumption | exact Kp.refl _ _ | refine Kp.mp ?_ (by omega) (by omega) | refine Kp.trans ?_ (by assumption) (by omega))) htb2 hmb2) (by omega) (by omega) _ _ ?_; dsimp only) | (refine HP _ _ _ _ (by omega) (fun n5 m5 h5 g5 k5 => ?_)) | (refine HR (hRA.kp (by repeat (first | assumption | exact Kp.refl _ _ | refine Kp.mp ?_ (by omega) (by omega) | refine Kp.trans ?_ (by assumption) (by omega))) (by omega)) hm _ _ (by omega) (fun v5 n5 m5 h5 g5 k5 q5 => ?_); obtain ⟨tb3, mb3, t3, rfl, z1, z2, htb3, z3, hmb3, hT3, hW3⟩ := q5; have k5p := Kq.kp k5) | (refine HA (hT3.kp (by repeat (first | assumption | exact Kp.refl _ _ | refine Kp.mp ?_ (by omega) (by omega) | refine Kp.trans ?_ (by assumption) (by omega))) htb3 hmb3) (by omega) (by omega) hW3.c1 hW3.c2 _ (by first | omega | decide) _ _ (by omega) (fun n5 m5 h5 g5 k5 => ?_); first | rw [hE.a1] | rw [hE.a2] | rw [hE.h1] | rw [hE.h2] | rw [abs_x]; dsimp only) | (refine HT _ _ _ _ (by omega) (fun n5 m5 h5 g5 k5 => ?_))) | ((with_reducible refine atLd ?_); refine ldC hO (by repeat (first | assumption | exact am_same (by omega) | apply am_ne (by omega) (by omega) | apply kp_am (by assumption) (by omega) | apply Kq.am (by assumption) (by omega) (by simp only [List.mem_cons, List.not_mem_nil, or_false, forall_eq_or_imp, forall_eq, false_implies, implies_true, ne_eq, and_true]; omega))) (hgs hlt) ?_) | (((with_reducible refine lsS hO ?_); try simp only [List.length_cons, List.length_nil, Nat.zero_add])) | ((with_reducible refine ltT hO (by omega) ?_)) | ((with_reducible refine ltF hO (by omega) ?_)) | ((with_reducible refine gtF hO (by omega) ?_)) | ((with_reducible refine eqT hO (by omega) ?_)) | ((with_reducible refine neF hO (by omega) ?_)) | ((with_reducible refine eqST hO (by first | rfl | assumption) ?_)) | ((with_reducible refine neSF hO (by first | rfl | assumption) ?_)) | ((with_reducible refine ix01 hO (by omega) ?_)))
           all_goals (conv => lhs; whnf)
           all_goals first
             | exact hf _ _ (by omega) (by omega) (by repeat (first | assumption | exact Kp.refl _ _ | refine Kp.mp ?_ (by omega) (by omega) | refine Kp.trans ?_ (by assumption) (by omega))))
        | (have hE := Tk.fin hK hgood (by omega) h21 hD
           have hPe := pF_ne hD
           have hW2 := hE.wf hW
           have hpl := hE.pl hW
           have hwl := hE.wl
           repeat' ((conv => lhs; whnf); first | ((with_reducible refine atFn ?_); first | (refine HA (hT.kp (by repeat (first | assumption | exact Kp.refl _ _ | refine Kp.mp ?_ (by omega) (by omega) | refine Kp.trans ?_ (by assumption) (by omega))) htb hmb) (by omega) (by omega) hW.c1 hW.c2 _ (by first | omega | decide) _ _ (by omega) (fun n5 m5 h5 g5 k5 => ?_); first | rw [hE.a1] | rw [hE.a2] | rw [hE.h1] | rw [hE.h2] | rw [abs_x]; dsimp only) | (refine HC (hT.kp (by repeat (first | assumption | exact Kp.refl _ _ | refine Kp.mp ?_ (by omega) (by omega) | refine Kp.trans ?_ (by assumption) (by omega))) htb hmb) (by omega) (by omega) hW _ (by first | omega | decide) _ _ (by omega) (fun v5 n5 m5 h5 g5 k5 q5 => (fun k5l => ?_) (Kq.low (n := n) k5 (by omega) (by simp only [List.mem_cons, List.not_mem_nil, or_false, forall_eq]; omega))); obtain ⟨hv, hT2⟩ := q5; have hT2 := hT2 htm; rw [hE.cd] at hv hT2; have htb2 : tb < n5 := (by omega); have hmb2 : mb < n5 := (by omega); subst hv; dsimp only) | (refine HA (hT2.kp (by repeat (first | assumption | exact Kp.refl _ _ | refine Kp.mp ?_ (by omega) (by omega) | refine Kp.trans ?_ (by assumption) (by omega))) htb2 hmb2) (by omega) (by omega) hW2.c1 hW2.c2 _ (by first | omega | decide) _ _ (by omega) (fun n5 m5 h5 g5 k5 => ?_); first | rw [hE.a1] | rw [hE.a2] | rw [hE.h1] | rw [hE.h2] | rw [abs_x]; dsimp only) | (refine HE (hT2.kp (by repeat (first | assumption | exact Kp.refl _ _ | refine Kp.mp ?_ (by omega) (by omega) | refine Kp.trans ?_ (by assumption) (by omega))) htb2 hmb2) (by omega) (by omega) _ _ ?_; dsimp only) | (refine HP _ _ _ _ (by omega) (fun n5 m5 h5 g5 k5 => ?_)) | (refine HR (hRA.kp (by repeat (first | assumption | exact Kp.refl _ _ | refine Kp.mp ?_ (by omega) (by omega) | refine Kp.trans ?_ (by assumption) (by omega))) (by omega)) hm _ _ (by omega) (fun v5 n5 m5 h5 g5 k5 q5 => ?_); obtain ⟨tb3, mb3, t3, rfl, z1, z2, htb3, z3, hmb3, hT3, hW3⟩ := q5; have k5p := Kq.kp k5) | (refine HA (hT3.kp (by repeat (first | assumption | exact Kp.refl _ _ | refine Kp.mp ?_ (by omega) (by omega) | refine Kp.trans ?_ (by assumption) (by omega))) htb3 hmb3) (by omega) (by omega) hW3.c1 hW3.c2 _ (by first | omega | decide) _ _ (by omega) (fun n5 m5 h5 g5 k5 => ?_); first | rw [hE.a1] | rw [hE.a2] | rw [hE.h1] | rw [hE.h2] | rw [abs_x]; dsimp only) | (refine HT _ _ _ _ (by omega) (fun n5 m5 h5 g5 k5 => ?_))) | ((with_reducible refine atLd ?_); refine ldC hO (by repeat (first | assumption | exact am_same (by omega) | apply am_ne (by omega) (by omega) | apply kp_am (by assumption) (by omega) | apply Kq.am (by assumption) (by omega) (by simp only [List.mem_cons, List.not_mem_nil, or_false, forall_eq_or_imp, forall_eq, false_implies, implies_true, ne_eq, and_true]; omega))) (hgs hlt) ?_) | (((with_reducible refine lsS hO ?_); try simp only [List.length_cons, List.length_nil, Nat.zero_add])) | ((with_reducible refine ltT hO (by omega) ?_)) | ((with_reducible refine ltF hO (by omega) ?_)) | ((with_reducible refine gtF hO (by omega) ?_)) | ((with_reducible refine eqT hO (by omega) ?_)) | ((with_reducible refine neF hO (by omega) ?_)) | ((with_reducible refine eqST hO (by first | rfl | assumption) ?_)) | ((with_reducible refine eqSF hO (by first | assumption | decide) ?_)) | ((with_reducible refine neSF hO (by first | rfl | assumption) ?_)) | ((with_reducible refine ix01 hO (by omega) ?_)))
           all_goals (conv => lhs; whnf)
           all_goals first
             | exact hf _ _ (by omega) (by omega) (by repeat (first | assumption | exact Kp.refl _ _ | refine Kp.mp ?_ (by omega) (by omega) | refine Kp.trans ?_ (by assumption) (by omega))))
end Go.Proofs.YtjoakhpdajlhiaaDoor.V2.S
