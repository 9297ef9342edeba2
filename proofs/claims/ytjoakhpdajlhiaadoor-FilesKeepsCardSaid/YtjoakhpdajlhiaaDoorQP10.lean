/- Part 10 of the proof: texts of the proof. -/
import Derived.Test.YtjoakhpdajlhiaaDoorQP9
import Derived.Test.YtjoakhpdajlhiaaDoorCards
import Derived.Test.YtjoakhpdajlhiaaDoorTie
import Derived.LaidMore
import Derived.ProofKit
import Derived.OpenShut
import Derived.Carry
import Derived.Deep.DeepHandedRow
import Derived.Deep.Strs
import Derived.Deep.Matrix
import Derived.Lib.LaidTab
import Derived.Stop.LaidErr
namespace Go.Proofs.YtjoakhpdajlhiaaDoor
open Go.ChangeShapes Go.WideShapes Go.ChangeAt Go.RowKit
section
variable {H : Type} {enc : TypeId × Value → H} {P : Program}
theorem trodAll_stays (hl : laidOutB P = true) {W W' : World} {sp' : Nat → Bool} : ∀ {ts : List TypeId} {vs : List Value} {ds : List (DataW H)} {ps : List MemPlace}, (∀ t ∈ ts, P.readableRec t = true ∧ t < P.types.size) →
    DataW.TrodAll enc P W 0 (fun _ => true) true ts vs ds ps → (∀ p ∈ ps, W.sameAt W' p) → (∀ p ∈ ps, sp' p.block = true) → DataW.TrodAll enc P W' 0 sp' true ts vs ds ps
  | [], _, _, _, _, h, _, _ => by
    obtain ⟨rfl, rfl, rfl⟩ := trodAll_nil h
    exact trodAll_mk0
  | t :: ts, _, _, _, ht, h, h1, h2 => by
    obtain ⟨v, vs1, d, ds1, a, b, rfl, rfl, rfl, ha, hb⟩ := trodAll_cons h
    exact trodAll_cons_mk (WideElems.Trod_stays hl (ht t (by simp)).1 (ht t (by simp)).2 ha (fun p hp => h1 p (by simp [hp])) (fun p hp => h2 p (by simp [hp])))
      (trodAll_stays hl (fun t' h' => ht t' (by simp [h'])) hb (fun p hp => h1 p (by simp [hp])) (fun p hp => h2 p (by simp [hp])))
theorem post_of_below {f : Func} {s : ChangeSpec} {apart fresh handsOn again : Bool} {W W' : World} {args : Array Value} {v : Value} {ds gs : List (DataW H)} {before : List MemPlace}
    (hW : DataW.Whole enc P f.params.toList s.vars apart W args.toList ds gs before) (hl : laidOutB P = true) (hsv : s.vars = []) (hts : ∀ t ∈ f.params.toList, P.readableRec t = true ∧ t < P.types.size)
    (hb : Below W.heap.size W W') (ha : (s.fn H (ds ++ gs)).args = ds) (hgv : (s.fn H (ds ++ gs)).vars = [])
    (hres : ∀ (b : Nat) (sp : Nat → Bool) (hd : Bool), DataW.TrodAll enc P W' b sp hd f.resultTypes.toList (v.resultList f.resultTypes.size) (s.fn H (ds ++ gs)).results [])
    (hok : ∀ (j : Nat) (t : TypeId) (r : Value), f.resultTypes[j]? = some t → (v.resultList f.resultTypes.size)[j]? = some r → Value.okWide P W' .any 0 t r) :
    s.post enc P f apart fresh handsOn again W args v W' := by
  have hlt := hW.lt
  have hW0 := hW
  obtain ⟨p, q, hA0, hV, rfl, hz, hn⟩ := hW
  have hA : DataW.TrodAll enc P W 0 (fun _ => true) true f.params.toList args.toList ds p := hA0
  rw [hsv] at hV
  obtain ⟨rfl, rfl⟩ := trodVars_none hV
  rw [List.append_nil] at hlt hz hn
  have hs : ∀ x ∈ p, W.sameAt W' x := fun x hx => hb.same (hlt x hx)
  have hargs : ∀ sp : Nat → Bool, (∀ x ∈ p, sp x.block = true) → DataW.TrodAll enc P W' 0 sp true f.params.toList args.toList (s.fn H (ds ++ [])).args p := fun sp hsp => by
    rw [ha]; exact trodAll_stays hl hts hA hs hsp
  have hvars : ∀ sp : Nat → Bool, DataW.TrodVars enc P W' sp s.vars (s.fn H (ds ++ [])).vars [] := fun sp => by rw [hgv, hsv]; rfl
  have hold : ∀ x ∈ p, (fun b => decide (b < W.heap.size)) x.block = true := fun x hx => by simpa using hlt x hx
  refine ⟨ds, [], p ++ [], [], p, [], hW0, hres _ _ _, hargs _ hold, hvars _, ?_, fun _ => ?_⟩
  · exact hb.frame _
  · refine ⟨hok, _, _, ([] ++ p) ++ [], ⟨[] ++ p, [], trodAll_append (hargs _ (fun _ _ => rfl)) (hres _ _ _), hvars _, rfl, ?_, ?_⟩, ?_⟩
    · intro b off hp
      simp only [List.nil_append, List.append_nil] at hp
      rw [hb.frozen (hlt _ hp)]
      exact hz b off hp
    · intro h'
      simpa using hn h'
    · intro x hx _
      simpa using hx
end
theorem laidOut : laidOutB Tryd.prog = true := by kernel_rfl
theorem own : ownKnob Tryd.prog.godebug = none := by kernel_rfl
theorem gAcc : Tryd.prog.globalNamed "unicode/utf8.acceptRanges" = some 2 := by kernel_rfl
theorem size3 {W : World} {data : DataW Unit} {rest : List (String × DataW Unit)} (h : laidMet Tryd.prog (("unicode/utf8.acceptRanges", data) :: rest) W) : 3 ≤ W.heap.size := by
  obtain ⟨ps, ⟨g, t, cs, fuel, p, q, hg, _, hv, _⟩, _⟩ := h
  obtain rfl := Option.some.inj (gAcc.symm.trans hg)
  unfold World.var? at hv
  rw [gAcc, Option.bind_some] at hv
  split at hv
  · rename_i hh; have := (Array.getElem?_eq_some_iff.1 hh).1; omega
  · cases hv
mutual
def cellsD : DataW Unit → List Value
  | .lit (.int k n) => [.int k n]
  | .agg l => cellsDs l
  | _ => []
def cellsDs : List (DataW Unit) → List Value
  | [] => []
  | d :: l => cellsD d ++ cellsDs l
end
theorem add_none {a : Addr} (h : a.spot = none) (j : Nat) : a.add j = ⟨a.block, a.off + j, none⟩ := by
  obtain ⟨b, o, sp⟩ := a
  cases h
  unfold Addr.add; split <;> simp_all
theorem cellsAC : Tryd.prog.cellsOf 25 = 4 := by kernel_rfl
theorem cellsIN : Tryd.prog.cellsOf 3 = 1 := by kernel_rfl
theorem cellsST : Tryd.prog.cellsOf 9 = 1 := by kernel_rfl
theorem cellsU6 : Tryd.prog.cellsOf 23 = 1 := by kernel_rfl
theorem str_of (s : ByteArray) : Value.string s = V2.S.vO (.str s.data.toList) := by
  show Value.string s = Value.string ⟨s.data.toList.toArray⟩
  rw [Array.toArray_toList]
set_option maxRecDepth 100000 in
theorem open_act {H : Type} {enc : TypeId × Value → H} {W : World} {base n : Nat} {cs : List Value} {x : DataW H × List MemPlace} (h : DataW.trod enc Tryd.prog W base (fun _ => true) true n 25 cs = some x) :
    ∃ a : V2.S.Ac, cs = (V2.S.aA a).map V2.S.vO ∧ a.m ≤ 65535 := by
  obtain ⟨xs, m, hcs, _, hlen, hxl, hf⟩ := DataW.trod_struct Tryd.underlying25 h
  rw [cellsAC] at hlen
  obtain ⟨a0, a1, a2, a3, rfl⟩ : ∃ a0 a1 a2 a3, cs = [a0, a1, a2, a3] := by
    match cs, hlen with
    | [a0, a1, a2, a3], _ => exact ⟨a0, a1, a2, a3, rfl⟩
  have x0 : DataW.trod enc Tryd.prog W base (fun _ => true) true m 3 (([a0, a1, a2, a3].drop 0).take (Tryd.prog.cellsOf 3)) = xs[0]? := hf 0 _ rfl
  rw [cellsIN, List.getElem?_eq_getElem (by rw [hxl]; decide)] at x0
  have x1 : DataW.trod enc Tryd.prog W base (fun _ => true) true m 9 (([a0, a1, a2, a3].drop 1).take (Tryd.prog.cellsOf 9)) = xs[1]? := hf 1 _ rfl
  rw [cellsST, List.getElem?_eq_getElem (by rw [hxl]; decide)] at x1
  have x2 : DataW.trod enc Tryd.prog W base (fun _ => true) true m 9 (([a0, a1, a2, a3].drop 2).take (Tryd.prog.cellsOf 9)) = xs[2]? := hf 2 _ rfl
  rw [cellsST, List.getElem?_eq_getElem (by rw [hxl]; decide)] at x2
  have x3 : DataW.trod enc Tryd.prog W base (fun _ => true) true m 23 (([a0, a1, a2, a3].drop 3).take (Tryd.prog.cellsOf 23)) = xs[3]? := hf 3 _ rfl
  rw [cellsU6, List.getElem?_eq_getElem (by rw [hxl]; decide)] at x3
  obtain ⟨z0, e0, _, _⟩ := DataW.trod_int Tryd.underlying3 x0
  obtain ⟨s1, e1, _, _⟩ := DataW.trod_string Tryd.underlying9 x1
  obtain ⟨s2, e2, _, _⟩ := DataW.trod_string Tryd.underlying9 x2
  obtain ⟨z3, e3, _, w3⟩ := DataW.trod_int Tryd.underlying23 x3
  have e0 : [a0] = [Value.int .i64 z0] := e0
  have e1 : [a1] = [Value.string s1] := e1
  have e2 : [a2] = [Value.string s2] := e2
  have e3 : [a3] = [Value.int .u16 z3] := e3
  cases e0; cases e1; cases e2; cases e3
  have hz : (0 : Int) ≤ z3 ∧ z3 ≤ 65535 := by
    simp only [Lit.wf, Bool.and_eq_true, decide_eq_true_eq] at w3
    exact w3
  refine ⟨⟨z0, s1.data.toList, s2.data.toList, z3.toNat⟩, ?_, by show z3.toNat ≤ 65535; omega⟩
  rw [str_of s1, str_of s2]
  show _ = [Value.int .i64 z0, V2.S.vO (.str s1.data.toList), V2.S.vO (.str s2.data.toList), Value.int .u16 (Int.ofNat z3.toNat)]
  rw [show (Int.ofNat z3.toNat) = z3 by show ((z3.toNat : Nat) : Int) = z3; exact Int.toNat_of_nonneg hz.1]
instance : Inhabited V2.S.Ac := ⟨⟨0, [], [], 0⟩⟩
set_option maxRecDepth 100000 in
theorem open_acts {H : Type} {enc : TypeId × Value → H} {W : World} {v : Value} {d : DataW H} {p : List MemPlace} {r : Reach} {base : Nat} (hv : Value.okWide Tryd.prog W r base 22 v) (h : DataW.Trod enc Tryd.prog W 0 (fun _ => true) true 22 v d p) :
    ∃ l : List V2.S.Ac, V2.S.RowV W v 4 l.length (V2.S.aAs l) ∧ ∀ a ∈ l, a.m ≤ 65535 := by
  have hv0 := hv
  obtain ⟨A, L, C, rfl⟩ := okWide_slice Tryd.underlying22 hv
  obtain ⟨n, h⟩ := h
  rcases Deep.open_slice Tryd.underlying22 h with ⟨e, _⟩ | ⟨a, len, cap, m, n2, D, Pl, e, _, hl, hm, hmm, _, hx⟩
  · obtain ⟨rfl, rfl, rfl⟩ : A = none ∧ L = 0 ∧ C = 0 := by simpa [Value.cells] using e
    exact ⟨[], ⟨rfl, fun a ha => absurd ha List.not_mem_nil, .inl ⟨rfl, rfl⟩⟩, fun a ha => absurd ha List.not_mem_nil⟩
  · obtain ⟨rfl, rfl, rfl⟩ : A = some a ∧ L = len ∧ C = cap := by simpa [Value.cells] using e
    obtain ⟨hs, hb⟩ : a.spot = none ∧ a.block < W.heap.size := by
      simp only [Value.okWide, Tryd.underlying22, Cell.okWide, Cell.ok] at hv0
      obtain ⟨_, _, _, hsp, row, cells, hsh, _⟩ := hv0
      refine ⟨hsp, ?_⟩
      unfold World.shape? at hsh
      split at hsh
      · rename_i hh; exact (Array.getElem?_eq_some_iff.1 hh).1
      · cases hsh
    simp only [if_true] at hmm
    rw [cellsAC] at hx
    have each : ∀ i, i < L → ∃ x : V2.S.Ac, (∀ j, j < 4 → W.cell? ⟨a.block, a.off + (i * 4 + j), none⟩ = ((V2.S.aA x).map V2.S.vO)[j]?) ∧ x.m ≤ 65535 := fun i hi => by
      obtain ⟨cs', h1, h2⟩ := hx i (by omega)
      obtain ⟨x, rfl, hx2⟩ := open_act h2
      refine ⟨x, fun j hj => ?_, hx2⟩
      have := (World.cells?_some h1).2.2 j hj
      rw [add_none hs, add_none rfl] at this
      rw [← this]
      show W.cell? ⟨a.block, a.off + (i * 4 + j), none⟩ = W.cell? ⟨a.block, a.off + i * 4 + j, none⟩
      rw [Nat.add_assoc]
    obtain ⟨f, hf⟩ := Deep.choose_lt each
    have hlen : ((List.range L).map f).length = L := by simp
    refine ⟨(List.range L).map f, ⟨V2.S.aAs_len _, V2.S.aAs_sc _, .inr ⟨a.block, a.off, C, ?_, by rw [hlen]; exact hl, hb, fun i x hi => ?_⟩⟩, fun x hx => ?_⟩
    · rw [hlen]; obtain ⟨b, o, sp⟩ := a; cases hs; rfl
    · have hi' := (List.getElem?_eq_some_iff.1 hi).1
      rw [V2.S.aAs_len, hlen] at hi'
      have hk : i / 4 < L := by omega
      have hg : ((List.range L).map f)[i / 4]? = some (f (i / 4)) := by simp [hk]
      have h3 := V2.S.aAs_at _ (i / 4) (i % 4) _ hg (by omega)
      rw [show i / 4 * 4 + i % 4 = i by omega, hi] at h3
      have h4 := (hf (i / 4) hk).1 (i % 4) (by omega)
      rw [show i / 4 * 4 + i % 4 = i by omega, List.getElem?_map, ← h3] at h4
      exact h4
    · obtain ⟨i, hi, rfl⟩ := List.mem_map.1 hx
      exact (hf i (by simpa using hi)).2
end Go.Proofs.YtjoakhpdajlhiaaDoor
namespace Go.Proofs.YtjoakhpdajlhiaaDoor.V2.S
open Go
set_option maxRecDepth 100000
set_option linter.unusedVariables false
theorem bare_fn (Φ : Phi) (f : Nat) : Phi.fn (Phi.bare Φ) f = Phi.fn Φ f := by cases Φ <;> rfl
section
variable {O : Oz} (hO : O = zO) {P : FR} {c : FV → FR} {k : KV} {n : Nat} {m : T FObj}
include hO
theorem hr8 {a : Nat} (hc : c (.n .i64 (a / 256)) = P) : O.hr (.n .i64 a) (.n .u64 8) c = P := by
  subst hO
  show (Bool.rec (gI .shr .i64 (Int.ofNat a) (Int.ofNat 8) c) (fN (Nat.shiftRight a 8) fun r => c (.n .i64 r)) (Nat.ble 8 (bitsF .i64)) : FR) = P
  rw [show Nat.ble 8 (bitsF .i64) = true from rfl, fN_eq, show Nat.shiftRight a 8 = a / 256 from Nat.shiftRight_eq_div_pow a 8]
  exact hc
theorem cvW {k : IntKind} {a : Nat} (hc : c (.n .u8 (a % 256)) = P) : O.cv .u8 (.n k a) c = P := by
  subst hO
  show (fN a fun m => Bool.rec (sW .u8 (Int.ofNat m) c) (c (.n .u8 m)) (Nat.ble m (lim .u8)) : FR) = P
  rw [fN_eq]
  by_cases h : a ≤ 255
  · rw [show Nat.ble a (lim .u8) = true from ble_t h]
    rw [Nat.mod_eq_of_lt (by omega)] at hc; exact hc
  · rw [show Nat.ble a (lim .u8) = false from ble_f (by show 255 < a; omega)]
    show vI .u8 (wr .u8 (Int.ofNat a)) c = P
    rw [show wr .u8 (Int.ofNat a) = Int.ofNat (a % 256) by show ((a : Nat) : Int) % 256 = ((a % 256 : Nat) : Int); omega]
    show (fN (a % 256) fun m => c (.n .u8 m)) = P
    rw [fN_eq]; exact hc
theorem bs1 {a : Nat} {e : TypeId} (ha : a < 256) (hn : n < 1000000) (h : k (.sl n 0 1 1 true 1) ⟨n + 1, mp m n (.bs (pack [UInt8.ofNat a]) e .exact)⟩ = P) : O.bs e 1 1 [.n .u8 a] ⟨n, m⟩ k = P := by
  subst hO
  show (ofQ [.n .u8 a] e .exact fun o => nM ⟨n, m⟩ o fun b σ => k (.sl b 0 1 1 true 1) σ) = P
  have e2 : βO (.ints .u8 [Int.ofNat a] e .exact) = .bs (pack [UInt8.ofNat a]) e .exact := by
    have : packI [Int.ofNat a] = some (pack [UInt8.ofNat a]) := by
      simp only [packI, Nat.blt_eq, ha, cond_true, Option.map_some, pack, show Nat.blt a 256 = true by rw [Nat.blt_eq]; exact ha, show (UInt8.ofNat a).toNat = a by rw [UInt8.toNat_ofNat']; omega]
    simp only [βO, this]
  show (fO (βO (.ints .u8 [Int.ofNat a] e .exact)) fun o => nM ⟨n, m⟩ o fun b σ => k (.sl b 0 1 1 true 1) σ) = P
  rw [e2, fO_eq, nM_mp hn]; exact h
theorem bs2 {a b : Nat} {e : TypeId} (ha : a < 256) (hb : b < 256) (hn : n < 1000000) (h : k (.sl n 0 2 2 true 1) ⟨n + 1, mp m n (.bs (pack [UInt8.ofNat a, UInt8.ofNat b]) e .exact)⟩ = P) : O.bs e 1 2 [.n .u8 a, .n .u8 b] ⟨n, m⟩ k = P := by
  subst hO
  show (ofQ [.n .u8 a, .n .u8 b] e .exact fun o => nM ⟨n, m⟩ o fun b σ => k (.sl b 0 2 2 true 1) σ) = P
  have e2 : βO (.ints .u8 [Int.ofNat a, Int.ofNat b] e .exact) = .bs (pack [UInt8.ofNat a, UInt8.ofNat b]) e .exact := by
    have : packI [Int.ofNat a, Int.ofNat b] = some (pack [UInt8.ofNat a, UInt8.ofNat b]) := by
      simp only [packI, cond_true, Option.map_some, pack, show Nat.blt a 256 = true by rw [Nat.blt_eq]; exact ha, show Nat.blt b 256 = true by rw [Nat.blt_eq]; exact hb, show (UInt8.ofNat a).toNat = a by rw [UInt8.toNat_ofNat']; omega, show (UInt8.ofNat b).toNat = b by rw [UInt8.toNat_ofNat']; omega]
    simp only [βO, this]
  show (fO (βO (.ints .u8 [Int.ofNat a, Int.ofNat b] e .exact)) fun o => nM ⟨n, m⟩ o fun b σ => k (.sl b 0 2 2 true 1) σ) = P
  rw [e2, fO_eq, nM_mp hn]; exact h
theorem apXS {e el : TypeId} {tl : Tl} {l l' : Bs} {b o L Kk : Nat} (ha : Am m b (.bs (pack l) el tl)) (hl : o + L ≤ l.length) (hK : Kk = L) (hp : 0 < l'.length) (hb : L + l'.length ≤ 1000000000000) (hn : n < 1000000)
    (h : k (.sl n 0 (L + l'.length) (L + l'.length) false 1) ⟨n + 1, mp m n (.bs (pack ((l.drop o).take L ++ l')) e .more)⟩ = P) : O.ap e true 1 (.sl b o L Kk true 1) (.s (pack l')) ⟨n, m⟩ k = P := by
  subst hO hK
  obtain ⟨q, hq⟩ : ∃ q, l'.length = q + 1 := ⟨l'.length - 1, by omega⟩
  show (gT (Nat.beq 1 1) (fN (bl (pack l')) fun mm => apR e 1 (.sl b o Kk Kk true 1) mm (.bs (pack l')) ⟨n, m⟩ k)) = P
  rw [gTt (b := Nat.beq 1 1) rfl, fN_eq, bl_pack, hq]
  refine apR_ ?_
  rw [rowQs, rowSb ha hl, fN_eq, show Nat.add Kk (Nat.succ q) = Kk + (q + 1) from rfl, gTt (ble_t (show Kk + (q + 1) ≤ 1000000000000 by omega)), baBx ha (by omega)]
  show (fN (bapp (pack ((l.drop o).take Kk)) (pack l')) fun s => nM ⟨n, m⟩ (.bs s e .more) fun b σ => k (.sl b 0 (Kk + (q + 1)) (Kk + (q + 1)) false 1) σ) = P
  rw [fN_eq, bappP, nM_mp hn, ← hq]; exact h
theorem mlS {α : Type} {b : Nat} {l : List α} {g : α → FV × FV} (ha : Am m b (.map (l.map g))) (h : c (.n .i64 l.length) = P) : O.ml (.m b) ⟨n, m⟩ c = P := by
  subst hO
  show gM ⟨n, m⟩ b (kMp fun l => lenK l 0 fun n => c (.n .i64 n)) = P
  rw [gM_am ha]
  show (lenK (l.map g) 0 fun n => c (.n .i64 n)) = P
  rw [lenK_eq, Nat.zero_add, List.length_map]; exact h
end
section
variable {O : Oz} (hO : O = zO) {P : FR} {c : FV → FR} {k : KV} {n : Nat} {m : T FObj}
include hO
theorem adZ {a : Nat} (h1 : 1 ≤ a) (ha : a ≤ 9223372036854775807) (hc : c (.n .i64 (a - 1)) = P) : O.ad (.n .i64 a) (.z .i64 0) c = P := by
  subst hO
  obtain ⟨a, rfl⟩ : ∃ b, a = b + 1 := ⟨a - 1, by omega⟩
  rw [Nat.add_sub_cancel] at hc
  show gK .i64 .i64 (Bool.rec (wZ .i64 (Nat.sub 1 (Nat.succ (a + 1))) c) (wN .i64 (Nat.sub (a + 1) 1) c) (Nat.ble 1 (a + 1)) : FR) = P
  rw [ble_t (show 1 ≤ a + 1 by omega)]
  show (fN (Nat.sub (a + 1) 1) fun m => Bool.rec (sW .i64 (Int.ofNat m) c) (c (.n .i64 m)) (Nat.ble m (lim .i64)) : FR) = P
  rw [fN_eq, show Nat.sub (a + 1) 1 = a from Nat.add_sub_cancel a 1, show Nat.ble a (lim .i64) = true from ble_t (show a ≤ 9223372036854775807 by omega)]; exact hc
end
end Go.Proofs.YtjoakhpdajlhiaaDoor.V2.S
namespace Go.Proofs.YtjoakhpdajlhiaaDoor.V2.S
open Go
set_option maxRecDepth 100000
set_option maxHeartbeats 4000000
set_option linter.unusedVariables false
attribute [local irreducible] fN fO nM gM pM Phi.fn mp bl bpart bapp top1 pack
theorem few_nil {O : Oz} (hO : O = zO) (Φ : Phi) (n : Nat) (m : T FObj) : Ret0 (p8 O Φ) [.o .sl] n m (.o .sl) := fun k P hf => by
  skip
  all_goals (conv => lhs; whnf)
  all_goals first
    | refine lpI hO (fun q e n' m' => q = 0 ∧ n' = n ∧ m' = m ∧ e = eof [(2, .o .sl), (3, .o .sl), (4, .n .i64 0)]) ?_ ?_ _ 0 _ _ _ (by omega) ⟨rfl, rfl, rfl, rfl⟩
  · rintro q e n' m' ⟨_, rfl, _⟩; omega
  · rintro q e n' m' ih ⟨rfl, rfl, rfl, rfl⟩ hih
    repeat' ((conv => lhs; whnf); first | ((with_reducible refine lvN hO ?_)) | ((with_reducible refine ltF hO (by omega) ?_)))
    all_goals (conv => lhs; whnf)
    all_goals first
      | exact hf
end Go.Proofs.YtjoakhpdajlhiaaDoor.V2.S
namespace Go.Proofs.YtjoakhpdajlhiaaDoor.V2.S
open Go
set_option maxRecDepth 100000
set_option maxHeartbeats 4000000
set_option linter.unusedVariables false
attribute [local irreducible] fN fO nM gM pM Phi.fn mp bl bpart bapp top1 pack
def FewL (H : HF) : Prop := ∀ {l : List Ac} {n : Nat} {m : T FObj} {v : FV}, RowA m n v l → (∀ a ∈ l, a.m ≤ 65535) → RetX 160 [] H [v] n m (fun v n' m' => ∃ o, FewOk o ∧ o.length = min l.length 40 ∧ o.map Ac.w = (l.take 40).map Ac.w ∧ ActsAt m' n n' v o)
def FewL1 (H : HF) : Prop := ∀ {l : List Ac} {b Kk n : Nat} {m : T FObj} {x : Bool} {e : TypeId} {tl : Tl}, Am m b (.cells (acs l) e tl) → b < n → (∀ a ∈ l, a.m ≤ 65535) → RetX 160 [] H [.sl b 0 l.length Kk x 4] n m (fun v n' m' => ∃ o, FewOk o ∧ o.length = min l.length 40 ∧ o.map Ac.w = (l.take 40).map Ac.w ∧ ActsAt m' n n' v o)
theorem few_l1 {O : Oz} (hO : O = zO) (Φ : Phi) : FewL1 (p8 O Φ) := fun {l b Kk n m x e0 tl} ha hb hm k P hn hf => by
  skip
  all_goals (conv => lhs; whnf)
  all_goals first
    | refine lpI hO (fun t e n' m' => ∃ i out v, i ≤ l.length ∧ i ≤ 40 ∧ t = 40 - i ∧ n ≤ n' ∧ n' ≤ n + 4 * i ∧ Kp n m m' ∧ out.length = i ∧ out.map Ac.w = (l.take i).map Ac.w ∧ FewOk out ∧ ActsAt m' n n' v out ∧ e = eof [(2, .o .sl), (3, v), (4, .n .i64 i)]) ?_ ?_ _ 40 _ _ _ (by omega) ⟨0, [], .o .sl, by omega, by omega, by omega, by omega, by omega, Kp.refl _ _, rfl, rfl, ⟨by decide, fun a ha => absurd ha List.not_mem_nil⟩, .inl ⟨rfl, rfl⟩, rfl⟩
  · rintro t e n' m' ⟨i, out, v, _, _, _, h, _⟩; exact h
  · rintro t e n' m' ih ⟨i, out, v, hi, hi4, rfl, g1, g2, hk, hol, how, hok, hat, rfl⟩ hih
    rcases Nat.lt_or_ge i l.length with hlt | hge
    · obtain ⟨a, hgi⟩ : ∃ a, l[i]? = some a := ⟨l[i], List.getElem?_eq_getElem hlt⟩
      have ham := hm a (List.mem_of_getElem? hgi)
      rcases Nat.lt_or_ge i 40 with hl4 | hg4
      · have fin : ∀ (d : Bs) (n2 : Nat) (m2 : T FObj) (v2 : FV), d.length ≤ 9000 → n ≤ n2 → n2 ≤ n + 4 * (i + 1) → Kp n m m2 → ActsAt m2 n n2 v2 (out ++ [⟨a.w, a.p.take (min a.p.length 300), d, a.m⟩]) → ih (eof [(2, .o .sl), (3, v2), (4, .n .i64 (i + 1))]) ⟨n2, m2⟩ = P := fun d n2 m2 v2 h1 h2 h3 h4 h5 =>
          hih (40 - (i + 1)) _ _ _ (by omega) ⟨i + 1, _, v2, by omega, by omega, rfl, h2, h3, h4, by rw [List.length_append, hol]; rfl, by rw [List.map_append, how, List.take_add_one, hgi, List.map_append]; rfl, ⟨by rw [List.length_append, hol]; exact hl4, fun y hy => by
            rcases List.mem_append.1 hy with hy | hy
            · exact hok.2 y hy
            · rw [List.mem_singleton.1 hy]; exact ⟨by show (a.p.take (min a.p.length 300)).length ≤ 300; rw [List.length_take]; omega, h1⟩⟩, h5, rfl⟩
        rcases hat with ⟨rfl, rfl⟩ | ⟨b1, K1, rfl, b2, b3, b4⟩
        all_goals
        repeat' ((conv => lhs; whnf); first | ((with_reducible refine fa0 hO ?_)) | ((with_reducible refine atLd ?_); refine ldC hO (by repeat (first | assumption | exact am_same (by omega) | apply am_ne (by omega) (by omega) | apply kp_am (by assumption) (by omega) | apply Kq.am (by assumption) (by omega) (by simp only [List.mem_cons, List.not_mem_nil, or_false, forall_eq_or_imp, forall_eq, false_implies, implies_true, ne_eq, and_true]; omega))) (by rfl) ?_) | (((with_reducible refine lsS hO ?_); try simp only [List.length_cons, List.length_nil, Nat.zero_add])) | ((with_reducible refine lvS hO ?_)) | ((with_reducible refine ltT hO (by omega) ?_)) | ((with_reducible refine mnI hO ?_)) | ((with_reducible refine ix0 hO (by omega) ?_)) | ((with_reducible refine ssH hO (by omega) ?_)) | ((with_reducible refine atSt ?_); first | refine stAc hO (by repeat (first | assumption | exact am_same (by omega) | apply am_ne (by omega) (by omega) | apply kp_am (by assumption) (by omega) | apply Kq.am (by assumption) (by omega) (by simp only [List.mem_cons, List.not_mem_nil, or_false, forall_eq_or_imp, forall_eq, false_implies, implies_true, ne_eq, and_true]; omega))) ?_ | refine stC hO (by repeat (first | assumption | exact am_same (by omega) | apply am_ne (by omega) (by omega) | apply kp_am (by assumption) (by omega) | apply Kq.am (by assumption) (by omega) (by simp only [List.mem_cons, List.not_mem_nil, or_false, forall_eq_or_imp, forall_eq, false_implies, implies_true, ne_eq, and_true]; omega))) (by kernel_rfl) (fun _ _ _ => rfl) (fun _ => rfl) ?_) | ((with_reducible refine alO hO (by omega) ?_)) | ((with_reducible refine atLn ?_); refine lnAc hO (by repeat (first | assumption | exact am_same (by omega) | apply am_ne (by omega) (by omega) | apply kp_am (by assumption) (by omega) | apply Kq.am (by assumption) (by omega) (by simp only [List.mem_cons, List.not_mem_nil, or_false, forall_eq_or_imp, forall_eq, false_implies, implies_true, ne_eq, and_true]; omega))) hgi ?_))
        all_goals (conv => lhs; whnf)
        all_goals first
          | refine lpI hO (fun t e n2 m2 => ∃ d, d.length ≤ 9000 ∧ t = 9000 - d.length ∧ n2 = n' + 1 ∧ Kp n' m' m2 ∧ Am m2 n' (.cells [wV a.w, .s (pack (a.p.take (min a.p.length 300))), .s (pack d), .n .u16 a.m] 25 .exact) ∧ e = eof [(2, .o .sl), (3, .o .sl), (4, .n .i64 i)]) ?_ ?_ _ (9000 - (a.d.take (min a.d.length 40)).length) _ _ _ (by omega) ⟨a.d.take (min a.d.length 40), by rw [List.length_take]; omega, by omega, rfl, (by repeat (first | assumption | exact Kp.refl _ _ | refine Kp.mp ?_ (by omega) (by omega) | refine Kp.trans ?_ (by assumption) (by omega))), am_same (by omega), rfl⟩
          | refine lpI hO (fun t e n2 m2 => ∃ d, d.length ≤ 9000 ∧ t = 9000 - d.length ∧ n2 = n' + 1 ∧ Kp n' m' m2 ∧ Am m2 n' (.cells [wV a.w, .s (pack (a.p.take (min a.p.length 300))), .s (pack d), .n .u16 a.m] 25 .exact) ∧ e = eof [(2, .o .sl), (3, .sl b1 0 out.length K1 false 4), (4, .n .i64 i)]) ?_ ?_ _ (9000 - (a.d.take (min a.d.length 40)).length) _ _ _ (by omega) ⟨a.d.take (min a.d.length 40), by rw [List.length_take]; omega, by omega, rfl, (by repeat (first | assumption | exact Kp.refl _ _ | refine Kp.mp ?_ (by omega) (by omega) | refine Kp.trans ?_ (by assumption) (by omega))), am_same (by omega), rfl⟩
        all_goals first
          | (rintro t e n' m' ⟨_, _, _, rfl, _⟩; omega)
          | (rintro t e n2 m2 ih2 ⟨d, q1, rfl, rfl, q3, q4, rfl⟩ hih2
             repeat' ((conv => lhs; whnf); first | ((with_reducible refine bsAc hO (by omega) ?_)) | ((with_reducible refine adS hO (by rw [List.length_take]; omega) ?_)) | ((with_reducible refine fa0 hO ?_)) | ((with_reducible refine atLd ?_); refine ldC hO (by repeat (first | assumption | exact am_same (by omega) | apply am_ne (by omega) (by omega) | apply kp_am (by assumption) (by omega) | apply Kq.am (by assumption) (by omega) (by simp only [List.mem_cons, List.not_mem_nil, or_false, forall_eq_or_imp, forall_eq, false_implies, implies_true, ne_eq, and_true]; omega))) (by rfl) ?_) | (((with_reducible refine lsS hO ?_); try simp only [List.length_cons, List.length_nil, Nat.zero_add])) | ((with_reducible refine ltB hO (fun h => ?_) (fun h => ?_))) | ((with_reducible refine neSB hO (fun h => ?_) (fun h => ?_))) | ((with_reducible refine adI hO (by omega) ?_)) | ((with_reducible refine sbI hO (by omega) (by omega) ?_)) | ((with_reducible refine rmI hO (by omega) ?_)) | ((with_reducible refine cvI hO (by omega) ?_)) | ((with_reducible refine mnI hO ?_)) | ((with_reducible refine ssH hO (by omega) ?_)) | ((with_reducible refine atSt ?_); refine stC hO (by repeat (first | assumption | exact am_same (by omega) | apply am_ne (by omega) (by omega) | apply kp_am (by assumption) (by omega) | apply Kq.am (by assumption) (by omega) (by simp only [List.mem_cons, List.not_mem_nil, or_false, forall_eq_or_imp, forall_eq, false_implies, implies_true, ne_eq, and_true]; omega))) (by rfl) (fun _ _ _ => rfl) (fun _ => rfl) ?_) | ((with_reducible refine atAp ?_); first | refine apAc hO (by repeat (first | assumption | exact am_same (by omega) | apply am_ne (by omega) (by omega) | apply kp_am (by assumption) (by omega) | apply Kq.am (by assumption) (by omega) (by simp only [List.mem_cons, List.not_mem_nil, or_false, forall_eq_or_imp, forall_eq, false_implies, implies_true, ne_eq, and_true]; omega))) (by repeat (first | assumption | exact am_same (by omega) | apply am_ne (by omega) (by omega) | apply kp_am (by assumption) (by omega) | apply Kq.am (by assumption) (by omega) (by simp only [List.mem_cons, List.not_mem_nil, or_false, forall_eq_or_imp, forall_eq, false_implies, implies_true, ne_eq, and_true]; omega))) (fun _ => rfl) (by omega) (by omega) (by rfl) ?_ | refine apAn hO (by repeat (first | assumption | exact am_same (by omega) | apply am_ne (by omega) (by omega) | apply kp_am (by assumption) (by omega) | apply Kq.am (by assumption) (by omega) (by simp only [List.mem_cons, List.not_mem_nil, or_false, forall_eq_or_imp, forall_eq, false_implies, implies_true, ne_eq, and_true]; omega))) (by omega) ?_) | ((with_reducible refine atLn ?_); refine lnA4 (a := ⟨a.w, a.p.take (min a.p.length 300), d, a.m⟩) hO (by repeat (first | assumption | exact am_same (by omega) | apply am_ne (by omega) (by omega) | apply kp_am (by assumption) (by omega) | apply Kq.am (by assumption) (by omega) (by simp only [List.mem_cons, List.not_mem_nil, or_false, forall_eq_or_imp, forall_eq, false_implies, implies_true, ne_eq, and_true]; omega))) (by rfl) ?_))
             all_goals (conv => lhs; whnf)
             all_goals first
               | exact hih2 (9000 - (d ++ d.take (min d.length (a.m % 9000 - d.length))).length) _ _ _ (by rw [List.length_append, List.length_take]; have := List.length_pos_iff.2 (by assumption : d ≠ []); omega) ⟨d ++ d.take (min d.length (a.m % 9000 - d.length)), by rw [List.length_append, List.length_take]; omega, rfl, rfl, (by repeat (first | assumption | exact Kp.refl _ _ | refine Kp.mp ?_ (by omega) (by omega) | refine Kp.trans ?_ (by assumption) (by omega))), am_same (by omega), rfl⟩
               | exact fin d _ _ _ q1 (by omega) (by omega) (by repeat (first | assumption | exact Kp.refl _ _ | refine Kp.mp ?_ (by omega) (by omega) | refine Kp.trans ?_ (by assumption) (by omega))) (.inr ⟨_, _, by rfl, by omega, by omega, am_same (by omega)⟩)
               | exact fin d _ _ _ q1 (by omega) (by omega) (by repeat (first | assumption | exact Kp.refl _ _ | refine Kp.mp ?_ (by omega) (by omega) | refine Kp.trans ?_ (by assumption) (by omega))) (.inr ⟨_, out.length + 1, by rw [List.length_append]; rfl, by omega, by omega, am_same (by omega)⟩))
      · skip
        repeat' ((conv => lhs; whnf); first | ((with_reducible refine lvS hO ?_)) | ((with_reducible refine ltT hO (by omega) ?_)) | ((with_reducible refine ltF hO (by omega) ?_)))
        all_goals (conv => lhs; whnf)
        all_goals first
          | exact hf _ _ _ (by omega) (by omega) (Kq.of (by repeat (first | assumption | exact Kp.refl _ _ | refine Kp.mp ?_ (by omega) (by omega) | refine Kp.trans ?_ (by assumption) (by omega))) _) ⟨out, hok, by omega, by first | rw [how, show i = 40 by omega] | rw [how, List.take_of_length_le (by omega), List.take_of_length_le (by omega)], hat⟩
    · skip
      repeat' ((conv => lhs; whnf); first | ((with_reducible refine lvS hO ?_)) | ((with_reducible refine ltF hO (by omega) ?_)))
      all_goals (conv => lhs; whnf)
      all_goals first
        | exact hf _ _ _ (by omega) (by omega) (Kq.of (by repeat (first | assumption | exact Kp.refl _ _ | refine Kp.mp ?_ (by omega) (by omega) | refine Kp.trans ?_ (by assumption) (by omega))) _) ⟨out, hok, by omega, by first | rw [how, show i = 40 by omega] | rw [how, List.take_of_length_le (by omega), List.take_of_length_le (by omega)], hat⟩
theorem few_l {O : Oz} (hO : O = zO) (Φ : Phi) : FewL (p8 O Φ) := fun {l n m v} hR hm => by
  rcases hR with ⟨rfl, rfl⟩ | ⟨b, Kk, x, e, tl, rfl, hb, ha⟩
  · exact fun k P hn hf => few_nil hO Φ n m k P (hf _ _ _ (Nat.le_refl _) (by omega) (Kq.refl _ _ _) ⟨[], ⟨by decide, fun a ha => absurd ha List.not_mem_nil⟩, rfl, rfl, .inl ⟨rfl, rfl⟩⟩)
  · exact few_l1 hO Φ ha hb hm
end Go.Proofs.YtjoakhpdajlhiaaDoor.V2.S
namespace Go.Proofs.YtjoakhpdajlhiaaDoor.V2.S
open Go
set_option maxRecDepth 100000
set_option maxHeartbeats 4000000
set_option linter.unusedVariables false
attribute [local irreducible] fN fO nM gM pM Phi.fn mp bl bpart bapp top1 pack
theorem dataG_le {t : Tr} (h : sizesG t.L ≤ 32768) (p : Bs) : (dataG t p).length ≤ 32768 := by
  unfold dataG look
  cases hl : lookM En.path p t.L with
  | none => exact Nat.zero_le _
  | some a => have := (look_sizes hl).1; show a.data.length ≤ 32768; omega
def WriteS (H : HF) : Prop := ∀ {tb mb : Nat} {t : Tr} {n : Nat} {m : T FObj}, TreeAt m tb mb 65 t → tb < n → mb < n → tb ≠ mb → WfT t → ∀ (path data : Bs) (more : Bool), path.length ≤ 900000 → data.length ≤ 800000 → RetX 760 [mb] H [.p tb 0, .s (pack path), .s (pack data), .b more] n m (fun v n' m' => v = .n .i64 (writeG t path data more).2 ∧ TreeAt m' tb mb 65 (writeG t path data more).1)
theorem write_s {O : Oz} (hO : O = zO) (Φ : Phi) (HA : AbsS (Phi.fn Φ 12)) (HK : KindS (Phi.fn Φ 35)) (HP : PutS (Phi.fn Φ 39)) : WriteS (p13 O Φ) := fun {tb mb t n m} hT htb hmb htm hW path data more hpl hdl k P hn hf => by
  have hT1 := hT.s
  have hT2 := hT.m
  have hal := absG_le (t := t) (path := path) hW.c2 hpl
  have hdg := dataG_le hW.sz (absG t path).1
  have hws := hW.sz
  have key : ∀ (d : Bs), (if more then dataG t (absG t path).1 ++ data else data) = d → ¬ (absG t path).2 ≠ 0 → kindG t (absG t path).1 ≠ 1 → ∀ n' m' v, n ≤ n' → n' ≤ n + 760 → Kq [mb] n m m' → (v = .n .i64 (putG t ⟨(absG t path).1, false, d⟩).2 ∧ TreeAt m' tb mb 65 (putG t ⟨(absG t path).1, false, d⟩).1) → k v ⟨n', m'⟩ = P := fun d hd h1 h2 n' m' v h3 h4 h5 h6 => by
    have e : writeG t path data more = putG t ⟨(absG t path).1, false, d⟩ := by unfold writeG; rw [if_neg h1, if_neg h2, hd]
    rw [e] at hf; exact hf _ _ _ h3 h4 h5 h6
  have e1 : (absG t path).2 ≠ 0 → writeG t path data more = (t, (absG t path).2) := fun h => by unfold writeG; rw [if_pos h]
  have e2 : ¬ (absG t path).2 ≠ 0 → kindG t (absG t path).1 = 1 → writeG t path data more = (t, 5) := fun h h2 => by unfold writeG; rw [if_neg h, if_pos h2]
  have ed : ∀ a, lookM En.path (absG t path).1 t.L = some a → dataG t (absG t path).1 = a.data := fun a hla => by unfold dataG look; rw [hla]
  have en : lookM En.path (absG t path).1 t.L = none → dataG t (absG t path).1 = [] := fun hla => by unfold dataG look; rw [hla]
  cases more
  all_goals
    repeat' ((conv => lhs; whnf); first | ((with_reducible refine atFn ?_); first | refine HA (hT.kp (by repeat (first | assumption | exact Kp.refl _ _ | refine Kp.mp ?_ (by omega) (by omega) | refine Kp.trans ?_ (by assumption) (by omega))) htb hmb) (by omega) (by omega) hW.c1 hW.c2 _ (by omega) _ _ (by omega) (fun n3 m3 h3 g3 k3 => ?_) | refine HK (hT.kp (by repeat (first | assumption | exact Kp.refl _ _ | refine Kp.mp ?_ (by omega) (by omega) | refine Kp.trans ?_ (by assumption) (by omega))) htb hmb) (by omega) (by omega) _ _ _ (by omega) (fun n4 m4 h4 g4 k4 => ?_) | refine HP (hT.kp (by repeat (first | assumption | exact Kp.refl _ _ | refine Kp.mp ?_ (by omega) (by omega) | refine Kp.trans ?_ (by assumption) (by omega))) htb hmb) (by omega) (by omega) htm hW ⟨(absG t path).1, false, data⟩ (by show (absG t path).1.length ≤ 900000; omega) (by show data.length ≤ 900000; omega) _ _ (by omega) (fun v5 n5 m5 h5 g5 k5 q5 => ?_) | refine HP (hT.kp (by repeat (first | assumption | exact Kp.refl _ _ | refine Kp.mp ?_ (by omega) (by omega) | refine Kp.trans ?_ (by assumption) (by omega))) htb hmb) (by omega) (by omega) htm hW ⟨(absG t path).1, false, a.data ++ data⟩ (by show (absG t path).1.length ≤ 900000; omega) (by show (a.data ++ data).length ≤ 900000; rw [List.length_append]; omega) _ _ (by omega) (fun v5 n5 m5 h5 g5 k5 q5 => ?_)) | ((with_reducible refine fa0 hO ?_)) | ((with_reducible refine atLd ?_); refine ldC hO (by repeat (first | assumption | exact am_same (by omega) | apply am_ne (by omega) (by omega) | apply kp_am (by assumption) (by omega) | apply Kq.am (by assumption) (by omega) (by simp only [List.mem_cons, List.not_mem_nil, or_false, forall_eq_or_imp, forall_eq, false_implies, implies_true, ne_eq, and_true]; omega))) (by rfl) ?_) | ((with_reducible refine eqB hO (fun h => ?_) (fun h => ?_))) | ((with_reducible refine neB hO (fun h => ?_) (fun h => ?_))) | ((with_reducible refine adS hO (by first | omega | (simp only [List.length_cons, List.length_nil, List.length_append]; omega)) ?_)) | ((with_reducible refine atLk ?_); refine lkS1 hO (by repeat (first | assumption | exact am_same (by omega) | apply am_ne (by omega) (by omega) | apply kp_am (by assumption) (by omega) | apply Kq.am (by assumption) (by omega) (by simp only [List.mem_cons, List.not_mem_nil, or_false, forall_eq_or_imp, forall_eq, false_implies, implies_true, ne_eq, and_true]; omega))) (fun a hla => (fun hsz => ?_) (look_sizes hla)) (fun hla => ?_)) | ((with_reducible first | refine umt hO ?_ | refine uqu hO ?_ | refine urm hO ?_ | refine uan hO ?_ | refine uro hO ?_ | refine uxr hO ?_ | refine uhl hO ?_ | refine uhr hO ?_ | refine uad hO ?_ | refine usb hO ?_ | refine ult hO ?_ | refine ule hO ?_ | refine ugt hO ?_ | refine uge hO ?_ | refine ueq hO ?_ | refine une hO ?_ | refine ucv hO ?_ | refine uia hO ?_ | refine usv hO ?_ | refine ubu hO ?_ | refine uap hO ?_ | refine ubs hO ?_ | refine umm hO ?_ | refine upq hO ?_ | refine unq hO ?_ | refine uln hO ?_)))
    all_goals (conv => lhs; whnf)
  all_goals first
    | (rw [e1 (by assumption)] at hf; exact hf _ _ _ (by omega) (by omega) (by repeat (first | assumption | exact Kq.refl _ _ _ | exact Kq.of (by assumption) _ | refine Kq.mp ?_ (by first | exact .inl (by omega) | exact .inr (by simp)) (by omega) | refine Kq.transP ?_ (by assumption) (by omega) | refine Kq.trans ?_ (by assumption) (by omega))) ⟨rfl, hT.kp (by repeat (first | assumption | exact Kp.refl _ _ | refine Kp.mp ?_ (by omega) (by omega) | refine Kp.trans ?_ (by assumption) (by omega))) htb hmb⟩)
    | (rw [e2 (by simp [*]) (by assumption)] at hf; exact hf _ _ _ (by omega) (by omega) (by repeat (first | assumption | exact Kq.refl _ _ _ | exact Kq.of (by assumption) _ | refine Kq.mp ?_ (by first | exact .inl (by omega) | exact .inr (by simp)) (by omega) | refine Kq.transP ?_ (by assumption) (by omega) | refine Kq.trans ?_ (by assumption) (by omega))) ⟨rfl, hT.kp (by repeat (first | assumption | exact Kp.refl _ _ | refine Kp.mp ?_ (by omega) (by omega) | refine Kp.trans ?_ (by assumption) (by omega))) htb hmb⟩)
    | exact key data rfl (by simp [*]) (by assumption) _ _ _ (by omega) (by omega) (by repeat (first | assumption | exact Kq.refl _ _ _ | exact Kq.of (by assumption) _ | refine Kq.mp ?_ (by first | exact .inl (by omega) | exact .inr (by simp)) (by omega) | refine Kq.transP ?_ (by assumption) (by omega) | refine Kq.trans ?_ (by assumption) (by omega))) q5
    | exact key (a.data ++ data) (by rw [if_pos rfl, ed a hla]) (by simp [*]) (by assumption) _ _ _ (by omega) (by omega) (by repeat (first | assumption | exact Kq.refl _ _ _ | exact Kq.of (by assumption) _ | refine Kq.mp ?_ (by first | exact .inl (by omega) | exact .inr (by simp)) (by omega) | refine Kq.transP ?_ (by assumption) (by omega) | refine Kq.trans ?_ (by assumption) (by omega))) q5
    | exact key ([] ++ data) (by rw [if_pos rfl, en hla]) (by simp [*]) (by assumption) _ _ _ (by omega) (by omega) (by repeat (first | assumption | exact Kq.refl _ _ _ | exact Kq.of (by assumption) _ | refine Kq.mp ?_ (by first | exact .inl (by omega) | exact .inr (by simp)) (by omega) | refine Kq.transP ?_ (by assumption) (by omega) | refine Kq.trans ?_ (by assumption) (by omega))) q5
def CdS (H : HF) : Prop := ∀ {tb mb : Nat} {t : Tr} {n : Nat} {m : T FObj}, TreeAt m tb mb 65 t → tb < n → mb < n → WfT t → ∀ (path : Bs), path.length ≤ 900000 → RetX 601 [tb] H [.p tb 0, .s (pack path)] n m (fun v n' m' => v = .n .i64 (cdG t path).2 ∧ (tb ≠ mb → TreeAt m' tb mb 65 (cdG t path).1))
theorem cd_s {O : Oz} (hO : O = zO) (Φ : Phi) (HI : IsS (Phi.fn Φ 41)) : CdS (p16 O Φ) := fun {tb mb t n m} hT htb hmb hW path hpl k P hn hf => by
  have hT1 := hT.s
  have hT2 := hT.m
  have e1 : (isG t path 1).2 ≠ 0 → cdG t path = (t, (isG t path 1).2) := fun h => by unfold cdG; rw [if_pos h]
  have e2 : (isG t path 1).2 = 0 → cdG t path = ({ t with cwd := (isG t path 1).1 }, 0) := fun h => by unfold cdG; rw [if_neg (by simp [h])]
  repeat' ((conv => lhs; whnf); first | ((with_reducible refine atFn ?_); refine HI (hT.kp (by repeat (first | assumption | exact Kp.refl _ _ | refine Kp.mp ?_ (by omega) (by omega) | refine Kp.trans ?_ (by assumption) (by omega))) htb hmb) (by omega) (by omega) hW _ _ (by omega) _ _ (by omega) (fun n3 m3 h3 g3 k3 => ?_)) | ((with_reducible refine fa0 hO ?_)) | ((with_reducible refine eqB hO (fun h => ?_) (fun h => ?_))) | ((with_reducible refine atSt ?_); refine stC hO (by repeat (first | assumption | exact am_same (by omega) | apply am_ne (by omega) (by omega) | apply kp_am (by assumption) (by omega) | apply Kq.am (by assumption) (by omega) (by simp only [List.mem_cons, List.not_mem_nil, or_false, forall_eq_or_imp, forall_eq, false_implies, implies_true, ne_eq, and_true]; omega))) (by kernel_rfl) (fun _ _ _ => rfl) (fun _ => rfl) ?_))
  all_goals (conv => lhs; whnf)
  all_goals first
    | (rw [e1 (by assumption)] at hf; exact hf _ _ _ (by omega) (by omega) (by repeat (first | assumption | exact Kq.refl _ _ _ | exact Kq.of (by assumption) _ | refine Kq.mp ?_ (by first | exact .inl (by omega) | exact .inr (by simp)) (by omega) | refine Kq.transP ?_ (by assumption) (by omega) | refine Kq.trans ?_ (by assumption) (by omega))) ⟨rfl, fun _ => hT.kp (by repeat (first | assumption | exact Kp.refl _ _ | refine Kp.mp ?_ (by omega) (by omega) | refine Kp.trans ?_ (by assumption) (by omega))) htb hmb⟩)
    | (have hz : (isG t path 1).2 = 0 := by assumption
       rw [e2 hz] at hf; exact hf _ _ _ (by omega) (by omega) (by repeat (first | assumption | exact Kq.refl _ _ _ | exact Kq.of (by assumption) _ | refine Kq.mp ?_ (by first | exact .inl (by omega) | exact .inr (by simp)) (by omega) | refine Kq.transP ?_ (by assumption) (by omega) | refine Kq.trans ?_ (by assumption) (by omega))) ⟨by rw [hz], fun _ => ⟨am_same (by omega), (by repeat (first | assumption | exact am_same (by omega) | apply am_ne (by omega) (by omega) | apply kp_am (by assumption) (by omega) | apply Kq.am (by assumption) (by omega) (by simp only [List.mem_cons, List.not_mem_nil, or_false, forall_eq_or_imp, forall_eq, false_implies, implies_true, ne_eq, and_true]; omega)))⟩⟩)
def NewS (H : HF) : Prop := ∀ (n : Nat) (m : T FObj), RetX 2 [] H [] n m (fun v n' m' => ∃ tb mb, v = .p tb 0 ∧ tb ≠ mb ∧ n ≤ tb ∧ tb < n' ∧ n ≤ mb ∧ mb < n' ∧ TreeAt m' tb mb 65 newG)
theorem new_s {O : Oz} (hO : O = zO) (Φ : Phi) : NewS (p26 O Φ) := fun n m k P hn hf => by
  repeat' ((conv => lhs; whnf); first | ((with_reducible refine atBx ?_); refine bxA hO (by omega) (by simp only [αL, αV, AObj.of, allInt, βO, βL, βV, unp_pack]) ?_) | ((with_reducible first | refine umt hO ?_ | refine uqu hO ?_ | refine urm hO ?_ | refine uan hO ?_ | refine uro hO ?_ | refine uxr hO ?_ | refine uhl hO ?_ | refine uhr hO ?_ | refine uad hO ?_ | refine usb hO ?_ | refine ult hO ?_ | refine ule hO ?_ | refine ugt hO ?_ | refine uge hO ?_ | refine ueq hO ?_ | refine une hO ?_ | refine ucv hO ?_ | refine uia hO ?_ | refine usv hO ?_ | refine ubu hO ?_ | refine uap hO ?_ | refine ubs hO ?_ | refine umm hO ?_ | refine upq hO ?_ | refine unq hO ?_ | refine uln hO ?_)) | (with_reducible refine (nM_mp (by omega)).trans ?_))
  all_goals (conv => lhs; whnf)
  all_goals first
    | exact hf _ _ _ (by omega) (by omega) (by repeat (first | assumption | exact Kq.refl _ _ _ | exact Kq.of (by assumption) _ | refine Kq.mp ?_ (by first | exact .inl (by omega) | exact .inr (by simp)) (by omega) | refine Kq.transP ?_ (by assumption) (by omega) | refine Kq.trans ?_ (by assumption) (by omega))) ⟨n + 1, n, rfl, by omega, by omega, by omega, by omega, by omega, ⟨am_same (by omega), (by repeat (first | assumption | exact am_same (by omega) | apply am_ne (by omega) (by omega) | apply kp_am (by assumption) (by omega) | apply Kq.am (by assumption) (by omega) (by simp only [List.mem_cons, List.not_mem_nil, or_false, forall_eq_or_imp, forall_eq, false_implies, implies_true, ne_eq, and_true]; omega)))⟩⟩
def CwdS (H : HF) : Prop := ∀ {tb mb : Nat} {t : Tr} {n : Nat} {m : T FObj}, TreeAt m tb mb 65 t → tb < n → mb < n → Ret0 H [.p tb 0] n m (.s (pack t.cwd))
theorem cwd_s {O : Oz} (hO : O = zO) (Φ : Phi) (H1 : NoneS (Phi.fn Φ 28)) : CwdS (p11 O Φ) := fun {tb mb t n m} hT htb hmb k P hf => by
  have hT1 := hT.s
  repeat' ((conv => lhs; whnf); first | ((with_reducible refine atFn ?_); refine H1 (hT.kp (by repeat (first | assumption | exact Kp.refl _ _ | refine Kp.mp ?_ (by omega) (by omega) | refine Kp.trans ?_ (by assumption) (by omega))) htb hmb) _ _ ?_) | ((with_reducible refine fa0 hO ?_)) | ((with_reducible refine atLd ?_); refine ldC hO (by repeat (first | assumption | exact am_same (by omega) | apply am_ne (by omega) (by omega) | apply kp_am (by assumption) (by omega) | apply Kq.am (by assumption) (by omega) (by simp only [List.mem_cons, List.not_mem_nil, or_false, forall_eq_or_imp, forall_eq, false_implies, implies_true, ne_eq, and_true]; omega))) (by rfl) ?_))
  all_goals (conv => lhs; whnf)
  all_goals first
    | exact hf
end Go.Proofs.YtjoakhpdajlhiaaDoor.V2.S
namespace Go.Proofs.YtjoakhpdajlhiaaDoor.V2.S
open Go
set_option maxRecDepth 100000
set_option maxHeartbeats 4000000
set_option linter.unusedVariables false
attribute [local irreducible] fN fO nM gM pM Phi.fn mp bl bpart bapp top1 pack
theorem setM_len (x : En) : ∀ L : List En, (setM En.path x L).length = match lookM En.path x.path L with | some _ => L.length | none => L.length + 1
  | [] => rfl
  | a :: l => by
    unfold setM lookM
    by_cases h : a.path = x.path
    · rw [if_pos h, if_pos h]; rfl
    · rw [if_neg h, if_neg h, List.length_cons, setM_len x l]
      cases lookM En.path x.path l <;> rfl
theorem setM_sizes (x : En) : ∀ L : List En, sizesG (setM En.path x L) = (match lookM En.path x.path L with | some o => sizesG L - o.data.length | none => sizesG L + x.path.length) + x.data.length
  | [] => by show x.path.length + x.data.length + 0 = 0 + x.path.length + x.data.length; omega
  | a :: l => by
    unfold setM lookM
    by_cases h : a.path = x.path
    · rw [if_pos h, if_pos h]; show x.path.length + x.data.length + sizesG l = a.path.length + a.data.length + sizesG l - a.data.length + x.data.length; rw [h]; omega
    · rw [if_neg h, if_neg h]
      have := setM_sizes x l
      cases hl : lookM En.path x.path l with
      | none => rw [hl] at this; show a.path.length + a.data.length + sizesG (setM En.path x l) = a.path.length + a.data.length + sizesG l + x.path.length + x.data.length; rw [this]; show _ + (sizesG l + x.path.length + x.data.length) = _; omega
      | some o =>
        have h2 := look_sizes hl
        rw [hl] at this; show a.path.length + a.data.length + sizesG (setM En.path x l) = a.path.length + a.data.length + sizesG l - o.data.length + x.data.length; rw [this]; show _ + (sizesG l - o.data.length + x.data.length) = _; omega
theorem setM_mem {x e : En} : ∀ {L : List En}, e ∈ setM En.path x L → e = x ∨ e ∈ L
  | [], h => .inl (by simpa [setM] using h)
  | a :: l, h => by
    unfold setM at h
    by_cases hp : a.path = x.path
    · rw [if_pos hp] at h
      rcases List.mem_cons.1 h with h | h
      · exact .inl h
      · exact .inr (List.mem_cons_of_mem _ h)
    · rw [if_neg hp] at h
      rcases List.mem_cons.1 h with h | h
      · exact .inr (by rw [h]; exact List.mem_cons_self)
      · rcases setM_mem h with h | h
        · exact .inl h
        · exact .inr (List.mem_cons_of_mem _ h)
theorem setM_path {x : En} {p : Bs} : ∀ {L : List En}, p ∈ (setM En.path x L).map En.path → p = x.path ∨ p ∈ L.map En.path := fun {L} h => by
  obtain ⟨e, h1, rfl⟩ := List.mem_map.1 h
  rcases setM_mem h1 with h | h
  · exact .inl (by rw [h])
  · exact .inr (List.mem_map.2 ⟨e, h, rfl⟩)
theorem setM_nd (x : En) : ∀ {L : List En}, (L.map En.path).Nodup → ((setM En.path x L).map En.path).Nodup
  | [], _ => by simp [setM]
  | a :: l, h => by
    rw [List.map_cons, List.nodup_cons] at h
    unfold setM
    by_cases hp : a.path = x.path
    · rw [if_pos hp, List.map_cons, List.nodup_cons, ← hp]; exact h
    · rw [if_neg hp, List.map_cons, List.nodup_cons]
      exact ⟨fun hm => (setM_path hm).elim hp h.1, setM_nd x h.2⟩
theorem delM_sub (p : Bs) : ∀ L : List En, (delM En.path p L).Sublist L
  | [] => by simp [delM]
  | a :: l => by
    unfold delM
    by_cases hp : a.path = p
    · rw [if_pos hp]; exact List.sublist_cons_self _ _
    · rw [if_neg hp]; exact (delM_sub p l).cons_cons _
theorem sizes_sub : ∀ {l l' : List En}, l.Sublist l' → sizesG l ≤ sizesG l' := fun h => by
  induction h with
  | slnil => exact Nat.le_refl _
  | cons a h ih => show _ ≤ a.path.length + a.data.length + sizesG _; omega
  | cons_cons a h ih => show a.path.length + a.data.length + sizesG _ ≤ a.path.length + a.data.length + sizesG _; omega
theorem look_in : ∀ {L : List En} {p : Bs} {a : En}, lookM En.path p L = some a → a ∈ L
  | [], p, a, h => by cases h
  | b :: L, p, a, h => by
    unfold lookM at h
    by_cases hb : b.path = p
    · rw [if_pos hb] at h; cases h; exact List.mem_cons_self
    · rw [if_neg hb] at h; exact List.mem_cons_of_mem _ (look_in h)
theorem putG_wf {t : Tr} (hW : WfT t) {x : En} (hx : x.path.head? = some 47) : WfT (putG t x).1 := by
  unfold putG
  split
  · exact hW
  split
  · exact hW
  rename_i h1 h2
  refine ⟨setM_nd x hW.nd, ?_, ?_, fun e he => ?_, fun e he => ?_, hW.hc, hW.c1, hW.c2⟩
  · show (setM En.path x t.L).length ≤ 128
    rw [setM_len]
    have : manyG t x = match lookM En.path x.path t.L with | some _ => t.L.length | none => t.L.length + 1 := rfl
    omega
  · show sizesG (setM En.path x t.L) ≤ 32768
    rw [setM_sizes]
    have : bytesG t x = match lookM En.path x.path t.L with | some o => sizesG t.L - o.data.length | none => sizesG t.L + x.path.length := rfl
    omega
  · rcases setM_mem he with rfl | he
    · exact hx
    · exact hW.hd e he
  · rcases setM_mem he with rfl | he
    · omega
    · exact hW.pl e he
theorem makeG_wf {t : Tr} (hW : WfT t) (path : Bs) : WfT (makeG t path).1 := by
  unfold makeG
  split
  · exact hW
  split
  · exact hW
  rename_i h1 h2
  exact putG_wf hW (absG_head hW.hc (by omega))
theorem writeG_wf {t : Tr} (hW : WfT t) (path data : Bs) (more : Bool) : WfT (writeG t path data more).1 := by
  unfold writeG
  split
  · exact hW
  split
  · exact hW
  rename_i h1 h2
  exact putG_wf hW (absG_head hW.hc (by omega))
theorem removeG_wf {t : Tr} (hW : WfT t) (path : Bs) : WfT (removeG t path).1 := by
  unfold removeG
  split
  · exact hW
  split
  · exact hW
  split
  · exact hW
  split
  · exact hW
  have hs := delM_sub (absG t path).1 t.L
  exact ⟨(hs.map _).nodup hW.nd, Nat.le_trans hs.length_le hW.len, Nat.le_trans (sizes_sub hs) hW.sz, fun e he => hW.hd e (hs.subset he), fun e he => hW.pl e (hs.subset he), hW.hc, hW.c1, hW.c2⟩
theorem kindG_le {t : Tr} (hW : WfT t) {a : Bs} (h : kindG t a ≠ 0) : a.head? = some 47 ∧ 1 ≤ a.length ∧ a.length ≤ 256 := by
  unfold kindG look at h
  by_cases ha : a = [47]
  · subst ha; exact ⟨rfl, by decide, by decide⟩
  · rw [if_neg ha] at h
    cases hl : lookM En.path a t.L with
    | none => rw [hl] at h; exact absurd rfl h
    | some e =>
      have h1 := look_in hl
      have h2 := (look_sizes hl).2
      have h3 := hW.hd e h1
      have h4 := (hW.pl e h1).1
      rw [h2] at h3 h4
      refine ⟨h3, ?_, h4⟩
      cases a with
      | nil => cases h3
      | cons c l => exact Nat.succ_le_succ (Nat.zero_le _)
theorem cdG_wf {t : Tr} (hW : WfT t) (path : Bs) : WfT (cdG t path).1 := by
  unfold cdG
  split
  · exact hW
  rename_i h
  have h : (isG t path 1).2 = 0 := by omega
  have h1 : kindG t (isG t path 1).1 ≠ 0 := by
    unfold isG at h ⊢
    by_cases ha : (absG t path).2 ≠ 0
    · rw [if_pos ha] at h; exact absurd h ha
    · rw [if_neg ha] at h ⊢
      by_cases hk : kindG t (absG t path).1 = 1
      · rw [if_pos hk]; show kindG t (absG t path).1 ≠ 0; omega
      · rw [if_neg hk] at h
        split at h <;> cases h
  obtain ⟨h2, h3, h4⟩ := kindG_le hW h1
  exact ⟨hW.nd, hW.len, hW.sz, hW.hd, hW.pl, h2, h3, h4⟩
theorem newG_wf : WfT newG := ⟨by simp [newG], by decide, by decide, fun e he => absurd he List.not_mem_nil, fun e he => absurd he List.not_mem_nil, rfl, by decide, by decide⟩
end Go.Proofs.YtjoakhpdajlhiaaDoor.V2.S
namespace Go.Proofs.YtjoakhpdajlhiaaDoor.V2.S
open Go
set_option maxRecDepth 100000
set_option maxHeartbeats 4000000
set_option linter.unusedVariables false
attribute [local irreducible] fN fO nM gM pM Phi.fn mp bl bpart bapp top1 pack
inductive Rc : Tr → Prop
  | new : Rc newG
  | write {t : Tr} (path data : Bs) (more : Bool) : Rc t → Rc (writeG t path data more).1
  | make {t : Tr} (path : Bs) : Rc t → Rc (makeG t path).1
  | remove {t : Tr} (path : Bs) : Rc t → Rc (removeG t path).1
  | cd {t : Tr} (path : Bs) : Rc t → Rc (cdG t path).1
def RunR (H : HF) : Prop := ∀ {l : List Ac} {n : Nat} {m : T FObj} {v : FV}, RowA m n v l → (∀ a ∈ l, a.m ≤ 65535) → RetX 40000 [] H [v] n m (fun v n' m' => ∃ tb mb t, v = .p tb 0 ∧ tb ≠ mb ∧ n ≤ tb ∧ tb < n' ∧ n ≤ mb ∧ mb < n' ∧ TreeAt m' tb mb 65 t ∧ WfT t ∧ Rc t)
theorem run_r {O : Oz} (hO : O = zO) (Φ : Phi) (HN : NewS (Phi.fn Φ 26)) (HF : FewL (Phi.fn Φ 8)) (HW : WriteS (Phi.fn Φ 13)) (HM : MakeS (Phi.fn Φ 14)) (HR : RemoveS (Phi.fn Φ 15)) (HC : CdS (Phi.fn Φ 16)) : RunR (p7 O Φ) := fun {l n m v0} hRA hm k P hn hf => by
  repeat' ((conv => lhs; whnf); first | ((with_reducible refine atFn ?_); first | (refine HN _ _ _ _ (by omega) (fun v1 n1 m1 h1 g1 k1 q1 => ?_); obtain ⟨tb, mb, rfl, htm, t1, t2, t3, t4, hT⟩ := q1; have k1p := Kq.kp k1) | (refine HF (hRA.kp k1p h1) hm _ _ (by omega) (fun v2 n2 m2 h2 g2 k2 q2 => ?_); obtain ⟨o, ho, hol0, how0, hat⟩ := q2; have k2p := Kq.kp k2; rcases hat with ⟨rfl, rfl⟩ | ⟨b1, K1, rfl, b2, b3, b4⟩)) | ((with_reducible refine lvS hO ?_)) | ((with_reducible refine lvN hO ?_)))
  all_goals (conv => lhs; whnf)
  all_goals first
    | refine lpI hO (fun q e n' m' => ∃ i t x y, i ≤ o.length ∧ q = o.length - i ∧ n2 ≤ n' ∧ n' ≤ n + 162 + 761 * i ∧ Kp n m m' ∧ Am m' b1 (.cells (acs o) 25 .more) ∧ TreeAt m' tb mb 65 t ∧ (WfT t ∧ Rc t) ∧ e = eof [(2, .o .ptr), (10, .n .i64 i), (16, x), (30, y)]) ?_ ?_ _ o.length _ _ _ (by have := ho.1; omega) ⟨0, newG, .o .top, .o .top, by omega, rfl, by omega, by omega, (by repeat (first | assumption | exact Kp.refl _ _ | refine Kp.mp ?_ (by omega) (by omega) | refine Kp.trans ?_ (by assumption) (by omega))), b4, hT.kp (by repeat (first | assumption | exact Kp.refl _ _ | refine Kp.mp ?_ (by omega) (by omega) | refine Kp.trans ?_ (by assumption) (by omega))) (by assumption) (by assumption), ⟨newG_wf, .new⟩, rfl⟩
    | refine lpI hO (fun q e n' m' => q = 0 ∧ n' = n2 ∧ m' = m2 ∧ e = eof [(2, .o .ptr), (10, .n .i64 0)]) ?_ ?_ _ 0 _ _ _ (by omega) ⟨rfl, rfl, rfl, rfl⟩
  all_goals first
    | (rintro q e n' m' ⟨_, rfl, _⟩; omega; done)
    | (rintro q e n' m' ⟨i, t, x, y, _, _, h, _⟩; omega; done)
    | skip
  · rintro q e n' m' ih ⟨rfl, rfl, rfl, rfl⟩ hih
    repeat' ((conv => lhs; whnf); first | ((with_reducible refine ltF hO (by omega) ?_)))
    all_goals (conv => lhs; whnf)
    all_goals first
      | exact hf _ _ _ (by omega) (by omega) (by repeat (first | assumption | exact Kq.refl _ _ _ | exact Kq.of (by assumption) _ | refine Kq.mp ?_ (by first | exact .inl (by omega) | exact .inr (by simp)) (by omega) | refine Kq.transP ?_ (by assumption) (by omega) | refine Kq.trans ?_ (by assumption) (by omega))) ⟨tb, mb, newG, rfl, htm, by omega, by omega, by omega, by omega, hT.kp (by repeat (first | assumption | exact Kp.refl _ _ | refine Kp.mp ?_ (by omega) (by omega) | refine Kp.trans ?_ (by assumption) (by omega))) (by assumption) (by assumption), newG_wf, .new⟩
  · have hol := ho.1
    rintro q e n' m' ih ⟨i, t, x9, y9, hi, rfl, g7, g8, hk, ham, hT, ⟨hW, hRc⟩, rfl⟩ hih
    have htb : tb < n' := by omega
    have hmb : mb < n' := by omega
    rcases Nat.lt_or_ge i o.length with hlt | hge
    · obtain ⟨⟨w, p, d, mm⟩, hgi⟩ : ∃ a, o[i]? = some a := ⟨o[i], List.getElem?_eq_getElem hlt⟩
      obtain ⟨hp, hd⟩ : p.length ≤ 300 ∧ d.length ≤ 9000 := ho.2 _ (List.mem_of_getElem? hgi)
      rcases w with x | x
      all_goals
        repeat' ((conv => lhs; whnf); first | ((with_reducible refine atFn ?_); first | refine HW (hT.kp (by repeat (first | assumption | exact Kp.refl _ _ | refine Kp.mp ?_ (by omega) (by omega) | refine Kp.trans ?_ (by assumption) (by omega))) htb hmb) (by omega) (by omega) htm hW _ _ _ (by omega) (by omega) _ _ (by omega) (fun v5 n5 m5 h5 g5 k5 q5 => (fun k5l => ?_) (Kq.low (n := n) k5 (by omega) (by simp only [List.mem_cons, List.not_mem_nil, or_false, forall_eq]; omega))) | refine HM (hT.kp (by repeat (first | assumption | exact Kp.refl _ _ | refine Kp.mp ?_ (by omega) (by omega) | refine Kp.trans ?_ (by assumption) (by omega))) htb hmb) (by omega) (by omega) htm hW _ (by omega) _ _ (by omega) (fun v5 n5 m5 h5 g5 k5 q5 => (fun k5l => ?_) (Kq.low (n := n) k5 (by omega) (by simp only [List.mem_cons, List.not_mem_nil, or_false, forall_eq]; omega))) | refine HR (hT.kp (by repeat (first | assumption | exact Kp.refl _ _ | refine Kp.mp ?_ (by omega) (by omega) | refine Kp.trans ?_ (by assumption) (by omega))) htb hmb) (by omega) (by omega) htm hW _ (by omega) _ _ (by omega) (fun v5 n5 m5 h5 g5 k5 q5 => (fun k5l => ?_) (Kq.low (n := n) k5 (by omega) (by simp only [List.mem_cons, List.not_mem_nil, or_false, forall_eq]; omega))) | refine HC (hT.kp (by repeat (first | assumption | exact Kp.refl _ _ | refine Kp.mp ?_ (by omega) (by omega) | refine Kp.trans ?_ (by assumption) (by omega))) htb hmb) (by omega) (by omega) hW _ (by omega) _ _ (by omega) (fun v5 n5 m5 h5 g5 k5 q5 => (fun k5l => ?_) (Kq.low (n := n) k5 (by omega) (by simp only [List.mem_cons, List.not_mem_nil, or_false, forall_eq]; omega)))) | ((with_reducible refine fa0 hO ?_)) | ((with_reducible refine atLd ?_); refine ldC hO (by repeat (first | assumption | exact am_same (by omega) | apply am_ne (by omega) (by omega) | apply kp_am (by assumption) (by omega) | apply Kq.am (by assumption) (by omega) (by simp only [List.mem_cons, List.not_mem_nil, or_false, forall_eq_or_imp, forall_eq, false_implies, implies_true, ne_eq, and_true]; omega))) (by rfl) ?_) | ((with_reducible refine ltT hO (by omega) ?_)) | ((with_reducible refine eqT hO (by omega) ?_)) | ((with_reducible refine eqF hO (by omega) ?_)) | ((with_reducible refine eqB hO (fun h => ?_) (fun h => ?_))) | ((with_reducible refine adI hO (by omega) ?_)) | ((with_reducible refine ix0 hO (by omega) ?_)) | ((with_reducible refine atSt ?_); first | refine stAg (r := [.n .i64 x, .s (pack p), .s (pack d), .n .u16 mm]) hO (by repeat (first | assumption | exact am_same (by omega) | apply am_ne (by omega) (by omega) | apply kp_am (by assumption) (by omega) | apply Kq.am (by assumption) (by omega) (by simp only [List.mem_cons, List.not_mem_nil, or_false, forall_eq_or_imp, forall_eq, false_implies, implies_true, ne_eq, and_true]; omega))) (by rfl) (by rfl) (fun _ => rfl) ?_ | refine stAg (r := [.z .i64 x, .s (pack p), .s (pack d), .n .u16 mm]) hO (by repeat (first | assumption | exact am_same (by omega) | apply am_ne (by omega) (by omega) | apply kp_am (by assumption) (by omega) | apply Kq.am (by assumption) (by omega) (by simp only [List.mem_cons, List.not_mem_nil, or_false, forall_eq_or_imp, forall_eq, false_implies, implies_true, ne_eq, and_true]; omega))) (by rfl) (by rfl) (fun _ => rfl) ?_) | ((with_reducible refine alO hO (by omega) ?_)) | ((with_reducible refine atLn ?_); refine lnAc hO (by repeat (first | assumption | exact am_same (by omega) | apply am_ne (by omega) (by omega) | apply kp_am (by assumption) (by omega) | apply Kq.am (by assumption) (by omega) (by simp only [List.mem_cons, List.not_mem_nil, or_false, forall_eq_or_imp, forall_eq, false_implies, implies_true, ne_eq, and_true]; omega))) hgi ?_) | ((with_reducible first | refine umt hO ?_ | refine uqu hO ?_ | refine urm hO ?_ | refine uan hO ?_ | refine uro hO ?_ | refine uxr hO ?_ | refine uhl hO ?_ | refine uhr hO ?_ | refine uad hO ?_ | refine usb hO ?_ | refine ult hO ?_ | refine ule hO ?_ | refine ugt hO ?_ | refine uge hO ?_ | refine ueq hO ?_ | refine une hO ?_ | refine ucv hO ?_ | refine uia hO ?_ | refine usv hO ?_ | refine ubu hO ?_ | refine uap hO ?_ | refine ubs hO ?_ | refine umm hO ?_ | refine upq hO ?_ | refine unq hO ?_ | refine uln hO ?_)))
        all_goals (conv => lhs; whnf)
      all_goals first
        | exact hih (o.length - (i + 1)) _ _ _ (by omega) ⟨i + 1, _, _, _, by omega, rfl, by omega, by omega, (by repeat (first | assumption | exact Kp.refl _ _ | refine Kp.mp ?_ (by omega) (by omega) | refine Kp.trans ?_ (by assumption) (by omega))), (by repeat (first | assumption | exact am_same (by omega) | apply am_ne (by omega) (by omega) | apply kp_am (by assumption) (by omega) | apply Kq.am (by assumption) (by omega) (by simp only [List.mem_cons, List.not_mem_nil, or_false, forall_eq_or_imp, forall_eq, false_implies, implies_true, ne_eq, and_true]; omega))), q5.2, by first | exact ⟨writeG_wf hW _ _ _, .write _ _ _ hRc⟩ | exact ⟨makeG_wf hW _, .make _ hRc⟩ | exact ⟨removeG_wf hW _, .remove _ hRc⟩, rfl⟩
        | exact hih (o.length - (i + 1)) _ _ _ (by omega) ⟨i + 1, _, _, _, by omega, rfl, by omega, by omega, (by repeat (first | assumption | exact Kp.refl _ _ | refine Kp.mp ?_ (by omega) (by omega) | refine Kp.trans ?_ (by assumption) (by omega))), (by repeat (first | assumption | exact am_same (by omega) | apply am_ne (by omega) (by omega) | apply kp_am (by assumption) (by omega) | apply Kq.am (by assumption) (by omega) (by simp only [List.mem_cons, List.not_mem_nil, or_false, forall_eq_or_imp, forall_eq, false_implies, implies_true, ne_eq, and_true]; omega))), q5.2 htm, ⟨cdG_wf hW _, .cd _ hRc⟩, rfl⟩
        | exact hih (o.length - (i + 1)) _ _ _ (by omega) ⟨i + 1, t, _, _, by omega, rfl, by omega, by omega, (by repeat (first | assumption | exact Kp.refl _ _ | refine Kp.mp ?_ (by omega) (by omega) | refine Kp.trans ?_ (by assumption) (by omega))), (by repeat (first | assumption | exact am_same (by omega) | apply am_ne (by omega) (by omega) | apply kp_am (by assumption) (by omega) | apply Kq.am (by assumption) (by omega) (by simp only [List.mem_cons, List.not_mem_nil, or_false, forall_eq_or_imp, forall_eq, false_implies, implies_true, ne_eq, and_true]; omega))), hT.kp (by repeat (first | assumption | exact Kp.refl _ _ | refine Kp.mp ?_ (by omega) (by omega) | refine Kp.trans ?_ (by assumption) (by omega))) htb hmb, ⟨hW, hRc⟩, rfl⟩
    · skip
      repeat' ((conv => lhs; whnf); first | ((with_reducible refine ltF hO (by omega) ?_)))
      all_goals (conv => lhs; whnf)
      all_goals first
        | exact hf _ _ _ (by omega) (by omega) (Kq.of (by repeat (first | assumption | exact Kp.refl _ _ | refine Kp.mp ?_ (by omega) (by omega) | refine Kp.trans ?_ (by assumption) (by omega))) _) ⟨tb, mb, t, rfl, htm, by omega, by omega, by omega, by omega, hT, hW, hRc⟩
end Go.Proofs.YtjoakhpdajlhiaaDoor.V2.S
namespace Go.Proofs.YtjoakhpdajlhiaaDoor.V2.S
open Go
set_option maxRecDepth 100000
set_option maxHeartbeats 4000000
set_option linter.unusedVariables false
attribute [local irreducible] fN fO nM gM pM Phi.fn mp bl bpart bapp top1 pack
def pF : List Bs → Bs
  | [] => []
  | n :: ns => 47 :: n ++ pF ns
def dirP (ns : List Bs) : Bs := if ns = [] then [47] else pF ns
theorem pF_app : ∀ a b : List Bs, pF (a ++ b) = pF a ++ pF b
  | [], b => rfl
  | n :: a, b => by show 47 :: n ++ pF (a ++ b) = 47 :: n ++ pF a ++ pF b; rw [pF_app a b, List.append_assoc]
theorem pF_snoc (a : List Bs) (n : Bs) : pF (a ++ [n]) = pF a ++ 47 :: n := by rw [pF_app]; show _ ++ (47 :: n ++ []) = _; rw [List.append_nil]
theorem splitB_ne : ∀ l : Bs, splitB l ≠ []
  | [] => by simp [splitB]
  | c :: l => by
    unfold splitB
    split
    · simp
    · split <;> simp
theorem splitB_app : ∀ a b : Bs, splitB (a ++ 47 :: b) = splitB a ++ splitB b
  | [], b => by show splitB (47 :: b) = [[]] ++ splitB b; rw [splitB, if_pos rfl]; rfl
  | c :: a, b => by
    have ih := splitB_app a b
    rw [List.cons_append, splitB, splitB, ih]
    by_cases hc : c = 47
    · rw [if_pos hc, if_pos hc]; rfl
    · rw [if_neg hc, if_neg hc]
      cases h : splitB a with
      | nil => exact absurd h (splitB_ne a)
      | cons p ps => rfl
theorem splitB_pF : ∀ (ns : List Bs) (a : Bs), (∀ n ∈ ns, countS n = 0) → splitB (a ++ pF ns) = splitB a ++ ns
  | [], a, _ => by show splitB (a ++ []) = _; rw [List.append_nil, List.append_nil]
  | n :: ns, a, h => by
    have e : a ++ pF (n :: ns) = (a ++ 47 :: n) ++ pF ns := by show a ++ (47 :: n ++ pF ns) = _; rw [List.append_assoc]
    rw [e, splitB_pF ns _ fun x hx => h x (List.mem_cons_of_mem _ hx), splitB_app, split_none (h n List.mem_cons_self), List.append_assoc]; rfl
theorem split_pF {ns : List Bs} (h : ∀ n ∈ ns, countS n = 0) : splitB (pF ns) = [] :: ns := splitB_pF ns [] h
structure Good (n : Bs) : Prop where
  nm : nameB n = true
  c0 : countS n = 0
  e1 : n ≠ []
  e2 : n ≠ [46]
  e3 : n ≠ [46, 46]
theorem lastS_app0 : ∀ (a n : Bs), countS n = 0 → lastS (a ++ 47 :: n) = a.length + 1
  | [], n, h => by
    show lastS (47 :: n) = 1
    have h0 : lastS n = 0 := lastS_none fun i hi hb => by
      have : (47 : UInt8) ∈ n := by
        unfold bt at hb
        rw [List.getD_eq_getElem?_getD, List.getElem?_eq_getElem hi, Option.getD_some] at hb
        rw [← show n[i] = 47 from UInt8.toNat_inj.1 hb]; exact List.getElem_mem hi
      exact absurd h (by unfold countS; exact Nat.pos_iff_ne_zero.1 (List.count_pos_iff.2 this))
    rw [lastS, if_pos h0, if_pos rfl]
  | c :: a, n, h => by
    show lastS (c :: (a ++ 47 :: n)) = _
    rw [lastS, lastS_app0 a n h, if_neg (by omega)]; rfl
theorem hasSuf_app (a : Bs) {n : Bs} (h0 : countS n = 0) (h1 : n ≠ []) : hasSuf (a ++ n) [47] = false := by
  unfold hasSuf
  have hl := List.length_pos_iff.2 h1
  by_cases h : (a ++ n).drop ((a ++ n).length - [(47 : UInt8)].length) = [47]
  · have hm : (47 : UInt8) ∈ n := by
      rw [List.length_append, show a.length + n.length - [(47 : UInt8)].length = a.length + (n.length - 1) by show _ - 1 = _; omega, List.drop_length_add_append] at h
      exact List.mem_of_mem_drop (h ▸ List.mem_singleton.2 rfl)
    exact absurd h0 (by unfold countS; exact Nat.pos_iff_ne_zero.1 (List.count_pos_iff.2 hm))
  · rw [decide_eq_false h, Bool.and_false]
theorem hasSuf_app' (b : List Bs) {x : Bs} (h : Good x) : hasSuf (pF b ++ 47 :: x) [47] = false := by
  have := hasSuf_app (pF b ++ [47]) h.c0 h.e1
  rwa [List.append_assoc] at this
theorem dirP_snoc (a : List Bs) (n : Bs) : dirP (a ++ [n]) = pF a ++ 47 :: n := by
  unfold dirP; rw [if_neg (by simp), pF_snoc]
theorem join_dirP {a : List Bs} (ha : ∀ x ∈ a, Good x) (n : Bs) : joinG (dirP a) n = dirP (a ++ [n]) := by
  rw [dirP_snoc]
  unfold joinG trimG
  rcases List.eq_nil_or_concat a with rfl | ⟨b, x, rfl⟩
  · rfl
  · have hx := ha x (by simp)
    rw [List.concat_eq_append] at *
    rw [dirP_snoc, pF_snoc, hasSuf_app' b hx]
    simp
theorem par_dirP (a : List Bs) {n : Bs} (h : Good n) : parG (dirP (a ++ [n])) = dirP a := by
  rw [dirP_snoc]
  unfold parG
  rw [lastS_app0 _ _ h.c0, Nat.add_sub_cancel]
  cases a with
  | nil => rfl
  | cons x a =>
    have : 1 ≤ (pF (x :: a)).length := by show 1 ≤ (47 :: x ++ pF a).length; simp
    rw [Nat.max_eq_left this, List.take_left']
    · unfold dirP; rw [if_neg (by simp)]
    · rfl
theorem step_name {t : Tr} {a : List Bs} {n : Bs} (ha : ∀ x ∈ a, Good x) (hn : Good n) (hk : kindG t (dirP a) = 1) : stepG t (dirP a) n = .inr (dirP (a ++ [n])) := by
  unfold stepG
  rw [if_neg (by rintro (h | h); exact hn.e1 h; exact hn.e2 h), if_neg (by rintro ⟨_, h⟩; rw [hn.nm] at h; cases h), if_neg (by omega), if_neg (by omega), if_neg hn.e3, join_dirP ha]
theorem step_e {t : Tr} {a : Bs} : stepG t a [] = .inr a := by unfold stepG; rw [if_pos (.inl rfl)]
theorem loop_names {t : Tr} : ∀ (b a : List Bs), (∀ x ∈ a, Good x) → (∀ x ∈ b, Good x) → (∀ j, j < b.length → kindG t (dirP (a ++ b.take j)) = 1) → loopG t (dirP a) b = .inr (dirP (a ++ b))
  | [], a, _, _, _ => by rw [loopG, List.append_nil]
  | n :: b, a, ha, hb, hk => by
    have h0 := hk 0 (by simp)
    rw [List.take_zero, List.append_nil] at h0
    have hn := hb n List.mem_cons_self
    rw [loopG_step (step_name ha hn h0), loop_names b (a ++ [n]) (fun x hx => (List.mem_append.1 hx).elim (ha x) fun h => by rw [List.mem_singleton.1 h]; exact hn) (fun x hx => hb x (List.mem_cons_of_mem _ hx)) (fun j hj => by have := hk (j + 1) (by simpa using hj); rw [List.append_assoc]; exact this), List.append_assoc]; rfl
end Go.Proofs.YtjoakhpdajlhiaaDoor.V2.S
namespace Go.Proofs.YtjoakhpdajlhiaaDoor.V2.S
open Go
set_option maxRecDepth 100000
set_option maxHeartbeats 4000000
set_option linter.unusedVariables false
attribute [local irreducible] fN fO nM gM pM Phi.fn mp bl bpart bapp top1 pack
theorem hasPre_pF {b : List Bs} (h : b ≠ []) : hasPre (pF b) [47] = true := by
  cases b with
  | nil => exact absurd rfl h
  | cons n b => rw [pF]; simp [hasPre]
theorem pF_ne {b : List Bs} (h : b ≠ []) : pF b ≠ [] := by
  cases b with
  | nil => exact absurd rfl h
  | cons n b => simp [pF]
theorem absP {t : Tr} {b : List Bs} (hg : ∀ x ∈ b, Good x) (hk : ∀ j, j < b.length → kindG t (dirP (b.take j)) = 1) (hl : (pF b).length ≤ 256) (hb : b ≠ []) : absG t (pF b) = (pF b, 0) := by
  have h1 := loop_names b [] (fun x hx => absurd hx List.not_mem_nil) hg (t := t) hk
  unfold absG
  rw [if_neg (by rintro (h | h); exact pF_ne hb h; omega), hasPre_pF hb, if_pos rfl, split_pF fun n hn => (hg n hn).c0, loopG_step step_e]
  rw [show dirP ([] : List Bs) = [47] from rfl, List.nil_append] at h1
  rw [h1]
  show (dirP b, 0) = (pF b, 0)
  unfold dirP; rw [if_neg hb]
/-! Names brought. -/
end Go.Proofs.YtjoakhpdajlhiaaDoor.V2.S
namespace Go.Proofs.YtjoakhpdajlhiaaDoor.V2.S
open Go
def insB (x : Bs) : List Bs → List Bs
  | [] => [x]
  | y :: l => if y < x then y :: insB x l else x :: y :: l
def sortB : List Bs → List Bs
  | [] => []
  | x :: l => insB x (sortB l)
def insE (x : En) : List En → List En
  | [] => [x]
  | y :: l => if y.path < x.path then y :: insE x l else x :: y :: l
def sortE : List En → List En
  | [] => []
  | x :: l => insE x (sortE l)
theorem insE_map (x : En) : ∀ l : List En, (insE x l).map En.path = insB x.path (l.map En.path)
  | [] => rfl
  | y :: l => by
    unfold insE
    rw [List.map_cons, insB]
    split
    · rw [List.map_cons, insE_map x l]
    · rfl
theorem sortE_map : ∀ l : List En, (sortE l).map En.path = sortB (l.map En.path)
  | [] => rfl
  | x :: l => by rw [sortE, insE_map, sortE_map l]; rfl
theorem insE_perm (x : En) : ∀ l : List En, (insE x l).Perm (x :: l)
  | [] => .refl _
  | y :: l => by
    unfold insE
    split
    · exact (List.Perm.cons y (insE_perm x l)).trans (List.Perm.swap x y l)
    · exact .refl _
theorem sortE_perm : ∀ l : List En, (sortE l).Perm l
  | [] => .refl _
  | x :: l => (insE_perm x (sortE l)).trans (List.Perm.cons x (sortE_perm l))
theorem sortE_len (l : List En) : (sortE l).length = l.length := (sortE_perm l).length_eq
theorem sizesG_perm {l l' : List En} (h : l.Perm l') : sizesG l = sizesG l' := by
  induction h with
  | nil => rfl
  | cons x _ ih => simp only [sizesG, ih]
  | swap x y l => simp only [sizesG]; omega
  | trans _ _ h1 h2 => exact h1.trans h2
theorem look_mem : ∀ {L : List En} {e : En}, (L.map En.path).Nodup → e ∈ L → lookM En.path e.path L = some e
  | [], e, _, h => absurd h List.not_mem_nil
  | b :: L, e, hn, h => by
    rw [List.map_cons, List.nodup_cons] at hn
    unfold lookM
    rcases List.mem_cons.1 h with h | h
    · subst h; rw [if_pos rfl]
    · rw [if_neg, look_mem hn.2 h]
      intro hb
      exact hn.1 (by rw [hb]; exact List.mem_map_of_mem h)
theorem sortE_at {L : List En} {i : Nat} {e : En} (hn : (L.map En.path).Nodup) (h : (sortE L)[i]? = some e) : lookM En.path e.path L = some e := look_mem hn ((sortE_perm L).mem_iff.1 (List.mem_of_getElem? h))
theorem sortB_at {L : List En} {i : Nat} {e : En} (h : (sortE L)[i]? = some e) : (sortB (L.map En.path))[i]? = some e.path := by rw [← sortE_map, List.getElem?_map, h]; rfl
theorem sortB_len (L : List En) : (sortB (L.map En.path)).length = L.length := by rw [← sortE_map, List.length_map, sortE_len]
theorem sizesG_take : ∀ {l : List En} {i : Nat} {e : En}, l[i]? = some e → sizesG (l.take (i + 1)) = sizesG (l.take i) + (e.path.length + e.data.length)
  | [], i, e, h => by simp at h
  | b :: l, 0, e, h => by
    simp at h; subst h
    simp [sizesG]
  | b :: l, i + 1, e, h => by
    have h : l[i]? = some e := by simpa using h
    have := sizesG_take h
    simp only [List.take_succ_cons, sizesG, this]; omega
theorem sizesG_le_take : ∀ (l : List En) (i : Nat), sizesG (l.take i) ≤ sizesG l
  | [], i => by simp [sizesG]
  | b :: l, 0 => by simp [sizesG]
  | b :: l, i + 1 => by
    have := sizesG_le_take l i
    simp only [List.take_succ_cons, sizesG]; omega
end Go.Proofs.YtjoakhpdajlhiaaDoor.V2.S
namespace Go.Proofs.YtjoakhpdajlhiaaDoor.V2.S
open Go
set_option maxRecDepth 100000
set_option linter.unusedVariables false
theorem good_of {n : Bs} (h : nameB n = true) : Good n := by
  have h' := h
  unfold nameB at h
  simp only [Bool.and_eq_true, decide_eq_true_eq, Bool.not_eq_true'] at h
  obtain ⟨⟨⟨⟨h1, h2⟩, h3⟩, h4⟩, h5⟩ := h
  refine ⟨h', ?_, h1, h2, h3⟩
  unfold countS
  rw [List.count_eq_zero]
  intro hm
  rw [List.any_eq_false] at h5
  exact h5 47 hm (by decide)
structure St (t : Tr) (a : Bs) (ns : List Bs) : Prop where
  g : ∀ x ∈ ns, Good x
  e : a = dirP ns
  k : ∀ j, j < ns.length → kindG t (dirP (ns.take j)) = 1
theorem dirP_long {a : List Bs} {n : Bs} (hn : Good n) : dirP (a ++ [n]) ≠ [47] := by
  rw [dirP_snoc]
  intro h
  have := congrArg List.length h
  have h1 := List.length_pos_iff.2 hn.e1
  simp only [List.length_append, List.length_cons, List.length_nil] at this
  omega
theorem dirP_inj {a b : List Bs} (ha : ∀ x ∈ a, Good x) (hb : ∀ x ∈ b, Good x) (h : dirP a = dirP b) : a = b := by
  rcases List.eq_nil_or_concat a with rfl | ⟨c, x, rfl⟩
  · rcases List.eq_nil_or_concat b with rfl | ⟨d, y, rfl⟩
    · rfl
    · rw [List.concat_eq_append] at *
      exact absurd h.symm (dirP_long (hb y (by simp)))
  · rw [List.concat_eq_append] at *
    rcases List.eq_nil_or_concat b with rfl | ⟨d, y, rfl⟩
    · exact absurd h (dirP_long (ha x (by simp)))
    · rw [List.concat_eq_append] at *
      rw [dirP, if_neg (by simp), dirP, if_neg (by simp)] at h
      have := congrArg splitB h
      rw [split_pF fun n hn => (ha n hn).c0, split_pF fun n hn => (hb n hn).c0] at this
      exact (List.cons.inj this).2
theorem kind_some {t : Tr} {p : Bs} (h : kindG t p ≠ 0) (hp : p ≠ [47]) : ∃ e, look t p = some e ∧ e ∈ t.L ∧ e.path = p ∧ kindG t p = if e.dir then 1 else 2 := by
  unfold kindG at h ⊢
  rw [if_neg hp] at h ⊢
  cases hl : look t p with
  | none => rw [hl] at h; exact absurd rfl h
  | some e => exact ⟨e, rfl, look_in hl, (look_sizes hl).2, rfl⟩
theorem kind_le (t : Tr) (p : Bs) : kindG t p = 0 ∨ kindG t p = 1 ∨ kindG t p = 2 := by
  unfold kindG
  split
  · exact .inr (.inl rfl)
  split
  · split
    · exact .inr (.inl rfl)
    · exact .inr (.inr rfl)
  · exact .inl rfl
structure OkT (t : Tr) : Prop where
  en : ∀ e ∈ t.L, ∃ ns n, (∀ x ∈ ns, Good x) ∧ Good n ∧ e.path = dirP (ns ++ [n]) ∧ kindG t (dirP ns) = 1
  cw : ∃ ns, (∀ x ∈ ns, Good x) ∧ t.cwd = dirP ns ∧ kindG t t.cwd = 1
  dd : ∀ e ∈ t.L, e.dir = true → e.data = []
theorem OkT.up {t : Tr} (h : OkT t) {ms : List Bs} {n : Bs} (hm : ∀ x ∈ ms, Good x) (hn : Good n) (hk : kindG t (dirP (ms ++ [n])) ≠ 0) : kindG t (dirP ms) = 1 := by
  obtain ⟨e, h1, h2, h3, _⟩ := kind_some hk (dirP_long hn)
  obtain ⟨ns, n', g1, g2, g3, g4⟩ := h.en e h2
  have : ms ++ [n] = ns ++ [n'] := dirP_inj (fun x hx => (List.mem_append.1 hx).elim (hm x) fun h => by rw [List.mem_singleton.1 h]; exact hn) (fun x hx => (List.mem_append.1 hx).elim (g1 x) fun h => by rw [List.mem_singleton.1 h]; exact g2) (h3.symm.trans g3)
  obtain ⟨rfl, _⟩ := List.append_inj' this rfl
  exact g4
theorem OkT.chain {t : Tr} (h : OkT t) : ∀ (k : Nat) (ns : List Bs), ns.length = k → (∀ x ∈ ns, Good x) → kindG t (dirP ns) ≠ 0 → ∀ j, j < ns.length → kindG t (dirP (ns.take j)) = 1
  | 0, ns, hl, _, _, j, hj => by omega
  | k + 1, ns, hl, hg, hk, j, hj => by
    rcases List.eq_nil_or_concat ns with rfl | ⟨ms, n, rfl⟩
    · cases hl
    · rw [List.concat_eq_append] at *
      rw [List.length_append, List.length_singleton] at hl hj
      have hm : ∀ x ∈ ms, Good x := fun x hx => hg x (by simp [hx])
      have h1 := h.up hm (hg n (by simp)) hk
      rcases Nat.lt_or_ge j ms.length with h2 | h2
      · rw [List.take_append_of_le_length (by omega)]
        exact OkT.chain h k ms (by omega) hm (by omega) j h2
      · rw [List.take_left' (by omega)]; exact h1
theorem OkT.st {t : Tr} (h : OkT t) {ns : List Bs} (hg : ∀ x ∈ ns, Good x) (hk : kindG t (dirP ns) ≠ 0) : St t (dirP ns) ns := ⟨hg, rfl, h.chain _ ns rfl hg hk⟩
theorem step_st {t : Tr} {a b p : Bs} {ns : List Bs} (hs : St t a ns) (h : stepG t a p = .inr b) : ∃ ms, St t b ms := by
  obtain ⟨hg, rfl, hk⟩ := hs
  unfold stepG at h
  split at h
  · cases h; exact ⟨ns, hg, rfl, hk⟩
  rename_i h1
  split at h
  · cases h
  rename_i h2
  split at h
  · cases h
  rename_i h3
  split at h
  · cases h
  rename_i h4
  have h5 : kindG t (dirP ns) = 1 := by have := kind_le t (dirP ns); omega
  split at h
  · cases h
    rcases List.eq_nil_or_concat ns with rfl | ⟨ms, n, rfl⟩
    · exact ⟨[], hg, by decide, hk⟩
    · rw [List.concat_eq_append] at *
      rw [par_dirP ms (hg n (by simp))]
      exact ⟨ms, fun x hx => hg x (by simp [hx]), rfl, fun j hj => by
        have := hk j (by rw [List.length_append]; omega)
        rwa [List.take_append_of_le_length (by omega)] at this⟩
  · rename_i h6
    cases h
    have hn : Good p := good_of (by
      cases hq : nameB p with
      | true => rfl
      | false => exact absurd ⟨h6, hq⟩ h2)
    rw [join_dirP hg]
    refine ⟨ns ++ [p], fun x hx => (List.mem_append.1 hx).elim (hg x) fun h => by rw [List.mem_singleton.1 h]; exact hn, rfl, fun j hj => ?_⟩
    rw [List.length_append, List.length_singleton] at hj
    rcases Nat.lt_or_ge j ns.length with h7 | h7
    · rw [List.take_append_of_le_length (by omega)]; exact hk j h7
    · rw [List.take_left' (by omega)]; exact h5
theorem loop_st {t : Tr} : ∀ {ps : List Bs} {a b : Bs} {ns : List Bs}, St t a ns → loopG t a ps = .inr b → ∃ ms, St t b ms
  | [], a, b, ns, hs, h => by unfold loopG at h; cases h; exact ⟨ns, hs⟩
  | p :: ps, a, b, ns, hs, h => by
    unfold loopG at h
    cases hq : stepG t a p with
    | inl e => rw [hq] at h; cases h
    | inr c =>
      rw [hq] at h
      obtain ⟨ms, h1⟩ := step_st hs hq
      exact loop_st h1 h
theorem OkT.abs {t : Tr} (h : OkT t) {path : Bs} (h0 : (absG t path).2 = 0) : ∃ ns, St t (absG t path).1 ns := by
  unfold absG at h0 ⊢
  split
  · rename_i hh; rw [if_pos hh] at h0; cases h0
  · rename_i hh
    rw [if_neg hh] at h0
    cases hl : loopG t (if hasPre path [47] then [47] else t.cwd) (splitB path) with
    | inl e =>
      rw [hl] at h0
      have : e = 0 := h0
      exact absurd hl (by subst this; exact loopG_ne0)
    | inr a =>
      obtain ⟨ns, g1, g2, g3⟩ := h.cw
      have hc : St t t.cwd ns := ⟨g1, g2, h.chain _ ns rfl g1 (by rw [← g2, g3]; decide)⟩
      by_cases hp : hasPre path [47] = true
      · rw [if_pos hp] at hl
        exact loop_st (ns := []) ⟨fun x hx => absurd hx List.not_mem_nil, rfl, fun j hj => absurd hj (Nat.not_lt_zero _)⟩ hl
      · rw [if_neg hp] at hl
        exact loop_st hc hl
theorem St.abs {t : Tr} {a : Bs} {ns : List Bs} (h : St t a ns) (hl : a.length ≤ 256) : absG t a = (a, 0) := by
  obtain ⟨hg, rfl, hk⟩ := h
  by_cases hn : ns = []
  · subst hn; rfl
  · have e : dirP ns = pF ns := if_neg hn
    rw [e] at hl ⊢
    exact absP hg hk hl hn
theorem look_set (p : Bs) (x : En) : ∀ L : List En, lookM En.path p (setM En.path x L) = if x.path = p then some x else lookM En.path p L
  | [] => rfl
  | a :: L => by
    unfold setM
    by_cases ha : a.path = x.path
    · rw [if_pos ha]
      unfold lookM
      by_cases hp : x.path = p
      · rw [if_pos hp, if_pos hp]
      · rw [if_neg hp, if_neg hp, if_neg (by rw [ha]; exact hp)]
    · rw [if_neg ha]
      unfold lookM
      by_cases hp : a.path = p
      · rw [if_pos hp, if_pos hp, if_neg (fun h => ha (by rw [hp, h]))]
      · rw [if_neg hp, if_neg hp, look_set p x L]
theorem look_del {p a : Bs} : ∀ {L : List En}, (L.map En.path).Nodup → lookM En.path p (delM En.path a L) = if p = a then none else lookM En.path p L
  | [], _ => by simp [delM, lookM]
  | b :: L, hn => by
    rw [List.map_cons, List.nodup_cons] at hn
    unfold delM
    by_cases hb : b.path = a
    · rw [if_pos hb]
      by_cases hp : p = a
      · rw [if_pos hp]
        cases hl : lookM En.path p L with
        | none => rfl
        | some e =>
          have h1 := look_in hl
          have h2 := (look_sizes hl).2
          exact absurd (List.mem_map_of_mem (f := En.path) h1) (by rw [h2, hp, ← hb]; exact hn.1)
      · rw [if_neg hp]
        conv => rhs; unfold lookM
        rw [if_neg (fun h => hp (by rw [← h, hb]))]
    · rw [if_neg hb]
      unfold lookM
      by_cases hp : b.path = p
      · rw [if_pos hp, if_pos hp, if_neg (fun h => hb (by rw [hp, h]))]
      · rw [if_neg hp, if_neg hp, look_del hn.2]
theorem kind_set {t : Tr} {x : En} {p : Bs} (hx : x.path ≠ [47]) : kindG { t with L := setM En.path x t.L } p = if x.path = p then (if x.dir then 1 else 2) else kindG t p := by
  unfold kindG look
  rw [look_set]
  by_cases hp : x.path = p
  · rw [if_pos hp, if_pos hp, if_neg (fun h => hx (by rw [hp, h]))]
  · rw [if_neg hp, if_neg hp]
theorem kind_del {t : Tr} {a p : Bs} (hn : (t.L.map En.path).Nodup) (ha : a ≠ [47]) : kindG { t with L := delM En.path a t.L } p = if p = a then 0 else kindG t p := by
  unfold kindG look
  rw [look_del hn]
  by_cases hp : p = a
  · rw [if_pos hp, if_pos hp, if_neg (fun h => ha (by rw [← hp, h]))]
  · rw [if_neg hp, if_neg hp]
theorem putG_ok {t : Tr} {x : En} (h : (putG t x).2 = 0) : (putG t x).1 = { t with L := setM En.path x t.L } ∧ x.path.length ≤ 256 ∧ x.data.length ≤ 8192 := by
  unfold putG at h ⊢
  split
  · rename_i hh; rw [if_pos hh] at h; cases h
  rename_i h1
  rw [if_neg h1] at h
  split
  · rename_i hh; rw [if_pos hh] at h; cases h
  · exact ⟨rfl, by omega, by omega⟩
theorem putG_no {t : Tr} {x : En} (h : (putG t x).2 ≠ 0) : (putG t x).1 = t := by
  unfold putG at h ⊢
  split
  · rfl
  rename_i h1
  rw [if_neg h1] at h
  split
  · rfl
  rename_i h2
  rw [if_neg h2] at h; exact absurd rfl h
theorem OkT.set {t : Tr} (h : OkT t) {x : En} {ns : List Bs} {n : Bs} (hg : ∀ y ∈ ns, Good y) (hn : Good n) (hx : x.path = dirP (ns ++ [n])) (hp : kindG t (dirP ns) = 1) (hk : x.dir = true ∧ x.data = [] ∨ x.dir = false ∧ kindG t x.path ≠ 1) : OkT { t with L := setM En.path x t.L } := by
  have hxn : x.path ≠ [47] := by rw [hx]; exact dirP_long hn
  have keep : ∀ p, kindG t p = 1 → kindG { t with L := setM En.path x t.L } p = 1 := fun p hp => by
    rw [kind_set hxn]
    split
    · rename_i he
      subst he
      rcases hk with ⟨h1, _⟩ | ⟨h1, h2⟩
      · rw [if_pos h1]
      · exact absurd hp h2
    · exact hp
  refine ⟨fun e he => ?_, ?_, fun e he hd => ?_⟩
  · rcases setM_mem he with rfl | he
    · exact ⟨ns, n, hg, hn, hx, keep _ hp⟩
    · obtain ⟨ms, m, h1, h2, h3, h4⟩ := h.en e he
      exact ⟨ms, m, h1, h2, h3, keep _ h4⟩
  · obtain ⟨ms, h1, h2, h3⟩ := h.cw
    exact ⟨ms, h1, h2, keep _ h3⟩
  · rcases setM_mem he with rfl | he
    · rcases hk with ⟨_, h1⟩ | ⟨h1, _⟩
      · exact h1
      · rw [hd] at h1; cases h1
    · exact h.dd e he hd
theorem OkT.del {t : Tr} (h : OkT t) (hW : WfT t) {a : Bs} (ha : a ≠ [47]) (hc : a ≠ t.cwd) (hw : withinB t a = false) : OkT { t with L := delM En.path a t.L } := by
  have hsub : ∀ e, e ∈ delM En.path a t.L → e ∈ t.L := fun e he => (delM_sub a t.L).subset he
  refine ⟨fun e he => ?_, ?_, fun e he hd => h.dd e (hsub e he) hd⟩
  · obtain ⟨ms, m, h1, h2, h3, h4⟩ := h.en e (hsub e he)
    refine ⟨ms, m, h1, h2, h3, ?_⟩
    show kindG { t with L := delM En.path a t.L } (dirP ms) = 1
    rw [kind_del hW.nd ha, if_neg, h4]
    intro hq
    unfold withinB at hw
    rw [List.any_eq_false] at hw
    exact hw e (hsub e he) (by rw [h3, par_dirP ms h2, hq]; simp)
  · obtain ⟨ms, h1, h2, h3⟩ := h.cw
    refine ⟨ms, h1, h2, ?_⟩
    show kindG { t with L := delM En.path a t.L } t.cwd = 1
    rw [kind_del hW.nd ha, if_neg (fun hq => hc hq.symm), h3]
theorem St.last {t : Tr} {a : Bs} {ns : List Bs} (h : St t a ns) (ha : a ≠ [47]) : ∃ ms m, (∀ y ∈ ms, Good y) ∧ Good m ∧ a = dirP (ms ++ [m]) ∧ kindG t (dirP ms) = 1 ∧ ns = ms ++ [m] := by
  obtain ⟨hg, rfl, hk⟩ := h
  rcases List.eq_nil_or_concat ns with rfl | ⟨ms, m, rfl⟩
  · exact absurd rfl ha
  · rw [List.concat_eq_append] at *
    refine ⟨ms, m, fun y hy => hg y (by simp [hy]), hg m (by simp), rfl, ?_, rfl⟩
    have := hk ms.length (by simp)
    rwa [List.take_left' rfl] at this
theorem write_eq {t : Tr} {path data : Bs} {more : Bool} (h : (writeG t path data more).2 = 0) : (absG t path).2 = 0 ∧ kindG t (absG t path).1 ≠ 1 ∧ (putG t ⟨(absG t path).1, false, if more then dataG t (absG t path).1 ++ data else data⟩).2 = 0 ∧ (writeG t path data more).1 = { t with L := setM En.path ⟨(absG t path).1, false, if more then dataG t (absG t path).1 ++ data else data⟩ t.L } := by
  unfold writeG at h ⊢
  by_cases h1 : (absG t path).2 ≠ 0
  · rw [if_pos h1] at h; exact absurd h h1
  rw [if_neg h1] at h ⊢
  by_cases h2 : kindG t (absG t path).1 = 1
  · rw [if_pos h2] at h; cases h
  rw [if_neg h2] at h ⊢
  exact ⟨by omega, h2, h, (putG_ok h).1⟩
theorem write_no {t : Tr} {path data : Bs} {more : Bool} (h : (writeG t path data more).2 ≠ 0) : (writeG t path data more).1 = t := by
  unfold writeG at h ⊢
  split
  · rfl
  rename_i h1
  rw [if_neg h1] at h
  split
  · rfl
  rename_i h2
  rw [if_neg h2] at h; exact putG_no h
theorem make_eq {t : Tr} {path : Bs} (h : (makeG t path).2 = 0) : (absG t path).2 = 0 ∧ kindG t (absG t path).1 = 0 ∧ (putG t ⟨(absG t path).1, true, []⟩).2 = 0 ∧ (makeG t path).1 = { t with L := setM En.path ⟨(absG t path).1, true, []⟩ t.L } := by
  unfold makeG at h ⊢
  by_cases h1 : (absG t path).2 ≠ 0
  · rw [if_pos h1] at h; exact absurd h h1
  rw [if_neg h1] at h ⊢
  by_cases h2 : kindG t (absG t path).1 ≠ 0
  · rw [if_pos h2] at h; cases h
  rw [if_neg h2] at h ⊢
  exact ⟨by omega, by omega, h, (putG_ok h).1⟩
theorem make_no {t : Tr} {path : Bs} (h : (makeG t path).2 ≠ 0) : (makeG t path).1 = t := by
  unfold makeG at h ⊢
  split
  · rfl
  rename_i h1
  rw [if_neg h1] at h
  split
  · rfl
  rename_i h2
  rw [if_neg h2] at h; exact putG_no h
theorem remove_eq {t : Tr} {path : Bs} (h : (removeG t path).2 = 0) : (absG t path).2 = 0 ∧ kindG t (absG t path).1 ≠ 0 ∧ ¬ busyG t (absG t path).1 ∧ withinB t (absG t path).1 = false ∧ (removeG t path).1 = { t with L := delM En.path (absG t path).1 t.L } := by
  unfold removeG at h ⊢
  by_cases h1 : (absG t path).2 ≠ 0
  · rw [if_pos h1] at h; exact absurd h h1
  rw [if_neg h1] at h ⊢
  by_cases h2 : kindG t (absG t path).1 = 0
  · rw [if_pos h2] at h; cases h
  rw [if_neg h2] at h ⊢
  by_cases h3 : busyG t (absG t path).1
  · rw [if_pos h3] at h; cases h
  rw [if_neg h3] at h ⊢
  by_cases h4 : withinB t (absG t path).1 = true
  · rw [if_pos h4] at h; cases h
  rw [if_neg h4]
  exact ⟨by omega, h2, h3, by simpa using h4, rfl⟩
theorem remove_no {t : Tr} {path : Bs} (h : (removeG t path).2 ≠ 0) : (removeG t path).1 = t := by
  unfold removeG at h ⊢
  split
  · rfl
  rename_i h1
  rw [if_neg h1] at h
  split
  · rfl
  rename_i h2
  rw [if_neg h2] at h
  split
  · rfl
  rename_i h3
  rw [if_neg h3] at h
  split
  · rfl
  rename_i h4
  rw [if_neg h4] at h; exact absurd rfl h
theorem is_eq {t : Tr} {path : Bs} {kd : Nat} (h : (isG t path kd).2 = 0) : (absG t path).2 = 0 ∧ kindG t (absG t path).1 = kd ∧ (isG t path kd).1 = (absG t path).1 := by
  unfold isG at h ⊢
  by_cases h1 : (absG t path).2 ≠ 0
  · rw [if_pos h1] at h; exact absurd h h1
  rw [if_neg h1] at h ⊢
  by_cases h2 : kindG t (absG t path).1 = kd
  · rw [if_pos h2]; exact ⟨by omega, h2, rfl⟩
  rw [if_neg h2] at h
  split at h <;> cases h
theorem is_of {t : Tr} {path a : Bs} {kd : Nat} (h1 : absG t path = (a, 0)) (h2 : kindG t a = kd) : isG t path kd = (a, 0) := by
  unfold isG; rw [h1]; rw [if_neg (by simp), if_pos h2]
theorem cd_no {t : Tr} {path : Bs} (h : (cdG t path).2 ≠ 0) : (cdG t path).1 = t := by
  unfold cdG at h ⊢
  split
  · rfl
  rename_i h1
  rw [if_neg h1] at h; exact absurd rfl h
theorem cd_eq {t : Tr} {path : Bs} (h : (cdG t path).2 = 0) : (absG t path).2 = 0 ∧ kindG t (absG t path).1 = 1 ∧ (cdG t path).1 = { t with cwd := (absG t path).1 } := by
  unfold cdG at h ⊢
  by_cases h1 : (isG t path 1).2 ≠ 0
  · rw [if_pos h1] at h; exact absurd h h1
  rw [if_neg h1]
  obtain ⟨g1, g2, g3⟩ := is_eq (by omega : (isG t path 1).2 = 0)
  exact ⟨g1, g2, by rw [g3]⟩
theorem OkT.new : OkT newG := ⟨fun e he => absurd he List.not_mem_nil, ⟨[], fun x hx => absurd hx List.not_mem_nil, rfl, rfl⟩, fun e he => absurd he List.not_mem_nil⟩
theorem OkT.write {t : Tr} (h : OkT t) (path data : Bs) (more : Bool) : OkT (writeG t path data more).1 := by
  by_cases h0 : (writeG t path data more).2 = 0
  · obtain ⟨h1, h2, h3, h4⟩ := write_eq h0
    rw [h4]
    obtain ⟨ns, hs⟩ := h.abs h1
    obtain ⟨ms, m, g1, g2, g3, g4, _⟩ := hs.last (fun he => h2 (by rw [he]; rfl))
    exact h.set g1 g2 g3 g4 (.inr ⟨rfl, h2⟩)
  · rw [write_no h0]; exact h
theorem OkT.make {t : Tr} (h : OkT t) (path : Bs) : OkT (makeG t path).1 := by
  by_cases h0 : (makeG t path).2 = 0
  · obtain ⟨h1, h2, h3, h4⟩ := make_eq h0
    rw [h4]
    obtain ⟨ns, hs⟩ := h.abs h1
    obtain ⟨ms, m, g1, g2, g3, g4, _⟩ := hs.last (fun he => by rw [he] at h2; cases h2)
    exact h.set g1 g2 g3 g4 (.inl ⟨rfl, rfl⟩)
  · rw [make_no h0]; exact h
theorem OkT.remove {t : Tr} (h : OkT t) (hW : WfT t) (path : Bs) : OkT (removeG t path).1 := by
  by_cases h0 : (removeG t path).2 = 0
  · obtain ⟨h1, h2, h3, h4, h5⟩ := remove_eq h0
    rw [h5]
    exact h.del hW (fun he => h3 (.inl he)) (fun he => h3 (.inr (.inl he))) h4
  · rw [remove_no h0]; exact h
theorem OkT.cd {t : Tr} (h : OkT t) (path : Bs) : OkT (cdG t path).1 := by
  by_cases h0 : (cdG t path).2 = 0
  · obtain ⟨h1, h2, h3⟩ := cd_eq h0
    rw [h3]
    obtain ⟨ns, hs⟩ := h.abs h1
    exact ⟨fun e he => h.en e he, ⟨ns, hs.g, hs.e, h2⟩, h.dd⟩
  · rw [cd_no h0]; exact h
theorem Rc.ok {t : Tr} (h : Rc t) : WfT t ∧ OkT t := by
  induction h with
  | new => exact ⟨newG_wf, .new⟩
  | write p d m _ ih => exact ⟨writeG_wf ih.1 p d m, ih.2.write p d m⟩
  | make p _ ih => exact ⟨makeG_wf ih.1 p, ih.2.make p⟩
  | remove p _ ih => exact ⟨removeG_wf ih.1 p, ih.2.remove ih.1 p⟩
  | cd p _ ih => exact ⟨cdG_wf ih.1 p, ih.2.cd p⟩
end Go.Proofs.YtjoakhpdajlhiaaDoor.V2.S
namespace Go.Proofs.YtjoakhpdajlhiaaDoor.V2.S
open Go
set_option maxRecDepth 100000
set_option linter.unusedVariables false
def twoB (a : Nat) : Bs := [UInt8.ofNat (a / 256 % 256), UInt8.ofNat (a % 256)]
def toldB (s : Bs) : Bs := (twoB s.length).take 2 ++ s
theorem toldB_len (s : Bs) : (toldB s).length = 2 + s.length := by unfold toldB; rw [List.length_append]; rfl
def entB (e : En) : Bs := [if e.dir then 1 else 2] ++ toldB e.path ++ (if e.dir then [] else toldB e.data)
def treeB (t : Tr) : Bs := toldB t.cwd ++ twoB t.L.length ++ (sortE t.L).flatMap entB
def preB (t : Tr) : Bs := toldB t.cwd ++ twoB t.L.length
def byI (t : Tr) (i : Nat) : Bs := preB t ++ ((sortE t.L).take i).flatMap entB
theorem byI_0 (t : Tr) : byI t 0 = preB t := by unfold byI; rw [List.take_zero, List.flatMap_nil, List.append_nil]
theorem byI_all (t : Tr) : byI t t.L.length = treeB t := by unfold byI treeB preB; rw [List.take_of_length_le (by rw [sortE_len]; exact Nat.le_refl _)]
theorem byI_succ {t : Tr} {i : Nat} {e : En} (h : (sortE t.L)[i]? = some e) : byI t (i + 1) = byI t i ++ entB e := by
  unfold byI
  rw [List.take_add_one, h, List.flatMap_append, List.append_assoc]
  show _ ++ (_ ++ [e].flatMap entB) = _
  rw [List.flatMap_singleton]
theorem entB_len (e : En) : (entB e).length ≤ 5 + e.path.length + e.data.length := by
  unfold entB
  split <;> simp only [List.length_append, toldB_len, List.length_cons, List.length_nil] <;> omega
theorem ents_len : ∀ l : List En, (l.flatMap entB).length ≤ 5 * l.length + sizesG l
  | [] => Nat.le_refl _
  | e :: l => by
    rw [List.flatMap_cons, List.length_append, List.length_cons]
    have := entB_len e
    have := ents_len l
    show _ ≤ _ + (e.path.length + e.data.length + sizesG l)
    omega
theorem byI_len {t : Tr} (hW : WfT t) (i : Nat) : (byI t i).length ≤ 34000 := by
  unfold byI preB
  rw [List.length_append, List.length_append, toldB_len]
  have h1 := ents_len ((sortE t.L).take i)
  have h2 := sizesG_le_take (sortE t.L) i
  rw [sizesG_perm (sortE_perm t.L)] at h2
  have h3 := hW.len
  have h4 := hW.sz
  have h5 := hW.c2
  have h6 : ((sortE t.L).take i).length ≤ t.L.length := by rw [List.length_take, sortE_len]; omega
  show _ + 2 + _ ≤ _
  omega
theorem tk0 {l : Bs} {L : Nat} (h : L = l.length) : (l.drop 0).take L = l := by rw [List.drop_zero, h, List.take_length]
theorem preB_eq (t : Tr) : preB t = ((toldB t.cwd).drop 0).take (2 + t.cwd.length) ++ ((twoB t.L.length).drop 0).take 2 := by
  rw [tk0 (toldB_len _).symm]; rfl
theorem preB_len (t : Tr) : 2 + t.cwd.length + 2 = (byI t 0).length := by rw [byI_0]; unfold preB; rw [List.length_append, toldB_len]; rfl
theorem ent_dir {t : Tr} {i L : Nat} {e : En} (hL : L = (byI t i).length) (he : (sortE t.L)[i]? = some e) (hd : e.dir = true) : byI t (i + 1) = ((((byI t i).drop 0).take L ++ (([UInt8.ofNat 1] : Bs).drop 0).take 1).drop 0).take (L + 1) ++ ((toldB e.path).drop 0).take (2 + e.path.length) := by
  rw [tk0 hL, tk0 (l := [UInt8.ofNat 1]) (L := 1) rfl, tk0 (by rw [List.length_append, hL]; rfl), tk0 (toldB_len _).symm, byI_succ he]
  unfold entB
  rw [if_pos hd, if_pos hd, List.append_nil, ← List.append_assoc]; rfl
theorem ent_file {t : Tr} {i L : Nat} {e : En} (hL : L = (byI t i).length) (he : (sortE t.L)[i]? = some e) (hd : e.dir = false) : byI t (i + 1) = ((((((byI t i).drop 0).take L ++ (([UInt8.ofNat 2] : Bs).drop 0).take 1).drop 0).take (L + 1) ++ ((toldB e.path).drop 0).take (2 + e.path.length)).drop 0).take (L + 1 + (2 + e.path.length)) ++ ((toldB e.data).drop 0).take (2 + e.data.length) := by
  rw [tk0 hL, tk0 (l := [UInt8.ofNat 2]) (L := 1) rfl, tk0 (l := byI t i ++ [UInt8.ofNat 2]) (L := L + 1) (by rw [List.length_append, hL]; rfl), tk0 (l := toldB e.path) (toldB_len _).symm, tk0 (l := toldB e.data) (toldB_len _).symm, tk0 (l := byI t i ++ [UInt8.ofNat 2] ++ toldB e.path) (L := L + 1 + (2 + e.path.length)) (by rw [List.length_append, List.length_append, toldB_len, hL]; rfl), byI_succ he]
  unfold entB
  rw [if_neg (by simp [hd]), if_neg (by simp [hd]), ← List.append_assoc, ← List.append_assoc]; rfl
theorem len_dir {t : Tr} {i L : Nat} {e : En} (hL : L = (byI t i).length) (he : (sortE t.L)[i]? = some e) (hd : e.dir = true) : L + 1 + (2 + e.path.length) = (byI t (i + 1)).length := by
  rw [byI_succ he, List.length_append, ← hL]
  unfold entB
  rw [if_pos hd, if_pos hd, List.append_nil, List.length_append, toldB_len, List.length_singleton]; omega
theorem len_file {t : Tr} {i L : Nat} {e : En} (hL : L = (byI t i).length) (he : (sortE t.L)[i]? = some e) (hd : e.dir = false) : L + 1 + (2 + e.path.length) + (2 + e.data.length) = (byI t (i + 1)).length := by
  rw [byI_succ he, List.length_append, ← hL]
  unfold entB
  rw [if_neg (by simp [hd]), if_neg (by simp [hd]), List.length_append, List.length_append, toldB_len, toldB_len, List.length_singleton]; omega
theorem bt_ext {a b : Bs} (hl : a.length = b.length) (h : ∀ j, j < a.length → bt a j = bt b j) : a = b := by
  refine List.ext_getElem hl fun i h1 h2 => ?_
  have := h i h1
  unfold bt at this
  rw [List.getD_eq_getElem?_getD, List.getD_eq_getElem?_getD, List.getElem?_eq_getElem h1, List.getElem?_eq_getElem h2, Option.getD_some, Option.getD_some] at this
  exact UInt8.toNat_inj.1 this
end Go.Proofs.YtjoakhpdajlhiaaDoor.V2.S
namespace Go.Proofs.YtjoakhpdajlhiaaDoor.V2.S
open Go
set_option maxRecDepth 100000
set_option linter.unusedVariables false
theorem entV_eq (a b : En) : a = b ↔ a.path = b.path ∧ a.dir = b.dir ∧ a.data = b.data := by
  cases a; cases b; simp
instance : DecidableEq En := fun a b => decidable_of_iff _ (entV_eq a b).symm
theorem pqE {O : Oz} (hO : O = zO) {P : FR} {k : KV} {σ : FH} {neg : Bool} {a b : En} (h : k (.b (bif neg then !decide (a = b) else decide (a = b))) σ = P) : O.pq (.eqF neg [.str, .bool, .str]) [entV a, entV b] σ k = P := by
  subst hO
  show slV (pstep std (.eqF neg [.str, .bool, .str]) [αV (entV a), αV (entV b)]) (fun v => k v σ) = P
  have e : pstep std (.eqF neg [.str, .bool, .str]) [αV (entV a), αV (entV b)] = (true, .bool (bif neg then !decide (a = b) else decide (a = b))) := by
    have e1 : flatEq std false [.str, .bool, .str] (αV (entV a)) (αV (entV b)) = (true, decide (a = b)) := by
      show (true && (true && (true && true)), (unp (pack a.path) == unp (pack b.path)) && ((a.dir == b.dir) && ((unp (pack a.data) == unp (pack b.data)) && true))) = _
      rw [unp_pack, unp_pack, unp_pack, unp_pack]
      congr 1
      rw [Bool.and_true]
      by_cases h : a = b
      · rw [decide_eq_true h]; subst h; simp
      · rw [decide_eq_false h]
        rw [entV_eq] at h
        rw [Bool.eq_false_iff]
        intro h2
        simp only [Bool.and_eq_true, beq_iff_eq] at h2
        exact h ⟨h2.1, h2.2.1, h2.2.2⟩
    simp only [pstep, e1]
  rw [e]
  show (fV (βV (.bool _)) fun v => k v σ) = P
  rw [fV_eq]; exact h
theorem pqSame {O : Oz} (hO : O = zO) {P : FR} {k : KV} {σ : FH} {a : En} (h : k (.b false) σ = P) : O.pq (.eqF true [.str, .bool, .str]) [entV a, entV a] σ k = P := pqE hO (by rw [decide_eq_true rfl]; exact h)
theorem bxAc {O : Oz} (hO : O = zO) {P : FR} {k : KV} {n : Nat} {m : T FObj} {e : TypeId} {a : Ac} (hn : n < 1000000) (h : k (.p n 0) ⟨n + 1, mp m n (.cells (acV a) e .exact)⟩ = P) : O.bx e (.agg (acV a)) ⟨n, m⟩ k = P := by
  refine bxA hO hn ?_ h
  unfold acV
  rcases a with ⟨w | w, p, d, m⟩ <;> simp only [wV, αL, αV, AObj.of, allInt, βO, βL, βV, unp_pack]
theorem setM_new : ∀ {L : List En} {e : En}, e.path ∉ L.map En.path → setM En.path e L = L ++ [e]
  | [], e, _ => rfl
  | a :: L, e, h => by
    rw [List.map_cons, List.mem_cons, not_or] at h
    unfold setM
    rw [if_neg (fun hq => h.1 hq.symm), setM_new h.2]; rfl
theorem sort_nd {t : Tr} (hW : WfT t) : ((sortE t.L).map En.path).Nodup := ((sortE_perm t.L).map En.path).nodup_iff.2 hW.nd
theorem set_take {t : Tr} (hW : WfT t) {i : Nat} {e : En} (he : (sortE t.L)[i]? = some e) : setM En.path e ((sortE t.L).take i) = (sortE t.L).take (i + 1) := by
  rw [setM_new, List.take_add_one, he]; rfl
  intro hm
  obtain ⟨x, h1, h2⟩ := List.mem_map.1 hm
  obtain ⟨j, hj, h3⟩ := List.mem_take_iff_getElem.1 h1
  have hi := (List.getElem?_eq_some_iff.1 he)
  obtain ⟨hi1, hi2⟩ := hi
  have hn := sort_nd hW
  rw [List.Nodup, List.pairwise_iff_getElem] at hn
  exact hn j i (by rw [List.length_map]; omega) (by rw [List.length_map]; exact hi1) (by omega) (by rw [List.getElem_map, List.getElem_map, h3, hi2, h2])
theorem look_sort {t : Tr} (hW : WfT t) (p : Bs) : lookM En.path p (sortE t.L) = look t p := by
  unfold look
  cases h : lookM En.path p t.L with
  | some e =>
    have h1 := (sortE_perm t.L).mem_iff.2 (look_in h)
    have h2 := (look_sizes h).2
    have := look_mem (sort_nd hW) h1
    rwa [h2] at this
  | none =>
    cases h2 : lookM En.path p (sortE t.L) with
    | none => rfl
    | some e =>
      have h1 := (sortE_perm t.L).mem_iff.1 (look_in h2)
      have h3 := (look_sizes h2).2
      have := look_mem hW.nd h1
      rw [h3, h] at this; cases this
structure Chg (t t1 : Tr) (a : Bs) (kd : Nat) : Prop where
  wf : WfT t1
  cwd : t1.cwd = t.cwd
  kind : kindE t1 a = (kd, 0)
  keep : ∀ x ∈ t1.L, x.path ≠ a → look t x.path = some x
  m1 : kd ≠ 0 → ∀ e, look t a = some e → t1.L.length = t.L.length
  m2 : kd ≠ 0 → look t a = none → t1.L.length = t.L.length + 1
  m0 : kd = 0 → ∃ e, look t a = some e ∧ t1.L.length + 1 = t.L.length
theorem St.set {t : Tr} {x : En} {ms : List Bs} {m : Bs} (hg : ∀ y ∈ ms, Good y) (hm : Good m) (h : St t x.path (ms ++ [m])) (hk : kindG t x.path ≠ 1) : St { t with L := setM En.path x t.L } x.path (ms ++ [m]) := by
  refine ⟨h.g, h.e, fun j hj => ?_⟩
  have h1 := h.k j hj
  rw [kind_set (by rw [h.e]; exact dirP_long hm), if_neg, h1]
  intro hq
  rw [← hq] at h1
  exact hk h1
theorem chg_set {t : Tr} (hW : WfT t) {x : En} {ns : List Bs} (hs : St t x.path ns) (hx : x.path ≠ [47]) (hk : kindG t x.path ≠ 1) (hp : (putG t x).2 = 0) (hW1 : WfT { t with L := setM En.path x t.L }) : Chg t { t with L := setM En.path x t.L } x.path (if x.dir then 1 else 2) := by
  obtain ⟨ms, m, g1, g2, g3, g4, rfl⟩ := hs.last hx
  have h1 := (putG_ok hp).2.1
  have hs1 := hs.set g1 g2 hk
  have hl := setM_len x t.L
  refine ⟨hW1, rfl, ?_, fun y hy hne => ?_, fun _ e he => ?_, fun _ he => ?_, fun h0 => ?_⟩
  · unfold kindE
    rw [hs1.abs h1, if_neg (by simp)]
    show (kindG _ x.path, 0) = _
    rw [kind_set hx, if_pos rfl]
  · rcases setM_mem hy with rfl | hy
    · exact absurd rfl hne
    · exact look_mem hW.nd hy
  · have he : lookM En.path x.path t.L = some e := he
    rw [he] at hl; exact hl
  · have he : lookM En.path x.path t.L = none := he
    rw [he] at hl; exact hl
  · split at h0 <;> cases h0
theorem chg_write {t : Tr} (hW : WfT t) (hO : OkT t) {path data : Bs} {more : Bool} (h : (writeG t path data more).2 = 0) : (absG t path).2 = 0 ∧ Chg t (writeG t path data more).1 (absG t path).1 2 ∧ readG (writeG t path data more).1 (absG t path).1 = (if more then dataG t (absG t path).1 ++ data else data, 0) := by
  have hW1 := writeG_wf hW path data more
  obtain ⟨h1, h2, h3, h4⟩ := write_eq h
  obtain ⟨ns, hs⟩ := hO.abs h1
  have hx : (absG t path).1 ≠ [47] := fun he => h2 (by rw [he]; rfl)
  rw [h4] at hW1 ⊢
  have hc := chg_set (x := ⟨(absG t path).1, false, if more then dataG t (absG t path).1 ++ data else data⟩) hW hs hx h2 h3 hW1
  refine ⟨h1, hc, ?_⟩
  have ha := hc.kind
  have hk : kindG { t with L := setM En.path ⟨(absG t path).1, false, if more then dataG t (absG t path).1 ++ data else data⟩ t.L } (absG t path).1 = 2 := by rw [kind_set hx, if_pos rfl]; rfl
  obtain ⟨ms, m, g1, g2, g3, g4, rfl⟩ := hs.last hx
  have hab := (St.set (x := ⟨(absG t path).1, false, if more then dataG t (absG t path).1 ++ data else data⟩) g1 g2 hs h2).abs (putG_ok h3).2.1
  unfold readG
  rw [is_of hab hk, if_neg (by simp)]
  unfold dataG look
  rw [look_set, if_pos rfl]
theorem chg_make {t : Tr} (hW : WfT t) (hO : OkT t) {path : Bs} (h : (makeG t path).2 = 0) : (absG t path).2 = 0 ∧ Chg t (makeG t path).1 (absG t path).1 1 := by
  have hW1 := makeG_wf hW path
  obtain ⟨h1, h2, h3, h4⟩ := make_eq h
  obtain ⟨ns, hs⟩ := hO.abs h1
  have hx : (absG t path).1 ≠ [47] := fun he => by rw [he] at h2; cases h2
  rw [h4] at hW1 ⊢
  exact ⟨h1, chg_set (x := ⟨(absG t path).1, true, []⟩) hW hs hx (by show kindG t (absG t path).1 ≠ 1; omega) h3 hW1⟩
theorem chg_remove {t : Tr} (hW : WfT t) (hO : OkT t) {path : Bs} (h : (removeG t path).2 = 0) : (absG t path).2 = 0 ∧ Chg t (removeG t path).1 (absG t path).1 0 := by
  have hW1 := removeG_wf hW path
  obtain ⟨h1, h2, h3, h4, h5⟩ := remove_eq h
  obtain ⟨ns, hs⟩ := hO.abs h1
  have hx : (absG t path).1 ≠ [47] := fun he => h3 (.inl he)
  rw [h5] at hW1 ⊢
  obtain ⟨e, e1, e2, e3, e4⟩ := kind_some h2 hx
  have hlen : (absG t path).1.length ≤ 256 := by rw [← e3]; exact (hW.pl e e2).1
  obtain ⟨ms, m, g1, g2, g3, g4, rfl⟩ := hs.last hx
  have hs1 : St { t with L := delM En.path (absG t path).1 t.L } (absG t path).1 (ms ++ [m]) := ⟨hs.g, hs.e, fun j hj => by
    rw [kind_del hW.nd hx, if_neg, hs.k j hj]
    intro hq
    have h6 := dirP_inj (fun x hx => hs.g x (List.mem_of_mem_take hx)) hs.g (hq.trans hs.e)
    have := congrArg List.length h6
    rw [List.length_take] at this
    omega⟩
  refine ⟨h1, hW1, rfl, ?_, fun y hy hne => look_mem hW.nd ((delM_sub _ _).subset hy), fun h0 => absurd rfl h0, fun h0 => absurd rfl h0, fun _ => ⟨e, e1, ?_⟩⟩
  · unfold kindE
    rw [hs1.abs hlen, if_neg (by simp)]
    show (kindG _ (absG t path).1, 0) = _
    rw [kind_del hW.nd hx, if_pos rfl]
  · have := delM_eq En.path (absG t path).1 t.L
    rw [show lookM En.path (absG t path).1 t.L = some e from e1] at this
    have hp := posM_lt En.path (absG t path).1 (show lookM En.path (absG t path).1 t.L = some e from e1)
    show (delM En.path (absG t path).1 t.L).length + 1 = _
    rw [this]
    show (t.L.eraseIdx _).length + 1 = _
    rw [List.length_eraseIdx_of_lt hp]; omega
theorem chg_cd {t : Tr} (hW : WfT t) (hO : OkT t) {path : Bs} (h : (cdG t path).2 = 0) : (cdG t path).1.cwd = (absG t path).1 ∧ (cdG (cdG t path).1 t.cwd) = (t, 0) := by
  obtain ⟨h1, h2, h3⟩ := cd_eq h
  obtain ⟨ns, g1, g2, g3⟩ := hO.cw
  have hs : St t t.cwd ns := by rw [g2] at g3 ⊢; exact hO.st g1 (by rw [g3]; decide)
  have hs1 : St (cdG t path).1 t.cwd ns := ⟨hs.g, hs.e, fun j hj => by rw [h3]; exact hs.k j hj⟩
  refine ⟨by rw [h3], ?_⟩
  have hab := hs1.abs hW.c2
  have his : isG (cdG t path).1 t.cwd 1 = (t.cwd, 0) := is_of hab (by rw [h3]; exact g3)
  unfold cdG
  rw [show isG (if (isG t path 1).2 ≠ 0 then (t, (isG t path 1).2) else ({ t with cwd := (isG t path 1).1 }, 0)).1 t.cwd 1 = (t.cwd, 0) from his, if_neg (by simp)]
  show ({ (cdG t path).1 with cwd := t.cwd }, 0) = _
  rw [h3]
theorem mem_sort {t : Tr} {i : Nat} {e : En} (h : (sortE t.L)[i]? = some e) : e ∈ t.L := (sortE_perm t.L).mem_iff.1 (List.mem_of_getElem? h)
def oldE (t : Tr) (p : Bs) : En := (look t p).getD ⟨[], false, []⟩
theorem oldE_some {t : Tr} (hW : WfT t) {p : Bs} {e : En} (h : look t p = some e) : (oldE t p).path ≠ [] := by
  unfold oldE
  rw [h]
  intro h2
  have := hW.hd e (look_in h)
  rw [show (Option.getD (some e) (⟨[], false, []⟩ : En)).path = e.path from rfl] at h2
  rw [h2] at this; cases this
theorem oldE_none {t : Tr} {p : Bs} (h : look t p = none) : (oldE t p).path = [] := by unfold oldE; rw [h]; rfl
theorem oldE_data {t : Tr} {p : Bs} : (oldE t p).data = dataG t p := by
  unfold oldE dataG
  cases look t p <;> rfl
theorem dataG_8k {t : Tr} (hW : WfT t) {p : Bs} : (dataG t p).length ≤ 8192 := by
  unfold dataG
  cases h : look t p with
  | none => exact Nat.zero_le _
  | some e => exact (hW.pl e (look_in h)).2
theorem lkV {O : Oz} (hO : O = zO) {P : FR} {k : KV} {n b : Nat} {m : T FObj} {t : Tr} {p : Bs} (hW : WfT t) (ha : Am m b (.map ((sortE t.L).map fun a => (.s (pack (En.path a)), entV a)))) (h : k (.agg [.s (pack (oldE t p).path), .b (oldE t p).dir, .s (pack (oldE t p).data)]) ⟨n, m⟩ = P) : O.lk true [.str] false (.agg [.s (pack []), .b false, .s (pack [])]) (.m b) (.s (pack p)) ⟨n, m⟩ k = P := by
  refine lkS1 hO ha (fun a hla => ?_) (fun hla => ?_)
  · rw [look_sort hW] at hla
    unfold oldE at h
    rw [hla] at h; exact h
  · rw [look_sort hW] at hla
    unfold oldE at h
    rw [hla] at h; exact h
theorem Chg.grown {t t1 : Tr} {a : Bs} {kd : Nat} (h : Chg t t1 a kd) (hW : WfT t) (hk : kd ≠ 0) : ((oldE t a).path ≠ [] ∧ t1.L.length = t.L.length) ∨ ((oldE t a).path = [] ∧ t1.L.length = t.L.length + 1) := by
  cases hl : look t a with
  | none => exact .inr ⟨oldE_none hl, h.m2 hk hl⟩
  | some e => exact .inl ⟨oldE_some hW hl, h.m1 hk e hl⟩
end Go.Proofs.YtjoakhpdajlhiaaDoor.V2.S
namespace Go.Proofs.YtjoakhpdajlhiaaDoor.V2.S
open Go
set_option linter.unusedVariables false
noncomputable section
def p10 (O : Oz) : Phi → HF := fnQ (aLet fun v1 => (aEnd (cWr X2 (.o .sl) (cLet (oCallS 28 [(rdV v1)]) fun v2 => (cSeq (cCond (rdV v2) (cWr X2 (.o .sl) cRet) cSkip) (cLet (o1 ncF (rdV v1)) fun v3 => (cLet (o1 (O.fa 1) (rdV v3)) fun v4 => (cLet (m1 O.ld (rdV v4)) fun v5 => (cLet (o1 ncF (rdV v1)) fun v6 => (cLet (o1 (O.fa 0) (rdV v6)) fun v7 => (cLet (m1 O.ld (rdV v7)) fun v8 => (cLet (n0Z O.al (.cells [.o .sl] 33 .exact)) fun v9 => (cLet (oCallS 31 [(rdV v5)]) fun v10 => (cRz O.rc (m1 O.ld (rdV v7)) v8 (cLet (m1 O.ml (rdV v8)) fun v11 => (cLet (oCallS 32 [(rdV v11)]) fun v12 => (cLet (n2 (O.ap 5 false 1) (rdV v10) (rdV v12)) fun v13 => (cLet (n2 (O.st 1) (rdV v9) (rdV v13)) fun v14 => (cLet (nL (mfG (.func 9) 1) [(rdV v1)]) fun v15 => (cSeq (cBlk 0 (cSeq (cRf (rdV v15) [X22] (cLetW (n0Z O.al (.cells [.s (pack []), .b false, .s (pack [])] 32 .exact)) X4 fun v16 => (cDo (n2 (O.st 3) (rdV v16) R22) cSkip)) (cSeq (cBlk 1 (cWr X5 (.n .i64 2) (cLet (o1 (O.fa 1) R4) fun v17 => (cLet (m1 O.ld (rdV v17)) fun v18 => (cSeq (cCond (rdV v18) (cWr X5 (.n .i64 1) cSkip) cSkip) (cLet (m1 O.ld (rdV v9)) fun v19 => (cLet (oV R5) fun v20 => (cLet (o1 (O.cv .u8) (rdV v20)) fun v21 => (cLet (nL (O.bs 5 1 1) [(rdV v21)]) fun v22 => (cLet (o1 (O.fa 0) R4) fun v23 => (cLet (m1 O.ld (rdV v23)) fun v24 => (cLet (n2 (O.ap 5 false 1) (rdV v19) (rdV v22)) fun v25 => (cRz O.rc (m1 O.ld (rdV v23)) v24 (cLet (oCallS 31 [(rdV v24)]) fun v26 => (cLet (n2 (O.ap 5 false 1) (rdV v25) (rdV v26)) fun v27 => (cLet (n2 (O.st 1) (rdV v9) (rdV v27)) fun v28 => (cLet (o1 (O.fa 1) R4) fun v29 => (cLet (m1 O.ld (rdV v29)) fun v30 => (cLet (o1 notF (rdV v30)) fun v31 => (cSeq (cCond (rdV v31) (cLet (m1 O.ld (rdV v9)) fun v32 => (cLet (o1 (O.fa 2) R4) fun v33 => (cLet (m1 O.ld (rdV v33)) fun v34 => (cLet (oCallS 31 [(rdV v34)]) fun v35 => (cRz O.rc (m1 O.ld (rdV v9)) v32 (cLet (n2 (O.ap 5 false 1) (rdV v32) (rdV v35)) fun v36 => (cLet (n2 (O.st 1) (rdV v9) (rdV v36)) fun v37 => cSkip))))))) cSkip) cSkip)))))))))))))))))))) cSkip)) cSkip)) (cLet (m1 O.ld (rdV v9)) fun v38 => (cWr X2 v38 cRet)))))))))))))))))))) [vT R2]))
theorem k10 : QeOk ⟨10, eZ Tryd.f10, p10 zO⟩ := qz 43 1 [2, 4, 5, 22] Tryd.func10 (by kernel_rfl) (by kernel_rfl)
def p17 (O : Oz) : Phi → HF := fnQ (aLet fun v1 => (aLet fun v2 => (aEnd (cWr X4 (.b false) (cLet (o1 O.lv (rdV v1)) fun v3 => (cLet (o1 O.lv (rdV v2)) fun v4 => (cLet (o2 O.ne (rdV v3) (rdV v4)) fun v5 => (cSeq (cCond (rdV v5) (cWr X4 (.b false) cRet) cSkip) (cLet (o1 O.lv (rdV v1)) fun v6 => (cWr X13 (.n .i64 0) (cSeq (cBlk 0 (O.lp 1000000 (cLet (o2 O.lt R13 (rdV v6)) fun v7 => (cSeq (cCond (rdV v7) cSkip (cExit 0)) (cSeq (cBlk 1 (cLet (oV R13) fun v8 => (cLet (o2 (O.ix 1) (rdV v1) (rdV v8)) fun v9 => (cLet (m1 O.ld (rdV v9)) fun v10 => (cLet (o2 (O.ix 1) (rdV v2) (rdV v8)) fun v11 => (cLet (m1 O.ld (rdV v11)) fun v12 => (cLet (o2 O.ne (rdV v10) (rdV v12)) fun v13 => (cSeq (cCond (rdV v13) (cWr X4 (.b false) cRet) cSkip) cSkip)))))))) (cLet (o2 O.ad R13 (rdV (.n .i64 1))) fun v14 => (cWr X13 v14 cSkip))))))) (cWr X4 (.b true) cRet))))))))) [vT R4])))
theorem k17 : QeOk ⟨17, eZ Tryd.f17, p17 zO⟩ := qz 26 2 [4, 13] Tryd.func17 (by kernel_rfl) (by kernel_rfl)
def p31 (O : Oz) : Phi → HF := fnQ (aLet fun v1 => (aEnd (cWr X2 (.o .sl) (cLet (o1 O.ls (rdV v1)) fun v2 => (cLet (oCallS 32 [(rdV v2)]) fun v3 => (cLet (n2 (O.ap 5 true 1) (rdV v3) (rdV v1)) fun v4 => (cWr X2 v4 cRet))))) [vT R2]))
theorem k31 : QeOk ⟨31, eZ Tryd.f31, p31 zO⟩ := qz 8 1 [2] Tryd.func31 (by kernel_rfl) (by kernel_rfl)
def p32 (O : Oz) : Phi → HF := fnQ (aLet fun v1 => (aEnd (cWr X2 (.o .sl) (cLet (o2 O.hr (rdV v1) (rdV (.n .u64 8))) fun v2 => (cLet (o1 (O.cv .u8) (rdV v2)) fun v3 => (cLet (o1 (O.cv .u8) (rdV v1)) fun v4 => (cLet (nL (O.bs 5 1 2) [(rdV v3), (rdV v4)]) fun v5 => (cWr X2 v5 cRet)))))) [vT R2]))
theorem k32 : QeOk ⟨32, eZ Tryd.f32, p32 zO⟩ := qz 9 1 [2] Tryd.func32 (by kernel_rfl) (by kernel_rfl)
end
end Go.Proofs.YtjoakhpdajlhiaaDoor.V2.S
namespace Go.Proofs.YtjoakhpdajlhiaaDoor.V2.S
open Go
set_option maxRecDepth 100000
set_option maxHeartbeats 4000000
set_option linter.unusedVariables false
attribute [local irreducible] fN fO nM gM pM Phi.fn mp bl bpart bapp top1 pack
def TwoS (H : HF) : Prop := ∀ (a n : Nat) (m : T FObj), a ≤ 65535 → RetX 1 [] H [.n .i64 a] n m (fun v n' m' => ∃ b, v = .sl b 0 2 2 true 1 ∧ n ≤ b ∧ b < n' ∧ Am m' b (.bs (pack (twoB a)) 5 .exact))
theorem two_s {O : Oz} (hO : O = zO) (Φ : Phi) : TwoS (p32 O Φ) := fun a n m ha k P hn hf => by
  repeat' ((conv => lhs; whnf); first | ((with_reducible refine hr8 hO ?_)) | ((with_reducible refine cvW hO ?_)) | ((with_reducible refine bs2 hO (by omega) (by omega) (by omega) ?_)))
  all_goals (conv => lhs; whnf)
  all_goals first
    | exact hf _ _ _ (by omega) (by omega) (by repeat (first | assumption | exact Kq.refl _ _ _ | exact Kq.of (by assumption) _ | refine Kq.mp ?_ (by first | exact .inl (by omega) | exact .inr (by simp)) (by omega) | refine Kq.transP ?_ (by assumption) (by omega) | refine Kq.trans ?_ (by assumption) (by omega))) ⟨n, rfl, by omega, by omega, am_same (by omega)⟩
def ToldS (H : HF) : Prop := ∀ (s : Bs) (n : Nat) (m : T FObj), s.length ≤ 65535 → RetX 2 [] H [.s (pack s)] n m (fun v n' m' => ∃ b x tl, v = .sl b 0 (2 + s.length) (2 + s.length) x 1 ∧ n ≤ b ∧ b < n' ∧ Am m' b (.bs (pack (toldB s)) 5 tl) ∧ (s ≠ [] → x = false ∧ tl = .more))
theorem told_s {O : Oz} (hO : O = zO) (Φ : Phi) (H : TwoS (Phi.fn Φ 32)) : ToldS (p31 O Φ) := fun s n m hs k P hn hf => by
  by_cases h0 : s = []
  · subst h0
    repeat' ((conv => lhs; whnf); first | ((with_reducible refine atFn ?_); (refine H _ _ _ (by first | omega | decide) _ _ (by omega) (fun v2 n2 m2 h2 g2 k2 q2 => ?_); obtain ⟨b2, rfl, q3, q4, q5⟩ := q2; have k2p := Kq.kp k2)) | (((with_reducible refine lsS hO ?_); try simp only [List.length_cons, List.length_nil, Nat.zero_add])) | ((with_reducible refine atAp ?_); refine apS0 hO ?_))
    all_goals (conv => lhs; whnf)
    all_goals first
      | exact hf _ _ _ (by omega) (by omega) (by repeat (first | assumption | exact Kq.refl _ _ _ | exact Kq.of (by assumption) _ | refine Kq.mp ?_ (by first | exact .inl (by omega) | exact .inr (by simp)) (by omega) | refine Kq.transP ?_ (by assumption) (by omega) | refine Kq.trans ?_ (by assumption) (by omega))) ⟨b2, true, .exact, rfl, by omega, by omega, q5, fun h => absurd rfl h⟩
  · have hp := List.length_pos_iff.2 h0
    repeat' ((conv => lhs; whnf); first | ((with_reducible refine atFn ?_); (refine H _ _ _ (by omega) _ _ (by omega) (fun v2 n2 m2 h2 g2 k2 q2 => ?_); obtain ⟨b2, rfl, q3, q4, q5⟩ := q2; have k2p := Kq.kp k2)) | (((with_reducible refine lsS hO ?_); try simp only [List.length_cons, List.length_nil, Nat.zero_add])) | ((with_reducible refine atAp ?_); refine apXS hO q5 (by show 2 ≤ 2; omega) rfl hp (by omega) (by omega) ?_))
    all_goals (conv => lhs; whnf)
    all_goals first
      | exact hf _ _ _ (by omega) (by omega) (by repeat (first | assumption | exact Kq.refl _ _ _ | exact Kq.of (by assumption) _ | refine Kq.mp ?_ (by first | exact .inl (by omega) | exact .inr (by simp)) (by omega) | refine Kq.transP ?_ (by assumption) (by omega) | refine Kq.trans ?_ (by assumption) (by omega))) ⟨_, false, .more, rfl, by omega, by omega, am_same (by omega), fun _ => ⟨rfl, rfl⟩⟩
def EqBS (H : HF) : Prop := ∀ {a b : Bs} {b1 b2 K1 K2 n : Nat} {m : T FObj} {x1 x2 : Bool} {e1 e2 : TypeId} {t1 t2 : Tl}, Am m b1 (.bs (pack a) e1 t1) → Am m b2 (.bs (pack b) e2 t2) → a.length ≤ 900000 → b.length ≤ 900000 → Ret0 H [.sl b1 0 a.length K1 x1 1, .sl b2 0 b.length K2 x2 1] n m (.b (decide (a = b)))
theorem eqB_s {O : Oz} (hO : O = zO) (Φ : Phi) : EqBS (p17 O Φ) := fun {a b b1 b2 K1 K2 n m x1 x2 e1 e2 t1 t2} ha1 ha2 hl1 hl2 k P hf => by
  repeat' ((conv => lhs; whnf); first | ((with_reducible refine lvS hO ?_)) | ((with_reducible refine neB hO (fun h => ?_) (fun h => ?_))))
  all_goals (conv => lhs; whnf)
  all_goals first
    | (rw [decide_eq_false (fun e : a = b => by subst e; first | omega | (rename_i hne; exact hne rfl) | exact absurd rfl (by assumption))] at hf; exact hf)
    | (refine lpI hO (fun q e n' m' => ∃ i, i ≤ a.length ∧ q = a.length - i ∧ n' = n ∧ m' = m ∧ (∀ j, j < i → bt a j = bt b j) ∧ e = eof [(4, .b false), (13, .n .i64 i)]) ?_ ?_ _ a.length _ _ _ (by omega) ⟨0, by omega, by omega, rfl, rfl, fun j hj => absurd hj (Nat.not_lt_zero _), rfl⟩
       · rintro q e n' m' ⟨i, _, _, h, _⟩; omega
       · rintro q e n' m' ih ⟨i, hi, rfl, rfl, rfl, hj, rfl⟩ hih
         repeat' ((conv => lhs; whnf); first | ((with_reducible refine atLd ?_); first | refine ldB hO ha1 (by omega) ?_ | refine ldB hO ha2 (by omega) ?_) | ((with_reducible refine ltB hO (fun h => ?_) (fun h => ?_))) | ((with_reducible refine neB hO (fun h => ?_) (fun h => ?_))) | ((with_reducible refine adI hO (by omega) ?_)) | ((with_reducible refine ix01 hO (by omega) ?_)))
         all_goals (conv => lhs; whnf)
         all_goals first
           | exact hih (a.length - (i + 1)) _ _ _ (by omega) ⟨i + 1, by omega, rfl, rfl, rfl, fun j hj2 => by
               rcases Nat.lt_or_ge j i with h2 | h2
               · exact hj j h2
               · rw [show j = i by omega]; omega, rfl⟩
           | (rw [decide_eq_true (bt_ext (by omega) fun j hj2 => hj j (by omega))] at hf; exact hf)
           | (rw [decide_eq_false (fun e : a = b => by subst e; first | omega | (rename_i hne; exact hne rfl) | exact absurd rfl (by assumption))] at hf; exact hf))
def KindES (H : HF) : Prop := ∀ {tb mb : Nat} {t : Tr} {n : Nat} {m : T FObj}, TreeAt m tb mb 65 t → tb < n → mb < n → 1 ≤ t.cwd.length → t.cwd.length ≤ 256 → ∀ (path : Bs), path.length ≤ 900000 → Ret 601 H [.p tb 0, .s (pack path)] n m (.tup [.n .i64 (kindE t path).1, .n .i64 (kindE t path).2])
theorem kindE_s {O : Oz} (hO : O = zO) (Φ : Phi) (HA : AbsS (Phi.fn Φ 12)) (HK : KindS (Phi.fn Φ 35)) : KindES (p19 O Φ) := fun {tb mb t n m} hT htb hmb hc1 hc2 path hpl k P hn hf => by
  repeat' ((conv => lhs; whnf); first | ((with_reducible refine atFn ?_); first | refine HA (hT.kp (by repeat (first | assumption | exact Kp.refl _ _ | refine Kp.mp ?_ (by omega) (by omega) | refine Kp.trans ?_ (by assumption) (by omega))) htb hmb) (by omega) (by omega) hc1 hc2 _ hpl _ _ (by omega) (fun n2 m2 h2 g2 k2 => ?_) | refine HK (hT.kp (by repeat (first | assumption | exact Kp.refl _ _ | refine Kp.mp ?_ (by omega) (by omega) | refine Kp.trans ?_ (by assumption) (by omega))) htb hmb) (by omega) (by omega) _ _ _ (by omega) (fun n3 m3 h3 g3 k3 => ?_)) | ((with_reducible refine neB hO (fun h => ?_) (fun h => ?_))))
  all_goals (conv => lhs; whnf)
  all_goals first
    | (rw [show kindE t path = (0, (absG t path).2) by unfold kindE; rw [if_pos (by assumption)]] at hf; exact hf _ _ (by omega) (by omega) (by repeat (first | assumption | exact Kp.refl _ _ | refine Kp.mp ?_ (by omega) (by omega) | refine Kp.trans ?_ (by assumption) (by omega))))
    | (rw [show kindE t path = (kindG t (absG t path).1, 0) by unfold kindE; rw [if_neg (by simp [*])]] at hf; exact hf _ _ (by omega) (by omega) (by repeat (first | assumption | exact Kp.refl _ _ | refine Kp.mp ?_ (by omega) (by omega) | refine Kp.trans ?_ (by assumption) (by omega))))
end Go.Proofs.YtjoakhpdajlhiaaDoor.V2.S
