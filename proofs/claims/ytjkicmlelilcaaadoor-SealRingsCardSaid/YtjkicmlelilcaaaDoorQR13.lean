/- Part 13 of the proof: texts of the proof. -/
import Derived.Test.YtjkicmlelilcaaaDoorQR12
namespace Go.Proofs.YtjkicmlelilcaaaDoor.V2
open Go
open Go.RowKit
section
variable {A : Ar} {Γ : Gam} {G nt N : Nat} {K : AK} {env vals : T AV} {σ σ' σ'' : AH} {all l : List (Nat × CRow)} {rc : Nat → List Nat} {Q : T AV → AH → Prop}
def EvG (A : Ar) (Γ : Gam) (env : T AV) (all : List (Nat × CRow)) (rc : Nat → List Nat) (l : List (Nat × CRow)) (vals : T AV) (σ : AH) (Q : T AV → AH → Prop) : Prop := ∃ r : T AV × AH, evD A Γ env all rc l vals σ = (true, r) ∧ Q r.1 r.2
theorem evg_nil (h : Q vals σ) : EvG A Γ env all rc [] vals σ Q := ⟨(vals, σ), rfl, h⟩
theorem evg_cons {p : Nat × CRow} {v : AV} (h : gstep A Γ (evR env vals) σ p.2 = (true, v, σ')) (hr : rechk A Γ env all (vals.put p.1 v) σ' (rc p.1) = true) (h2 : EvG A Γ env all rc l (vals.put p.1 v) σ' Q) : EvG A Γ env all rc (p :: l) vals σ Q := by
  obtain ⟨r, e, q⟩ := h2
  exact ⟨r, evD_step h hr e, q⟩
theorem avc_evg {st : List (Nat × CRow)} {rcs : List (Nat × List Nat)} {ds : List (Option Nat)} {b : ACode} (h : EvG A Γ env st (rcGet rcs) st .leaf σ fun vals σ' => avc A Γ G nt N b K (putAll vals ds 0 env) σ') : avc A Γ G nt N (.seq (.regd st rcs ds) b) K env σ := by
  obtain ⟨r, e, q⟩ := h
  exact avc_seq_evD e q
theorem rechk_cons {k : Nat} {ks : List Nat} {q : Nat × CRow} {v : AV} (hf : all.find? (fun p => Nat.beq p.1 k) = some q) (hg : gstep A Γ (evR env vals) σ q.2 = (true, v, σ'')) (hv : valD vals k = v) (hs : same A v v = true) (h : rechk A Γ env all vals σ ks = true) : rechk A Γ env all vals σ (k :: ks) = true := by
  unfold rechk
  rw [hf]
  simp only [hg, hv, hs, h]; rfl
def AV.numb : AV → Bool
  | .int _ _ | .ints _ _ => true
  | _ => false
theorem same_refl {v : AV} (h : v.numb = true) : same std v v = true := by
  cases v <;> simp only [AV.numb, Bool.false_eq_true] at h <;> simp [same, std]
end
theorem g_loadAll {Γ : Gam} {σ : AH} {ev : Ref → AV} {d : Option Nat} {n : Nat} {x : Ref} {b : Nat} {k : IntKind} {l : List Int} {e : TypeId} {t : Tl} (hx : ev x = .ptr b 0) (hg : σ.get b = some (.ints k l e t)) (hl : l.length = n) : gstep std Γ ev σ ⟨.aop (.loadN n x), d, none⟩ = (true, .ints k l, σ) := by
  subst hl
  have h1 : std.leN (std.addN 0 l.length) (std.len l) = true := le_std (by show 0 + l.length ≤ l.length; omega)
  have h2 : std.part l 0 l.length = l := by show (l.drop 0).take l.length = l; simp
  exact g_loadN hx hg h1 (by show AV.ints k (std.part l 0 l.length) = _; rw [h2])
structure IsN (N : Nat) (σ : AH) (v : AV) (l : List AV) (ps : List (List UInt8)) : Prop where
  c : IsC N σ v l
  n : l.length = ps.length
  e : ∀ j, j < ps.length → ∃ b, l[j]? = some (.sl b 0 (atP ps j).length (atP ps j).length true 1) ∧ b < σ.next ∧ σ.get b = some (.ints .u8 (bI (atP ps j)) 5 .exact)
theorem IsN.isP {N : Nat} {σ : AH} {v : AV} {l : List AV} {ps : List (List UInt8)} (h : IsN N σ v l ps) : IsP σ v ps := h.c.isP h.n fun j hj => by
  obtain ⟨b, hl, hb, hg⟩ := h.e j hj
  exact ⟨_, hl, .sl _ 0 _ _ true _ _ 5 .exact hb hg (by rw [bI_length]; omega) (Nat.le_refl _) (by rw [List.drop_zero]; exact (List.take_of_length_le (by rw [bI_length]; omega)).symm)⟩
theorem IsN.num {N : Nat} {σ : AH} {v : AV} {l : List AV} {ps : List (List UInt8)} (h : IsN N σ v l ps) (n m : Nat) (hs : σ.next < 999990) (hN : N ≤ σ.next) (hl : l.length ≤ 1000) :
    ∃ σ', xstep std ((σ.new (.ints .u8 (bI (numL n m)) 5 .exact)).new (.cells [.sl σ.next 0 m m true 1] 22 .exact)) (.append 22 false 1) [v, .sl (σ.next + 1) 0 1 1 true 1] = (true, .sl (σ.next + 2) 0 (l.length + 1) (l.length + 1) false 1, σ') ∧ IsN N σ' (.sl (σ.next + 2) 0 (l.length + 1) (l.length + 1) false 1) (l ++ [.sl σ.next 0 m m true 1]) (ps ++ [numL n m]) ∧ (∀ b, b < N → σ'.get b = σ.get b) ∧ σ'.next = σ.next + 3 := by
  have ga : Grown σ (σ.new (.ints .u8 (bI (numL n m)) 5 .exact)) := Grown.new (by omega)
  have hga : (σ.new (.ints .u8 (bI (numL n m)) 5 .exact)).get σ.next = some (.ints .u8 (bI (numL n m)) 5 .exact) := get_new (by omega)
  have hxa : (σ.new (.ints .u8 (bI (numL n m)) 5 .exact)).next = σ.next + 1 := rfl
  generalize σ.new (.ints .u8 (bI (numL n m)) 5 .exact) = σa at ga hga hxa ⊢
  have gb : Grown σa (σa.new (.cells [.sl σ.next 0 m m true 1] 22 .exact)) := Grown.new (by omega)
  have hgb : (σa.new (.cells [.sl σ.next 0 m m true 1] 22 .exact)).get σa.next = some (.cells [.sl σ.next 0 m m true 1] 22 .exact) := get_new (by omega)
  have hxb : (σa.new (.cells [.sl σ.next 0 m m true 1] 22 .exact)).next = σa.next + 1 := rfl
  generalize σa.new (.cells [.sl σ.next 0 m m true 1] 22 .exact) = σb at gb hgb hxb ⊢
  obtain ⟨σc, x, hC, kp, nx, kr⟩ := (h.c.mono (ga.trans gb)).app' (d := σa.next) (by omega) (by omega) rfl hgb (by omega)
  rw [show σb.next = σ.next + 2 by omega] at x hC
  rw [show σa.next = σ.next + 1 by omega] at x
  have kk : ∀ b p, b < σ.next + 1 → σb.get b = some (.ints .u8 p 5 .exact) → σc.get b = some (.ints .u8 p 5 .exact) := fun b p hb hg => by
    rw [kr b (by omega), hg]
    rintro o' n' c' e' z' rfl
    cases h.c with
    | sl b c ex l tl hN' hb' hg' _ _ _ _ => rw [gb.get _ (by omega), ga.get _ (by omega), hg'] at hg; cases hg
  refine ⟨σc, x, ⟨hC, by rw [List.length_append, List.length_append, h.n]; rfl, fun j hj => ?_⟩, fun b hb => by rw [kp b hb, gb.get b (by omega), ga.get b (by omega)], by omega⟩
  rw [List.length_append, List.length_singleton] at hj
  by_cases h1 : j < ps.length
  · obtain ⟨b, e1, e2, e3⟩ := h.e j h1
    have hp : atP (ps ++ [numL n m]) j = atP ps j := by unfold atP; rw [List.getD_eq_getElem?_getD, List.getD_eq_getElem?_getD, List.getElem?_append_left h1]
    rw [hp]
    exact ⟨b, by rw [List.getElem?_append_left (by rw [h.n]; exact h1)]; exact e1, by omega, kk b _ (by omega) (by rw [gb.get _ (by omega), ga.get _ e2]; exact e3)⟩
  · have : j = ps.length := by omega
    subst this
    have hp : atP (ps ++ [numL n m]) ps.length = numL n m := by unfold atP; rw [List.getD_eq_getElem?_getD, List.getElem?_append_right (Nat.le_refl _), Nat.sub_self]; rfl
    rw [hp, numL_length]
    exact ⟨σ.next, by rw [← h.n, List.getElem?_append_right (Nat.le_refl _), Nat.sub_self]; rfl, by omega, kk _ _ (by omega) (by rw [gb.get _ (by omega)]; exact hga)⟩
theorem z32_eq : Z32 = bI zer32 := by decide
theorem numL1 (n : Nat) : numL n 1 = [UInt8.ofNat n] := by simp [numL]
def c41 : ACode := (.seq (.reg [⟨(.aop (.alloc 23 [(.int .u8 (0)), (.int .u8 (0)), (.int .u8 (0)), (.int .u8 (0)), (.int .u8 (0)), (.int .u8 (0)), (.int .u8 (0)), (.int .u8 (0)), (.int .u8 (0)), (.int .u8 (0)), (.int .u8 (0)), (.int .u8 (0)), (.int .u8 (0)), (.int .u8 (0)), (.int .u8 (0)), (.int .u8 (0)), (.int .u8 (0)), (.int .u8 (0)), (.int .u8 (0)), (.int .u8 (0)), (.int .u8 (0)), (.int .u8 (0)), (.int .u8 (0)), (.int .u8 (0)), (.int .u8 (0)), (.int .u8 (0)), (.int .u8 (0)), (.int .u8 (0)), (.int .u8 (0)), (.int .u8 (0)), (.int .u8 (0)), (.int .u8 (0))])), (some 12), none⟩]) (.seq (.seq (.reg [⟨(.aop (.mov (.slot 1))), (some 16), none⟩, ⟨(.aop (.bin .lss (.slot 16) (.lit (.int .i64 (0))))), (some 17), none⟩, ⟨(.aop (.mov (.slot 17))), (some 18), none⟩, ⟨(.aop (.mov (.slot 1))), (some 19), (some ((.slot 18), false))⟩, ⟨(.aop (.bin .gtr (.slot 19) (.lit (.int .i64 (1))))), (some 20), (some ((.slot 18), false))⟩, ⟨(.aop (.pick (.slot 18) (.lit (.bool true)) (.slot 20))), (some 21), none⟩]) (.cond (.slot 21) (.seq (.reg [⟨(.aop (.pur (.build [(.int .u8 (0)), (.int .u8 (0)), (.int .u8 (0)), (.int .u8 (0)), (.int .u8 (0)), (.int .u8 (0)), (.int .u8 (0)), (.int .u8 (0)), (.int .u8 (0)), (.int .u8 (0)), (.int .u8 (0)), (.int .u8 (0)), (.int .u8 (0)), (.int .u8 (0)), (.int .u8 (0)), (.int .u8 (0)), (.int .u8 (0)), (.int .u8 (0)), (.int .u8 (0)), (.int .u8 (0)), (.int .u8 (0)), (.int .u8 (0)), (.int .u8 (0)), (.int .u8 (0)), (.int .u8 (0)), (.int .u8 (0)), (.int .u8 (0)), (.int .u8 (0)), (.int .u8 (0)), (.int .u8 (0)), (.int .u8 (0)), (.int .u8 (0))] []) [])), (some 22), none⟩, ⟨(.aop (.store 32 (.slot 12) (.slot 22))), none, none⟩]) .ret) .skip)) (.seq (.reg [⟨(.aop (.mov (.lit .nilsl))), (some 13), none⟩]) (.seq (.reg [⟨(.aop (.mov (.slot 13))), (some 23), none⟩, ⟨(.aop (.mov (.slot 1))), (some 24), none⟩, ⟨(.aop (.conv .u64 (.slot 24))), (some 25), none⟩, ⟨(.call (.lit (.fn (.func 61) [] [])) [(.slot 25), (.lit (.int .i64 (1)))]), (some 26), none⟩, ⟨(.aop (.mk (.bslice 22 1 1) [(.slot 26)])), (some 27), none⟩, ⟨(.aop (.ext (.append 22 false 1) [(.slot 23), (.slot 27)])), (some 28), none⟩, ⟨(.aop (.mov (.slot 28))), (some 13), none⟩]) (.seq (.reg [⟨(.aop (.mov (.slot 13))), (some 29), none⟩, ⟨(.aop (.mov (.slot 2))), (some 30), none⟩, ⟨(.aop (.conv .u64 (.slot 30))), (some 31), none⟩, ⟨(.call (.lit (.fn (.func 61) [] [])) [(.slot 31), (.lit (.int .i64 (4)))]), (some 32), none⟩, ⟨(.aop (.mk (.bslice 22 1 1) [(.slot 32)])), (some 33), none⟩, ⟨(.aop (.ext (.append 22 false 1) [(.slot 29), (.slot 33)])), (some 34), none⟩, ⟨(.aop (.mov (.slot 34))), (some 13), none⟩]) (.seq (.reg [⟨(.aop (.mov (.slot 13))), (some 35), none⟩, ⟨(.aop (.mov (.slot 3))), (some 36), none⟩, ⟨(.aop (.conv .u64 (.slot 36))), (some 37), none⟩, ⟨(.call (.lit (.fn (.func 61) [] [])) [(.slot 37), (.lit (.int .i64 (4)))]), (some 38), none⟩, ⟨(.aop (.mk (.bslice 22 1 1) [(.slot 38)])), (some 39), none⟩, ⟨(.aop (.ext (.append 22 false 1) [(.slot 35), (.slot 39)])), (some 40), none⟩, ⟨(.aop (.mov (.slot 40))), (some 13), none⟩]) (.seq (.reg [⟨(.aop (.mov (.slot 13))), (some 41), none⟩, ⟨(.aop (.mov (.slot 4))), (some 42), none⟩, ⟨(.call (.lit (.fn (.func 61) [] [])) [(.slot 42), (.lit (.int .i64 (8)))]), (some 43), none⟩, ⟨(.aop (.mk (.bslice 22 1 1) [(.slot 43)])), (some 44), none⟩, ⟨(.aop (.ext (.append 22 false 1) [(.slot 41), (.slot 44)])), (some 45), none⟩, ⟨(.aop (.mov (.slot 45))), (some 13), none⟩]) (.seq (.reg [⟨(.aop (.mov (.slot 13))), (some 46), none⟩, ⟨(.aop (.mov (.slot 5))), (some 47), none⟩, ⟨(.call (.lit (.fn (.func 61) [] [])) [(.slot 47), (.lit (.int .i64 (8)))]), (some 48), none⟩, ⟨(.aop (.mk (.bslice 22 1 1) [(.slot 48)])), (some 49), none⟩, ⟨(.aop (.ext (.append 22 false 1) [(.slot 46), (.slot 49)])), (some 50), none⟩, ⟨(.aop (.mov (.slot 50))), (some 13), none⟩]) (.seq (.reg [⟨(.aop (.mov (.slot 0))), (some 52), none⟩, ⟨(.aop (.mov (.slot 13))), (some 53), none⟩, ⟨(.call (.lit (.fn (.func 24) [] [])) [(.slot 52), (.lit (.str [119, 97, 121])), (.slot 53)]), (some 54), none⟩, ⟨(.aop (.mov (.slot 54))), (some 51), none⟩, ⟨(.aop (.extract (.slot 51) 0)), (some 55), none⟩, ⟨(.aop (.extract (.slot 51) 1)), (some 56), none⟩, ⟨(.aop (.alloc 23 [(.int .u8 (0)), (.int .u8 (0)), (.int .u8 (0)), (.int .u8 (0)), (.int .u8 (0)), (.int .u8 (0)), (.int .u8 (0)), (.int .u8 (0)), (.int .u8 (0)), (.int .u8 (0)), (.int .u8 (0)), (.int .u8 (0)), (.int .u8 (0)), (.int .u8 (0)), (.int .u8 (0)), (.int .u8 (0)), (.int .u8 (0)), (.int .u8 (0)), (.int .u8 (0)), (.int .u8 (0)), (.int .u8 (0)), (.int .u8 (0)), (.int .u8 (0)), (.int .u8 (0)), (.int .u8 (0)), (.int .u8 (0)), (.int .u8 (0)), (.int .u8 (0)), (.int .u8 (0)), (.int .u8 (0)), (.int .u8 (0)), (.int .u8 (0))])), (some 14), none⟩, ⟨(.aop (.store 32 (.slot 14) (.slot 55))), none, none⟩, ⟨(.aop (.mov (.slot 56))), (some 15), none⟩]) (.seq (.reg [⟨(.aop (.loadN 32 (.slot 14))), (some 57), none⟩, ⟨(.aop (.store 32 (.slot 12) (.slot 57))), none, none⟩]) .ret))))))))))
theorem comp41 : (V2.compC Tryd.prog 4 Tryd.f41.ntmps (fun _ => false) (Tryd.f41.body.getD .skip), V2.compR Tryd.prog Tryd.f41.results.toList) = (some c41, some [(.cellN 12 32)]) := by kernel_rfl
theorem body41 : Tryd.f41.body = some (Tryd.f41.body.getD .skip) := by kernel_rfl
theorem cc41 : V2.compC Tryd.prog 4 Tryd.f41.ntmps (fun _ => false) (Tryd.f41.body.getD .skip) = some c41 := (Prod.mk.inj comp41).1
theorem cr41 : V2.compR Tryd.prog Tryd.f41.results.toList = some [(.cellN 12 32)] := (Prod.mk.inj comp41).2
def S41 (args : List AV) (σ : AH) (v : AV) : Prop := ∃ (way : Int) (s p c q : Nat) (k : AV) (key : List UInt8), args = [k, .int .i64 way, .int .u32 s, .int .u32 p, .int .u64 c, .int .u64 q] ∧ s < 4294967296 ∧ p < 4294967296 ∧ c < 18446744073709551616 ∧ q < 18446744073709551616 ∧ IsB σ k (bI key) ∧ mayB key = true ∧ Tabs σ ∧ σ.next ≤ 950000 ∧ v = wayV key way s p c q
set_option maxHeartbeats 1000000 in
theorem walk41 {Γ : Gam} (h61 : Has61 Γ) (h24 : Has24 Γ) {σ : AH} {way : Int} {s p c q : Nat} {k : AV} {key : List UInt8} (hs : s < 4294967296) (hp : p < 4294967296) (hc : c < 18446744073709551616) (hq : q < 18446744073709551616) (hk : IsB σ k (bI key)) (hmay : mayB key = true) (hT : Tabs σ) (hsz : σ.next ≤ 950000)
    {K : AV → AH → Prop} (hK : ∀ σ', Grown σ σ' → K (wayV key way s p c q) σ') :
    avc std Γ 4 58 σ.next c41 (fun e env σ' => (match e with | .normal => True | .ret => True | _ => False) ∧ (resL std env σ' [.cellN 12 32]).1 = true ∧ K (retV (resL std env σ' [.cellN 12 32]).2) σ') (envOf [k, .int .i64 way, .int .u32 s, .int .u32 p, .int .u64 c, .int .u64 q] 0 .leaf) σ := by
  have hT' := hT.n
  have hkl := mayB_iff.1 hmay
  unfold c41
  refine avc_reg_cons (g_alloc (o := .ints .u8 Z32 23 .exact) (by kernel_rfl) (by omega)) ?_
  dsimp only
  have gr1 : Grown σ (σ.new (.ints .u8 Z32 23 .exact)) := Grown.new (by omega)
  have hg1 : (σ.new (.ints .u8 Z32 23 .exact)).get σ.next = some (.ints .u8 Z32 23 .exact) := get_new (by omega)
  have hx1 : (σ.new (.ints .u8 Z32 23 .exact)).next = σ.next + 1 := rfl
  generalize σ.new (.ints .u8 Z32 23 .exact) = σ1 at gr1 hg1 hx1 ⊢
  refine avc_reg_nil ?_
  refine avc_seq_seq ?_
  by_cases h0 : way < 0
  · skip
    refine mv (v := .int .i64 way) (by kernel_rfl) ?_
    refine avc_reg_cons (g_bin (op := .lss) (k := .i64) (k' := .i64) (a := way) (b := 0) (v := .bool true) (by kernel_rfl) (by kernel_rfl) rfl (b_lt h0)) ?_
    refine mv (v := .bool true) (by kernel_rfl) ?_
    refine avc_reg_cons (g_skip (by kernel_rfl)) ?_
    refine avc_reg_cons (g_skip (by kernel_rfl)) ?_
    refine avc_reg_cons (g_pick (v := .bool true) (by kernel_rfl) (by kernel_rfl)) ?_
    refine avc_reg_nil ?_
    refine avc_seq_cond (t := true) (by kernel_rfl) (fun _ => avc_seq_seq ?_) (fun h => by cases h)
    refine avc_reg_cons (g_pur (vs := []) (v := .ints .u8 Z32) (by kernel_rfl) (by kernel_rfl)) ?_
    refine avc_reg_cons (g_storeAll (b := σ.next) (m := Z32) (by kernel_rfl) (by kernel_rfl) hg1 rfl rfl) ?_
    dsimp only
    have gr3 : Grown σ (σ1.put σ.next (.ints .u8 Z32 23 .exact)) := gr1.put (by omega) (by omega)
    have hg3 : (σ1.put σ.next (.ints .u8 Z32 23 .exact)).get σ.next = some (.ints .u8 Z32 23 .exact) := by rw [get_put (by omega), if_pos rfl]
    generalize σ1.put σ.next (.ints .u8 Z32 23 .exact) = σ3 at gr3 hg3 ⊢
    refine avc_reg_nil ?_
    have hfin := hK σ3 gr3
    have hw : (decide (0 ≤ way) && decide (way ≤ 1)) = false := by rw [Bool.and_eq_false_iff, decide_eq_false_iff_not, decide_eq_false_iff_not]; omega
    rw [wayV, hw, cond_false, ← z32_eq] at hfin
    refine avc_seq_ret (fin_ok (vs := [.ints .u8 Z32]) (resL1 (resV_cell (b := σ.next) (by kernel_rfl) hg3 rfl)) hfin)
  by_cases h1 : 1 < way
  · skip
    refine mv (v := .int .i64 way) (by kernel_rfl) ?_
    refine avc_reg_cons (g_bin (op := .lss) (k := .i64) (k' := .i64) (a := way) (b := 0) (v := .bool false) (by kernel_rfl) (by kernel_rfl) rfl (b_lt' h0)) ?_
    refine mv (v := .bool false) (by kernel_rfl) ?_
    refine avc_reg_cons (g_if (by kernel_rfl) (g_mov (v := .int .i64 way) (by kernel_rfl))) ?_
    refine avc_reg_cons (g_if (by kernel_rfl) (g_bin (op := .gtr) (k := .i64) (k' := .i64) (a := way) (b := 1) (v := .bool true) (by kernel_rfl) (by kernel_rfl) rfl (b_gt h1))) ?_
    refine avc_reg_cons (g_pickf (v := .bool true) (by kernel_rfl) (by kernel_rfl)) ?_
    refine avc_reg_nil ?_
    refine avc_seq_cond (t := true) (by kernel_rfl) (fun _ => avc_seq_seq ?_) (fun h => by cases h)
    refine avc_reg_cons (g_pur (vs := []) (v := .ints .u8 Z32) (by kernel_rfl) (by kernel_rfl)) ?_
    refine avc_reg_cons (g_storeAll (b := σ.next) (m := Z32) (by kernel_rfl) (by kernel_rfl) hg1 rfl rfl) ?_
    dsimp only
    have gr3 : Grown σ (σ1.put σ.next (.ints .u8 Z32 23 .exact)) := gr1.put (by omega) (by omega)
    have hg3 : (σ1.put σ.next (.ints .u8 Z32 23 .exact)).get σ.next = some (.ints .u8 Z32 23 .exact) := by rw [get_put (by omega), if_pos rfl]
    generalize σ1.put σ.next (.ints .u8 Z32 23 .exact) = σ3 at gr3 hg3 ⊢
    refine avc_reg_nil ?_
    have hfin := hK σ3 gr3
    have hw : (decide (0 ≤ way) && decide (way ≤ 1)) = false := by rw [Bool.and_eq_false_iff, decide_eq_false_iff_not, decide_eq_false_iff_not]; omega
    rw [wayV, hw, cond_false, ← z32_eq] at hfin
    refine avc_seq_ret (fin_ok (vs := [.ints .u8 Z32]) (resL1 (resV_cell (b := σ.next) (by kernel_rfl) hg3 rfl)) hfin)
  obtain ⟨w, rfl⟩ : ∃ w : Nat, way = w := ⟨way.toNat, by omega⟩
  have hw1 : w ≤ 1 := by omega
  refine mv (v := .int .i64 (w : Nat)) (by kernel_rfl) ?_
  refine avc_reg_cons (g_bin (op := .lss) (k := .i64) (k' := .i64) (a := (w : Nat)) (b := 0) (v := .bool false) (by kernel_rfl) (by kernel_rfl) rfl (b_lt' h0)) ?_
  refine mv (v := .bool false) (by kernel_rfl) ?_
  refine avc_reg_cons (g_if (by kernel_rfl) (g_mov (v := .int .i64 (w : Nat)) (by kernel_rfl))) ?_
  refine avc_reg_cons (g_if (by kernel_rfl) (g_bin (op := .gtr) (k := .i64) (k' := .i64) (a := (w : Nat)) (b := 1) (v := .bool false) (by kernel_rfl) (by kernel_rfl) rfl (b_gt' h1))) ?_
  refine avc_reg_cons (g_pickf (v := .bool false) (by kernel_rfl) (by kernel_rfl)) ?_
  refine avc_reg_nil ?_
  refine avc_seq_cond (t := false) (by kernel_rfl) (fun h => by cases h) (fun _ => avc_seq_skip ?_)
  refine mv (v := .nilsl) (by kernel_rfl) ?_
  refine avc_reg_nil ?_
  have hC0 : IsN (σ.next + 1) σ1 .nilsl [] [] := ⟨.nil, rfl, fun j hj => absurd hj (Nat.not_lt_zero j)⟩
  have hz0 : σ1.get σ.next = some (.ints .u8 Z32 23 .exact) := hg1
  have gs0 := gr1
  have hm0 : σ1.next = σ.next + 1 := hx1
  obtain ⟨σc1, x1, hC1, kp1, hm1⟩ := hC0.num w 1 (by omega) (by omega) (by show 0 ≤ 1000; omega)
  have gs1 : Grown σ σc1 := ⟨by omega, fun b hb => by rw [kp1 b (by omega)]; exact gs0.get b hb⟩
  have hz1 : σc1.get σ.next = some (.ints .u8 Z32 23 .exact) := by rw [kp1 _ (by omega)]; exact hz0
  refine mv (v := .nilsl) (by kernel_rfl) ?_
  refine mv (v := .int .i64 (w : Nat)) (by kernel_rfl) ?_
  refine avc_reg_cons (g_conv (k := .u64) (k' := .i64) (n := (w : Nat)) (m := (w : Nat)) (by kernel_rfl) (wr_u64 (by omega))) ?_
  refine avc_reg_cons (g_call (n := 61) (vs := [.int .u64 (w : Nat), .int .i64 1]) (by kernel_rfl) (by kernel_rfl) (h61 w 1 σ1 (by omega) (by omega) (by omega))) ?_
  refine avc_reg_cons (g_mk (vs := [.sl σ1.next 0 1 1 true 1]) (by kernel_rfl) rfl (by show σ1.next + 1 < _; omega)) ?_
  refine avc_reg_cons (g_ext (vs := [.nilsl, .sl (σ1.next + 1) 0 1 1 true 1]) (by kernel_rfl) x1) ?_
  refine mv (v := .sl (σ1.next + 2) 0 1 1 false 1) (by kernel_rfl) ?_
  refine avc_reg_nil ?_
  obtain ⟨σc2, x2, hC2, kp2, hm2⟩ := hC1.num s 4 (by omega) (by omega) (by show 1 ≤ 1000; omega)
  have gs2 : Grown σ σc2 := ⟨by omega, fun b hb => by rw [kp2 b (by omega)]; exact gs1.get b hb⟩
  have hz2 : σc2.get σ.next = some (.ints .u8 Z32 23 .exact) := by rw [kp2 _ (by omega)]; exact hz1
  refine mv (v := .sl (σ1.next + 2) 0 1 1 false 1) (by kernel_rfl) ?_
  refine mv (v := .int .u32 (s : Nat)) (by kernel_rfl) ?_
  refine avc_reg_cons (g_conv (k := .u64) (k' := .u32) (n := (s : Nat)) (m := (s : Nat)) (by kernel_rfl) (wr_u64 (by omega))) ?_
  refine avc_reg_cons (g_call (n := 61) (vs := [.int .u64 (s : Nat), .int .i64 4]) (by kernel_rfl) (by kernel_rfl) (h61 s 4 σc1 (by omega) (by omega) (by omega))) ?_
  refine avc_reg_cons (g_mk (vs := [.sl σc1.next 0 4 4 true 1]) (by kernel_rfl) rfl (by show σc1.next + 1 < _; omega)) ?_
  refine avc_reg_cons (g_ext (vs := [.sl (σ1.next + 2) 0 1 1 false 1, .sl (σc1.next + 1) 0 1 1 true 1]) (by kernel_rfl) x2) ?_
  refine mv (v := .sl (σc1.next + 2) 0 2 2 false 1) (by kernel_rfl) ?_
  refine avc_reg_nil ?_
  obtain ⟨σc3, x3, hC3, kp3, hm3⟩ := hC2.num p 4 (by omega) (by omega) (by show 2 ≤ 1000; omega)
  have gs3 : Grown σ σc3 := ⟨by omega, fun b hb => by rw [kp3 b (by omega)]; exact gs2.get b hb⟩
  have hz3 : σc3.get σ.next = some (.ints .u8 Z32 23 .exact) := by rw [kp3 _ (by omega)]; exact hz2
  refine mv (v := .sl (σc1.next + 2) 0 2 2 false 1) (by kernel_rfl) ?_
  refine mv (v := .int .u32 (p : Nat)) (by kernel_rfl) ?_
  refine avc_reg_cons (g_conv (k := .u64) (k' := .u32) (n := (p : Nat)) (m := (p : Nat)) (by kernel_rfl) (wr_u64 (by omega))) ?_
  refine avc_reg_cons (g_call (n := 61) (vs := [.int .u64 (p : Nat), .int .i64 4]) (by kernel_rfl) (by kernel_rfl) (h61 p 4 σc2 (by omega) (by omega) (by omega))) ?_
  refine avc_reg_cons (g_mk (vs := [.sl σc2.next 0 4 4 true 1]) (by kernel_rfl) rfl (by show σc2.next + 1 < _; omega)) ?_
  refine avc_reg_cons (g_ext (vs := [.sl (σc1.next + 2) 0 2 2 false 1, .sl (σc2.next + 1) 0 1 1 true 1]) (by kernel_rfl) x3) ?_
  refine mv (v := .sl (σc2.next + 2) 0 3 3 false 1) (by kernel_rfl) ?_
  refine avc_reg_nil ?_
  obtain ⟨σc4, x4, hC4, kp4, hm4⟩ := hC3.num c 8 (by omega) (by omega) (by show 3 ≤ 1000; omega)
  have gs4 : Grown σ σc4 := ⟨by omega, fun b hb => by rw [kp4 b (by omega)]; exact gs3.get b hb⟩
  have hz4 : σc4.get σ.next = some (.ints .u8 Z32 23 .exact) := by rw [kp4 _ (by omega)]; exact hz3
  refine mv (v := .sl (σc2.next + 2) 0 3 3 false 1) (by kernel_rfl) ?_
  refine mv (v := .int .u64 (c : Nat)) (by kernel_rfl) ?_
  refine avc_reg_cons (g_call (n := 61) (vs := [.int .u64 (c : Nat), .int .i64 8]) (by kernel_rfl) (by kernel_rfl) (h61 c 8 σc3 (by omega) (by omega) (by omega))) ?_
  refine avc_reg_cons (g_mk (vs := [.sl σc3.next 0 8 8 true 1]) (by kernel_rfl) rfl (by show σc3.next + 1 < _; omega)) ?_
  refine avc_reg_cons (g_ext (vs := [.sl (σc2.next + 2) 0 3 3 false 1, .sl (σc3.next + 1) 0 1 1 true 1]) (by kernel_rfl) x4) ?_
  refine mv (v := .sl (σc3.next + 2) 0 4 4 false 1) (by kernel_rfl) ?_
  refine avc_reg_nil ?_
  obtain ⟨σc5, x5, hC5, kp5, hm5⟩ := hC4.num q 8 (by omega) (by omega) (by show 4 ≤ 1000; omega)
  have gs5 : Grown σ σc5 := ⟨by omega, fun b hb => by rw [kp5 b (by omega)]; exact gs4.get b hb⟩
  have hz5 : σc5.get σ.next = some (.ints .u8 Z32 23 .exact) := by rw [kp5 _ (by omega)]; exact hz4
  refine mv (v := .sl (σc3.next + 2) 0 4 4 false 1) (by kernel_rfl) ?_
  refine mv (v := .int .u64 (q : Nat)) (by kernel_rfl) ?_
  refine avc_reg_cons (g_call (n := 61) (vs := [.int .u64 (q : Nat), .int .i64 8]) (by kernel_rfl) (by kernel_rfl) (h61 q 8 σc4 (by omega) (by omega) (by omega))) ?_
  refine avc_reg_cons (g_mk (vs := [.sl σc4.next 0 8 8 true 1]) (by kernel_rfl) rfl (by show σc4.next + 1 < _; omega)) ?_
  refine avc_reg_cons (g_ext (vs := [.sl (σc3.next + 2) 0 4 4 false 1, .sl (σc4.next + 1) 0 1 1 true 1]) (by kernel_rfl) x5) ?_
  refine mv (v := .sl (σc4.next + 2) 0 5 5 false 1) (by kernel_rfl) ?_
  refine avc_reg_nil ?_
  have hP : IsP σc5 (.sl (σc4.next + 2) 0 5 5 false 1) (wayP w s p c q) := by
    have e : wayP w s p c q = [numL w 1, numL s 4, numL p 4, numL c 8, numL q 8] := by rw [numL1, numL4, numL4, numL8, numL8]; rfl
    rw [e]; exact hC5.isP
  obtain ⟨H, hH⟩ : ∃ H, H = hmB key (layB wayB (wayP w s p c q)) := ⟨_, rfl⟩
  have hHI : (bI H).length = 32 := by rw [bI_length, hH]; exact hmB_length _ _
  refine mv (v := k) (by kernel_rfl) ?_
  refine mv (v := .sl (σc4.next + 2) 0 5 5 false 1) (by kernel_rfl) ?_
  refine avc_reg_cons (g_call (n := 24) (vs := [k, .str wayB, .sl (σc4.next + 2) 0 5 5 false 1]) (by kernel_rfl) (by kernel_rfl) ((h24 key wayB (wayP w s p c q) k _ σc5 (hk.mono gs5) hP (by omega) (by decide) (by show 5 ≤ 1000; omega) (by simp [wayP, be4_length, be8_length]) (hT.mono gs5) (by omega)).trans (by rw [derV, hmay, cond_true, ← hH]))) ?_
  refine mv (v := .tup [.ints .u8 (bI H), .int .i64 0]) (by kernel_rfl) ?_
  refine avc_reg_cons (g_ext1 (l := [.ints .u8 (bI H), .int .i64 0]) (v := .ints .u8 (bI H)) (by kernel_rfl) rfl) ?_
  refine avc_reg_cons (g_ext1 (l := [.ints .u8 (bI H), .int .i64 0]) (v := .int .i64 0) (by kernel_rfl) rfl) ?_
  refine avc_reg_cons (g_alloc (o := .ints .u8 Z32 23 .exact) (by kernel_rfl) (by omega)) ?_
  dsimp only
  have gr6 : Grown σc5 (σc5.new (.ints .u8 Z32 23 .exact)) := Grown.new (by omega)
  have hg6 : (σc5.new (.ints .u8 Z32 23 .exact)).get σc5.next = some (.ints .u8 Z32 23 .exact) := get_new (by omega)
  have hx6 : (σc5.new (.ints .u8 Z32 23 .exact)).next = σc5.next + 1 := rfl
  generalize σc5.new (.ints .u8 Z32 23 .exact) = σ6 at gr6 hg6 hx6 ⊢
  refine avc_reg_cons (g_storeAll (b := σc5.next) (m := bI H) (by kernel_rfl) (by kernel_rfl) hg6 rfl hHI) ?_
  dsimp only
  have gr7 : Grown σc5 (σ6.put σc5.next (.ints .u8 (bI H) 23 .exact)) := gr6.put (by omega) (by omega)
  have hg7 : (σ6.put σc5.next (.ints .u8 (bI H) 23 .exact)).get σc5.next = some (.ints .u8 (bI H) 23 .exact) := by rw [get_put (by omega), if_pos rfl]
  have hx7 : (σ6.put σc5.next (.ints .u8 (bI H) 23 .exact)).next = σ6.next := rfl
  generalize σ6.put σc5.next (.ints .u8 (bI H) 23 .exact) = σ7 at gr7 hg7 hx7 ⊢
  refine mv (v := .int .i64 0) (by kernel_rfl) ?_
  refine avc_reg_nil ?_
  refine avc_reg_cons (g_loadAll (b := σc5.next) (by kernel_rfl) hg7 hHI) ?_
  have hz7 : σ7.get σ.next = some (.ints .u8 Z32 23 .exact) := by rw [gr7.get _ (by omega)]; exact hz5
  refine avc_reg_cons (g_storeAll (b := σ.next) (m := bI H) (by kernel_rfl) (by kernel_rfl) hz7 rfl hHI) ?_
  dsimp only
  have gr8 : Grown σ (σ7.put σ.next (.ints .u8 (bI H) 23 .exact)) := (gs5.trans gr7).put (by omega) (by omega)
  have hg8 : (σ7.put σ.next (.ints .u8 (bI H) 23 .exact)).get σ.next = some (.ints .u8 (bI H) 23 .exact) := by rw [get_put (by omega), if_pos rfl]
  generalize σ7.put σ.next (.ints .u8 (bI H) 23 .exact) = σ8 at gr8 hg8 ⊢
  refine avc_reg_nil ?_
  have hfin := hK σ8 gr8
  have hw : (decide (0 ≤ (w : Int)) && decide ((w : Int) ≤ 1)) = true := by rw [Bool.and_eq_true, decide_eq_true_eq, decide_eq_true_eq]; omega
  rw [wayV, hw, cond_true, show ((w : Int)).toNat = w from rfl, ← hH] at hfin
  refine fin_ok (vs := [.ints .u8 (bI H)]) (resL1 (resV_cell (b := σ.next) (by kernel_rfl) hg8 hHI)) hfin
theorem ok41 {Γ : Gam} (hΓ : GamOk Tryd.prog 4 Γ) (h61 : Has61 Γ) (h24 : Has24 Γ) : SOk Tryd.prog 4 41 (fun args σ v σ' => S41 args σ v ∧ σ' = σ) := by
  refine sok_pure hΓ Tryd.func41 body41 cc41 cr41 (by kernel_rfl) (by kernel_rfl) ?_
  rintro args σ v ⟨way, s, p, c, q, k, key, rfl, hs, hp, hc, hq, hk, hm, hT, hsz, rfl⟩
  exact ⟨by kernel_rfl, by unfold wayV; cases (decide (0 ≤ way) && decide (way ≤ 1)) <;> rfl, walk41 (K := fun av σ' => av = wayV key way s p c q ∧ Grown σ σ') h61 h24 hs hp hc hq hk hm hT hsz fun σ' h => ⟨rfl, h⟩⟩
def Has41 (Γ : Gam) : Prop := ∀ (σ : AH) (way : Int) (s p c q : Nat) (k : AV) (key : List UInt8), s < 4294967296 → p < 4294967296 → c < 18446744073709551616 → q < 18446744073709551616 → IsB σ k (bI key) → mayB key = true → Tabs σ → σ.next ≤ 950000 → Γ 41 [k, .int .i64 way, .int .u32 s, .int .u32 p, .int .u64 c, .int .u64 q] σ = (true, wayV key way s p c q, σ)
end Go.Proofs.YtjkicmlelilcaaaDoor.V2
namespace Go.Proofs.YtjkicmlelilcaaaDoor.V2
open Go
open Go.RowKit
def c43 : ACode := (.seq (.reg [⟨(.aop (.mov (.lit (.int .u64 (0))))), (some 6), none⟩]) (.seq (.reg [⟨(.aop (.mov (.slot 0))), (some 10), none⟩, ⟨(.call (.lit (.fn (.func 24) [] [])) [(.slot 10), (.lit (.str [116, 111, 107, 101, 110])), (.lit .nilsl)]), (some 11), none⟩, ⟨(.aop (.mov (.slot 11))), (some 9), none⟩, ⟨(.aop (.extract (.slot 9) 0)), (some 12), none⟩, ⟨(.aop (.extract (.slot 9) 1)), (some 13), none⟩, ⟨(.aop (.alloc 23 [(.int .u8 (0)), (.int .u8 (0)), (.int .u8 (0)), (.int .u8 (0)), (.int .u8 (0)), (.int .u8 (0)), (.int .u8 (0)), (.int .u8 (0)), (.int .u8 (0)), (.int .u8 (0)), (.int .u8 (0)), (.int .u8 (0)), (.int .u8 (0)), (.int .u8 (0)), (.int .u8 (0)), (.int .u8 (0)), (.int .u8 (0)), (.int .u8 (0)), (.int .u8 (0)), (.int .u8 (0)), (.int .u8 (0)), (.int .u8 (0)), (.int .u8 (0)), (.int .u8 (0)), (.int .u8 (0)), (.int .u8 (0)), (.int .u8 (0)), (.int .u8 (0)), (.int .u8 (0)), (.int .u8 (0)), (.int .u8 (0)), (.int .u8 (0))])), (some 7), none⟩, ⟨(.aop (.store 32 (.slot 7) (.slot 12))), none, none⟩, ⟨(.aop (.mov (.slot 13))), (some 8), none⟩]) (.seq (.seq (.reg [⟨(.aop (.mov (.slot 8))), (some 14), none⟩, ⟨(.aop (.bin .neq (.slot 14) (.lit (.int .i64 (0))))), (some 15), none⟩]) (.cond (.slot 15) (.seq (.reg [⟨(.aop (.mov (.lit (.int .u64 (0))))), (some 6), none⟩]) .ret) .skip)) (.seq (.regd [(0, ⟨(.aop (.loadN 32 (.slot 7))), (some 16), none⟩), (1, ⟨(.aop (.mov (.slot 1))), (some 17), none⟩), (2, ⟨(.aop (.conv .u64 (.op 1))), (some 18), none⟩), (4, ⟨(.aop (.mov (.slot 2))), (some 20), none⟩), (5, ⟨(.aop (.conv .u64 (.op 4))), (some 21), none⟩), (3, ⟨(.call (.lit (.fn (.func 61) [] [])) [(.op 2), (.lit (.int .i64 (4)))]), (some 19), none⟩), (6, ⟨(.call (.lit (.fn (.func 61) [] [])) [(.op 5), (.lit (.int .i64 (4)))]), (some 22), none⟩), (7, ⟨(.aop (.ext (.append 5 false 1) [(.op 3), (.op 6)])), (some 23), none⟩), (8, ⟨(.call (.lit (.fn (.func 26) [] [])) [(.op 0), (.op 7)]), (some 24), none⟩), (9, ⟨(.aop (.mov (.op 8))), (some 6), none⟩)] [(3, [0]), (6, [0]), (7, [0])] [(some 16), (some 17), (some 18), (some 19), (some 20), (some 21), (some 22), (some 23), (some 24), (some 6)]) .ret))))
theorem comp43 : (V2.compC Tryd.prog 4 Tryd.f43.ntmps (fun _ => false) (Tryd.f43.body.getD .skip), V2.compR Tryd.prog Tryd.f43.results.toList) = (some c43, some [(.tmp 6)]) := by kernel_rfl
theorem body43 : Tryd.f43.body = some (Tryd.f43.body.getD .skip) := by kernel_rfl
theorem cc43 : V2.compC Tryd.prog 4 Tryd.f43.ntmps (fun _ => false) (Tryd.f43.body.getD .skip) = some c43 := (Prod.mk.inj comp43).1
theorem cr43 : V2.compR Tryd.prog Tryd.f43.results.toList = some [(.tmp 6)] := (Prod.mk.inj comp43).2
def S43 (args : List AV) (σ : AH) (v : AV) : Prop := ∃ (s p : Nat) (k : AV) (key : List UInt8), args = [k, .int .u32 s, .int .u32 p] ∧ s < 4294967296 ∧ p < 4294967296 ∧ IsB σ k (bI key) ∧ mayB key = true ∧ Tabs σ ∧ σ.next ≤ 950000 ∧ v = tokV key s p
set_option maxHeartbeats 1000000 in
theorem walk43 {Γ : Gam} (h61 : Has61 Γ) (h24 : Has24 Γ) (h26 : Has26 Γ) {σ : AH} {s p : Nat} {k : AV} {key : List UInt8} (hs : s < 4294967296) (hp : p < 4294967296) (hk : IsB σ k (bI key)) (hmay : mayB key = true) (hT : Tabs σ) (hsz : σ.next ≤ 950000)
    {K : AV → AH → Prop} (hK : ∀ σ', Grown σ σ' → K (tokV key s p) σ') :
    avc std Γ 4 25 σ.next c43 (fun e env σ' => (match e with | .normal => True | .ret => True | _ => False) ∧ (resL std env σ' [.tmp 6]).1 = true ∧ K (retV (resL std env σ' [.tmp 6]).2) σ') (envOf [k, .int .u32 s, .int .u32 p] 0 .leaf) σ := by
  have hT' := hT.n
  have hkl := mayB_iff.1 hmay
  obtain ⟨H, hH⟩ : ∃ H, H = hmB key (layB tokenB []) := ⟨_, rfl⟩
  have hHl : H.length = 32 := by rw [hH]; exact hmB_length _ _
  have hHI : (bI H).length = 32 := by rw [bI_length]; exact hHl
  unfold c43
  refine mv (v := .int .u64 0) (by kernel_rfl) ?_
  refine avc_reg_nil ?_
  refine mv (v := k) (by kernel_rfl) ?_
  refine avc_reg_cons (g_call (n := 24) (vs := [k, .str tokenB, .nilsl]) (by kernel_rfl) (by kernel_rfl) ((h24 key tokenB [] k .nilsl σ hk .nil (by omega) (by decide) (by decide) (by decide) hT (by omega)).trans (by rw [derV, hmay, cond_true, ← hH]))) ?_
  refine mv (v := .tup [.ints .u8 (bI H), .int .i64 0]) (by kernel_rfl) ?_
  refine avc_reg_cons (g_ext1 (l := [.ints .u8 (bI H), .int .i64 0]) (v := .ints .u8 (bI H)) (by kernel_rfl) rfl) ?_
  refine avc_reg_cons (g_ext1 (l := [.ints .u8 (bI H), .int .i64 0]) (v := .int .i64 0) (by kernel_rfl) rfl) ?_
  refine avc_reg_cons (g_alloc (o := .ints .u8 Z32 23 .exact) (by kernel_rfl) (by omega)) ?_
  dsimp only
  have gr1 : Grown σ (σ.new (.ints .u8 Z32 23 .exact)) := Grown.new (by omega)
  have hg1 : (σ.new (.ints .u8 Z32 23 .exact)).get σ.next = some (.ints .u8 Z32 23 .exact) := get_new (by omega)
  have hx1 : (σ.new (.ints .u8 Z32 23 .exact)).next = σ.next + 1 := rfl
  generalize σ.new (.ints .u8 Z32 23 .exact) = σ1 at gr1 hg1 hx1 ⊢
  refine avc_reg_cons (g_storeAll (b := σ.next) (m := bI H) (by kernel_rfl) (by kernel_rfl) hg1 rfl hHI) ?_
  dsimp only
  have gr2 : Grown σ (σ1.put σ.next (.ints .u8 (bI H) 23 .exact)) := gr1.put (by omega) (by omega)
  have hg2 : (σ1.put σ.next (.ints .u8 (bI H) 23 .exact)).get σ.next = some (.ints .u8 (bI H) 23 .exact) := by rw [get_put (by omega), if_pos rfl]
  have hx2 : (σ1.put σ.next (.ints .u8 (bI H) 23 .exact)).next = σ1.next := rfl
  generalize σ1.put σ.next (.ints .u8 (bI H) 23 .exact) = σ2 at gr2 hg2 hx2 ⊢
  refine mv (v := .int .i64 0) (by kernel_rfl) ?_
  refine avc_reg_nil ?_
  refine avc_seq_seq ?_
  refine mv (v := .int .i64 0) (by kernel_rfl) ?_
  refine avc_reg_cons (g_bin (op := .neq) (k := .i64) (k' := .i64) (a := 0) (b := 0) (v := .bool false) (by kernel_rfl) (by kernel_rfl) rfl (b_ne' rfl)) ?_
  refine avc_reg_nil ?_
  refine avc_seq_cond (t := false) (by kernel_rfl) (fun h => by cases h) (fun _ => avc_seq_skip ?_)
  have hz2 := hg2
  refine avc_evg ?_
  refine evg_cons (g_loadAll (b := σ.next) (by kernel_rfl) hz2 hHI) rfl ?_
  refine evg_cons (g_mov (v := .int .u32 (s : Nat)) (by kernel_rfl)) rfl ?_
  refine evg_cons (g_conv (k := .u64) (k' := .u32) (n := (s : Nat)) (m := (s : Nat)) (by kernel_rfl) (wr_u64 (by omega))) rfl ?_
  refine evg_cons (g_mov (v := .int .u32 (p : Nat)) (by kernel_rfl)) rfl ?_
  refine evg_cons (g_conv (k := .u64) (k' := .u32) (n := (p : Nat)) (m := (p : Nat)) (by kernel_rfl) (wr_u64 (by omega))) rfl ?_
  have gr3 : Grown σ2 (σ2.new (.ints .u8 (bI (numL s 4)) 5 .exact)) := Grown.new (by omega)
  have hg3 : (σ2.new (.ints .u8 (bI (numL s 4)) 5 .exact)).get σ2.next = some (.ints .u8 (bI (numL s 4)) 5 .exact) := get_new (by omega)
  have hx3 : (σ2.new (.ints .u8 (bI (numL s 4)) 5 .exact)).next = σ2.next + 1 := rfl
  have hz3 : (σ2.new (.ints .u8 (bI (numL s 4)) 5 .exact)).get σ.next = some (.ints .u8 (bI H) 23 .exact) := by rw [gr3.get _ (by omega)]; exact hz2
  refine evg_cons (g_call (n := 61) (vs := [.int .u64 (s : Nat), .int .i64 4]) (by kernel_rfl) (by kernel_rfl) (h61 s 4 σ2 (by omega) (by omega) (by omega))) (rechk_cons (q := (0, ⟨(.aop (.loadN 32 (.slot 7))), (some 16), none⟩)) (v := .ints .u8 (bI H)) (by kernel_rfl) (g_loadAll (b := σ.next) (by kernel_rfl) hz3 hHI) (by kernel_rfl) (same_refl rfl) rfl) ?_
  dsimp only
  generalize σ2.new (.ints .u8 (bI (numL s 4)) 5 .exact) = σ3 at gr3 hg3 hx3 hz3 ⊢
  have gr6 : Grown σ3 (σ3.new (.ints .u8 (bI (numL p 4)) 5 .exact)) := Grown.new (by omega)
  have hg6 : (σ3.new (.ints .u8 (bI (numL p 4)) 5 .exact)).get σ3.next = some (.ints .u8 (bI (numL p 4)) 5 .exact) := get_new (by omega)
  have hx6 : (σ3.new (.ints .u8 (bI (numL p 4)) 5 .exact)).next = σ3.next + 1 := rfl
  have hz6 : (σ3.new (.ints .u8 (bI (numL p 4)) 5 .exact)).get σ.next = some (.ints .u8 (bI H) 23 .exact) := by rw [gr6.get _ (by omega)]; exact hz3
  refine evg_cons (g_call (n := 61) (vs := [.int .u64 (p : Nat), .int .i64 4]) (by kernel_rfl) (by kernel_rfl) (h61 p 4 σ3 (by omega) (by omega) (by omega))) (rechk_cons (q := (0, ⟨(.aop (.loadN 32 (.slot 7))), (some 16), none⟩)) (v := .ints .u8 (bI H)) (by kernel_rfl) (g_loadAll (b := σ.next) (by kernel_rfl) hz6 hHI) (by kernel_rfl) (same_refl rfl) rfl) ?_
  dsimp only
  generalize σ3.new (.ints .u8 (bI (numL p 4)) 5 .exact) = σ4 at gr6 hg6 hx6 hz6 ⊢
  have hns : (bI (numL s 4)).length = 4 := by rw [bI_length, numL_length]
  have hnp : (bI (numL p 4)).length = 4 := by rw [bI_length, numL_length]
  have hBp : IsB σ4 (.sl σ3.next 0 4 4 true 1) (bI (numL p 4)) := .sl _ 0 4 4 true _ (bI (numL p 4)) 5 .exact (by omega) hg6 (by omega) (by omega) (by rw [List.drop_zero]; exact (List.take_of_length_le (by omega)).symm)
  have hAs : IsA (σ.next + 1) σ3 (.sl σ2.next 0 4 4 true 1) (bI (numL s 4)) := by
    have h := IsA.sl (N := σ.next + 1) (σ := σ3) σ2.next 4 true (bI (numL s 4)) .exact (by omega) (by omega) hg3 rfl (by omega)
    rw [hns] at h; exact h
  obtain ⟨rn, hrn, _, hrn3⟩ := hBp.row
  obtain ⟨u5, σ5, x5, hA5, kp5, nx5, ny5⟩ := (hAs.mono gr6).app (str := false) (x := .sl σ3.next 0 4 4 true 1) (m := bI (numL p 4)) (r := rn) (by omega) (by omega) hrn hrn3 (by omega)
  have gr5 : Grown σ σ5 := ⟨by have := gr2.next; omega, fun b hb => by rw [kp5 b (by omega), gr6.get b (by omega), gr3.get b (by omega)]; exact gr2.get b hb⟩
  have hz5 : σ5.get σ.next = some (.ints .u8 (bI H) 23 .exact) := by rw [kp5 _ (by omega)]; exact hz6
  have hB5 : IsB σ5 u5 (bI (be4 s ++ be4 p)) := by
    have e : bI (be4 s ++ be4 p) = bI (numL s 4) ++ bI (numL p 4) := by rw [numL4, numL4]; unfold bI; rw [List.map_append]
    rw [e]; exact hA5.isB
  refine evg_cons (g_ext (vs := [.sl σ2.next 0 4 4 true 1, .sl σ3.next 0 4 4 true 1]) (by kernel_rfl) x5) (rechk_cons (q := (0, ⟨(.aop (.loadN 32 (.slot 7))), (some 16), none⟩)) (v := .ints .u8 (bI H)) (by kernel_rfl) (g_loadAll (b := σ.next) (by kernel_rfl) hz5 hHI) (by kernel_rfl) (same_refl rfl) rfl) ?_
  refine evg_cons (g_call (n := 26) (vs := [.ints .u8 (bI H), u5]) (by kernel_rfl) (by kernel_rfl) (h26 H (be4 s ++ be4 p) u5 σ5 hHl hB5 (by rw [List.length_append, be4_length, be4_length]; omega) (hT.mono gr5) (by omega))) rfl ?_
  refine evg_cons (g_mov (v := .int .u64 (num (hmB H (be4 s ++ be4 p)) 8 : Nat)) (by kernel_rfl)) rfl ?_
  refine evg_nil ?_
  have hfin := hK σ5 gr5
  rw [tokV, ← hH] at hfin
  refine fin_ok (vs := [.int .u64 (num (hmB H (be4 s ++ be4 p)) 8 : Nat)]) (by kernel_rfl) hfin
theorem ok43 {Γ : Gam} (hΓ : GamOk Tryd.prog 4 Γ) (h61 : Has61 Γ) (h24 : Has24 Γ) (h26 : Has26 Γ) : SOk Tryd.prog 4 43 (fun args σ v σ' => S43 args σ v ∧ σ' = σ) := by
  refine sok_pure hΓ Tryd.func43 body43 cc43 cr43 (by kernel_rfl) (by kernel_rfl) ?_
  rintro args σ v ⟨s, p, k, key, rfl, hs, hp, hk, hm, hT, hsz, rfl⟩
  exact ⟨by kernel_rfl, rfl, walk43 (K := fun av σ' => av = tokV key s p ∧ Grown σ σ') h61 h24 h26 hs hp hk hm hT hsz fun σ' h => ⟨rfl, h⟩⟩
def Has43 (Γ : Gam) : Prop := ∀ (σ : AH) (s p : Nat) (k : AV) (key : List UInt8), s < 4294967296 → p < 4294967296 → IsB σ k (bI key) → mayB key = true → Tabs σ → σ.next ≤ 950000 → Γ 43 [k, .int .u32 s, .int .u32 p] σ = (true, tokV key s p, σ)
end Go.Proofs.YtjkicmlelilcaaaDoor.V2
namespace Go.Proofs.YtjkicmlelilcaaaDoor.V2
open Go
open Go.RowKit
theorem g_field {A : Ar} {Γ : Gam} {σ : AH} {ev : Ref → AV} {d : Option Nat} {off : Nat} {x : Ref} {b o : Nat} (hx : ev x = .ptr b o) : gstep A Γ ev σ ⟨.aop (.fieldAddr off x), d, none⟩ = (true, .ptr b (o + off), σ) := by
  show step A ev σ (.fieldAddr off x) = _
  unfold step
  simp only [hx]
theorem IsA.lt {N : Nat} {σ : AH} {v : AV} {l : List Int} (h : IsA N σ v l) {b o n c z : Nat} {e : Bool} (hv : v = .sl b o n c e z) : N ≤ b ∧ b < σ.next := by
  cases h with
  | nil => cases hv
  | sl b' c' ex l tl hN hb hg ht hk =>
    have := (AV.sl.inj hv).1
    omega
theorem wayV_form (key : List UInt8) (way : Int) (s p c q : Nat) : ∃ Y : List UInt8, wayV key way s p c q = .ints .u8 (bI Y) ∧ Y.length = 32 := by
  unfold wayV
  cases decide (0 ≤ way) && decide (way ≤ 1)
  · exact ⟨zer32, rfl, rfl⟩
  · exact ⟨_, rfl, hmB_length _ _⟩
def c10 : ACode := (.seq (.reg [⟨(.aop (.box 68 (.slot 1))), (some 3), none⟩, ⟨(.aop (.mov (.lit (.bool false)))), (some 4), none⟩]) (.seq (.reg [⟨(.aop (.mov (.slot 0))), (some 11), none⟩, ⟨(.aop (.mov (.slot 0))), (some 12), none⟩, ⟨(.aop (.lenSl (.slot 12))), (some 13), none⟩, ⟨(.aop (.pur .minI [(.slot 13), (.lit (.int .i64 (80)))])), (some 14), none⟩, ⟨(.aop (.slSl 1 (.slot 11) none (some (.slot 14)) none)), (some 15), none⟩, ⟨(.aop (.mov (.slot 15))), (some 0), none⟩]) (.seq (.reg [⟨(.aop (.mov (.slot 0))), (some 16), none⟩, ⟨(.aop (.ext (.append 5 false 1) [(.lit .nilsl), (.slot 16)])), (some 17), none⟩, ⟨(.aop (.mov (.slot 17))), (some 5), none⟩]) (.seq (.reg [⟨(.aop (.mov (.slot 5))), (some 19), none⟩, ⟨(.call (.lit (.fn (.func 37) [] [])) [(.slot 19)]), (some 20), none⟩, ⟨(.aop (.mov (.slot 20))), (some 18), none⟩, ⟨(.aop (.extract (.slot 18) 0)), (some 21), none⟩, ⟨(.aop (.extract (.slot 18) 1)), (some 22), none⟩, ⟨(.aop (.mov (.slot 21))), (some 6), none⟩, ⟨(.aop (.mov (.slot 22))), (some 7), none⟩]) (.seq (.seq (.reg [⟨(.aop (.mov (.slot 5))), (some 23), none⟩, ⟨(.aop (.lenSl (.slot 23))), (some 24), none⟩, ⟨(.aop (.mov (.lit (.int .i64 (0))))), (some 25), none⟩]) (.block 0 (.loop (.seq (.reg [⟨(.aop (.bin .lss (.slot 25) (.slot 24))), (some 26), none⟩]) (.seq (.cond (.slot 26) .skip (.exit 0)) (.seq (.block 1 (.seq (.reg [⟨(.aop (.mov (.slot 25))), (some 27), none⟩, ⟨(.aop (.mov (.slot 27))), (some 8), none⟩]) (.reg [⟨(.aop (.mov (.slot 5))), (some 28), none⟩, ⟨(.aop (.mov (.slot 8))), (some 29), none⟩, ⟨(.aop (.idxSl 1 (.slot 28) (.slot 29))), (some 30), none⟩, ⟨(.aop (.load1 (.slot 30))), (some 31), none⟩, ⟨(.aop (.bin .add (.slot 31) (.lit (.int .u8 (1))))), (some 32), none⟩, ⟨(.aop (.idxSl 1 (.slot 28) (.slot 29))), (some 33), none⟩, ⟨(.aop (.store 1 (.slot 33) (.slot 32))), none, none⟩]))) (.reg [⟨(.aop (.bin .add (.slot 25) (.lit (.int .i64 (1))))), (some 34), none⟩, ⟨(.aop (.mov (.slot 34))), (some 25), none⟩]))))))) (.seq (.seq (.reg [⟨(.aop (.mov (.slot 0))), (some 35), none⟩, ⟨(.call (.lit (.fn (.func 38) [] [])) [(.slot 35)]), (some 36), none⟩, ⟨(.aop (.un .not (.slot 36))), (some 37), none⟩]) (.cond (.slot 37) (.seq (.reg [⟨(.aop (.mov (.slot 7))), (some 38), none⟩, ⟨(.aop (.bin .eql (.slot 38) (.lit (.int .i64 (1))))), (some 39), none⟩, ⟨(.aop (.mov (.slot 39))), (some 40), none⟩, ⟨(.aop (.mov (.slot 6))), (some 41), (some ((.slot 40), true))⟩, ⟨(.aop (.pur (.eqv false .ptr) [(.slot 41), (.lit .nilptr)])), (some 42), (some ((.slot 40), true))⟩, ⟨(.aop (.pick (.slot 40) (.slot 42) (.lit (.bool false)))), (some 43), none⟩, ⟨(.aop (.mov (.slot 43))), (some 44), none⟩, ⟨(.call (.lit (.fn (.func 27) [] [])) []), (some 45), (some ((.slot 44), true))⟩, ⟨(.aop (.pick (.slot 44) (.slot 45) (.lit (.bool false)))), (some 46), none⟩, ⟨(.aop (.mov (.slot 46))), (some 4), none⟩]) .ret) .skip)) (.seq (.reg [⟨(.aop (.mov (.slot 0))), (some 48), none⟩, ⟨(.call (.lit (.fn (.func 24) [] [])) [(.slot 48), (.lit (.str [104, 101, 108, 108, 111])), (.lit .nilsl)]), (some 49), none⟩, ⟨(.aop (.mov (.slot 49))), (some 47), none⟩, ⟨(.aop (.extract (.slot 47) 0)), (some 50), none⟩, ⟨(.aop (.extract (.slot 47) 1)), (some 51), none⟩, ⟨(.aop (.alloc 23 [(.int .u8 (0)), (.int .u8 (0)), (.int .u8 (0)), (.int .u8 (0)), (.int .u8 (0)), (.int .u8 (0)), (.int .u8 (0)), (.int .u8 (0)), (.int .u8 (0)), (.int .u8 (0)), (.int .u8 (0)), (.int .u8 (0)), (.int .u8 (0)), (.int .u8 (0)), (.int .u8 (0)), (.int .u8 (0)), (.int .u8 (0)), (.int .u8 (0)), (.int .u8 (0)), (.int .u8 (0)), (.int .u8 (0)), (.int .u8 (0)), (.int .u8 (0)), (.int .u8 (0)), (.int .u8 (0)), (.int .u8 (0)), (.int .u8 (0)), (.int .u8 (0)), (.int .u8 (0)), (.int .u8 (0)), (.int .u8 (0)), (.int .u8 (0))])), (some 9), none⟩, ⟨(.aop (.store 32 (.slot 9) (.slot 50))), none, none⟩, ⟨(.aop (.mov (.slot 51))), (some 10), none⟩]) (.seq (.regd [(0, ⟨(.aop (.mov (.slot 7))), (some 52), none⟩), (1, ⟨(.aop (.bin .eql (.op 0) (.lit (.int .i64 (0))))), (some 53), none⟩), (2, ⟨(.aop (.mov (.op 1))), (some 54), none⟩), (3, ⟨(.aop (.mov (.slot 6))), (some 55), (some ((.op 2), true))⟩), (5, ⟨(.aop (.loadN 32 (.slot 9))), (some 57), (some ((.op 2), true))⟩), (4, ⟨(.call (.lit (.fn (.func 39) [] [])) [(.op 3)]), (some 56), (some ((.op 2), true))⟩), (6, ⟨(.aop (.pur (.eqF false [.int, .int, .int, .int, .int, .int, .int, .int, .int, .int, .int, .int, .int, .int, .int, .int, .int, .int, .int, .int, .int, .int, .int, .int, .int, .int, .int, .int, .int, .int, .int, .int]) [(.op 4), (.op 5)])), (some 58), (some ((.op 2), true))⟩), (7, ⟨(.aop (.pick (.op 2) (.op 6) (.lit (.bool false)))), (some 59), none⟩), (8, ⟨(.aop (.mov (.op 7))), (some 60), none⟩), (9, ⟨(.aop (.mov (.slot 6))), (some 61), (some ((.op 8), true))⟩), (10, ⟨(.aop (.fieldAddr 0 (.slot 3))), (some 62), (some ((.op 8), true))⟩), (11, ⟨(.aop (.load1 (.op 10))), (some 63), (some ((.op 8), true))⟩), (12, ⟨(.aop (.fieldAddr 1 (.slot 3))), (some 64), (some ((.op 8), true))⟩), (13, ⟨(.aop (.load1 (.op 12))), (some 65), (some ((.op 8), true))⟩), (14, ⟨(.aop (.fieldAddr 2 (.slot 3))), (some 66), (some ((.op 8), true))⟩), (15, ⟨(.aop (.load1 (.op 14))), (some 67), (some ((.op 8), true))⟩), (16, ⟨(.aop (.fieldAddr 3 (.slot 3))), (some 68), (some ((.op 8), true))⟩), (17, ⟨(.aop (.load1 (.op 16))), (some 69), (some ((.op 8), true))⟩), (18, ⟨(.aop (.fieldAddr 4 (.slot 3))), (some 70), (some ((.op 8), true))⟩), (19, ⟨(.aop (.load1 (.op 18))), (some 71), (some ((.op 8), true))⟩), (21, ⟨(.aop (.mov (.slot 0))), (some 73), (some ((.op 8), true))⟩), (22, ⟨(.aop (.fieldAddr 0 (.slot 3))), (some 74), (some ((.op 8), true))⟩), (23, ⟨(.aop (.load1 (.op 22))), (some 75), (some ((.op 8), true))⟩), (24, ⟨(.aop (.fieldAddr 1 (.slot 3))), (some 76), (some ((.op 8), true))⟩), (25, ⟨(.aop (.load1 (.op 24))), (some 77), (some ((.op 8), true))⟩), (26, ⟨(.aop (.fieldAddr 2 (.slot 3))), (some 78), (some ((.op 8), true))⟩), (27, ⟨(.aop (.load1 (.op 26))), (some 79), (some ((.op 8), true))⟩), (28, ⟨(.aop (.fieldAddr 3 (.slot 3))), (some 80), (some ((.op 8), true))⟩), (29, ⟨(.aop (.load1 (.op 28))), (some 81), (some ((.op 8), true))⟩), (30, ⟨(.aop (.fieldAddr 4 (.slot 3))), (some 82), (some ((.op 8), true))⟩), (31, ⟨(.aop (.load1 (.op 30))), (some 83), (some ((.op 8), true))⟩), (20, ⟨(.call (.lit (.fn (.func 40) [] [])) [(.op 9), (.op 11), (.op 13), (.op 15), (.op 17), (.op 19)]), (some 72), (some ((.op 8), true))⟩), (32, ⟨(.call (.lit (.fn (.func 41) [] [])) [(.op 21), (.op 23), (.op 25), (.op 27), (.op 29), (.op 31)]), (some 84), (some ((.op 8), true))⟩), (33, ⟨(.aop (.pur (.eqF false [.int, .int, .int, .int, .int, .int, .int, .int, .int, .int, .int, .int, .int, .int, .int, .int, .int, .int, .int, .int, .int, .int, .int, .int, .int, .int, .int, .int, .int, .int, .int, .int]) [(.op 20), (.op 32)])), (some 85), (some ((.op 8), true))⟩), (34, ⟨(.aop (.pick (.op 8) (.op 33) (.lit (.bool false)))), (some 86), none⟩), (35, ⟨(.aop (.mov (.op 34))), (some 87), none⟩), (36, ⟨(.aop (.mov (.slot 6))), (some 88), (some ((.op 35), true))⟩), (37, ⟨(.aop (.fieldAddr 1 (.slot 3))), (some 89), (some ((.op 35), true))⟩), (38, ⟨(.aop (.load1 (.op 37))), (some 90), (some ((.op 35), true))⟩), (39, ⟨(.aop (.fieldAddr 2 (.slot 3))), (some 91), (some ((.op 35), true))⟩), (40, ⟨(.aop (.load1 (.op 39))), (some 92), (some ((.op 35), true))⟩), (42, ⟨(.aop (.mov (.slot 0))), (some 94), (some ((.op 35), true))⟩), (43, ⟨(.aop (.fieldAddr 1 (.slot 3))), (some 95), (some ((.op 35), true))⟩), (44, ⟨(.aop (.load1 (.op 43))), (some 96), (some ((.op 35), true))⟩), (45, ⟨(.aop (.fieldAddr 2 (.slot 3))), (some 97), (some ((.op 35), true))⟩), (46, ⟨(.aop (.load1 (.op 45))), (some 98), (some ((.op 35), true))⟩), (41, ⟨(.call (.lit (.fn (.func 42) [] [])) [(.op 36), (.op 38), (.op 40)]), (some 93), (some ((.op 35), true))⟩), (47, ⟨(.call (.lit (.fn (.func 43) [] [])) [(.op 42), (.op 44), (.op 46)]), (some 99), (some ((.op 35), true))⟩), (48, ⟨(.aop (.bin .eql (.op 41) (.op 47))), (some 100), (some ((.op 35), true))⟩), (49, ⟨(.aop (.pick (.op 35) (.op 48) (.lit (.bool false)))), (some 101), none⟩), (50, ⟨(.aop (.mov (.op 49))), (some 102), none⟩), (51, ⟨(.call (.lit (.fn (.func 27) [] [])) []), (some 103), (some ((.op 50), true))⟩), (52, ⟨(.aop (.pick (.op 50) (.op 51) (.lit (.bool false)))), (some 104), none⟩), (53, ⟨(.aop (.mov (.op 52))), (some 4), none⟩)] [(4, [5]), (20, [23, 25, 27, 29, 31]), (41, [44, 46])] [(some 52), (some 53), (some 54), (some 55), (some 56), (some 57), (some 58), (some 59), (some 60), (some 61), (some 62), (some 63), (some 64), (some 65), (some 66), (some 67), (some 68), (some 69), (some 70), (some 71), (some 72), (some 73), (some 74), (some 75), (some 76), (some 77), (some 78), (some 79), (some 80), (some 81), (some 82), (some 83), (some 84), (some 85), (some 86), (some 87), (some 88), (some 89), (some 90), (some 91), (some 92), (some 93), (some 94), (some 95), (some 96), (some 97), (some 98), (some 99), (some 100), (some 101), (some 102), (some 103), (some 104), (some 4)]) .ret))))))))
theorem comp10 : (V2.compC Tryd.prog 4 Tryd.f10.ntmps (fun _ => false) (Tryd.f10.body.getD .skip), V2.compR Tryd.prog Tryd.f10.results.toList) = (some c10, some [(.tmp 4)]) := by kernel_rfl
theorem body10 : Tryd.f10.body = some (Tryd.f10.body.getD .skip) := by kernel_rfl
theorem cc10 : V2.compC Tryd.prog 4 Tryd.f10.ntmps (fun _ => false) (Tryd.f10.body.getD .skip) = some c10 := (Prod.mk.inj comp10).1
theorem cr10 : V2.compR Tryd.prog Tryd.f10.results.toList = some [(.tmp 4)] := (Prod.mk.inj comp10).2
set_option maxHeartbeats 2000000 in
theorem walk10 {Γ : Gam} (h27 : Has27 Γ) (h38 : Has38 Γ) (h24 : Has24 Γ) (h37 : Has37 Γ) (h39 : Has39 Γ) (h40 : Has40 Γ) (h41 : Has41 Γ) (h42 : Has42 Γ) (h43 : Has43 Γ)
    {σ : AH} {way : Int} {s p c q : Nat} {a0 : AV} {bs : List UInt8} (hs : s < 4294967296) (hp : p < 4294967296) (hc : c < 18446744073709551616) (hq : q < 18446744073709551616) (ha : IsB σ a0 (bI bs)) (hT : Tabs σ) (hsz : σ.next ≤ 900000)
    {K : AV → AH → Prop} (hK : ∀ σ', K (.bool true) σ') :
    avc std Γ 4 105 σ.next c10 (fun e env σ' => (match e with | .normal => True | .ret => True | _ => False) ∧ (resL std env σ' [.tmp 4]).1 = true ∧ K (retV (resL std env σ' [.tmp 4]).2) σ') (envOf [a0, .agg [.int .i64 way, .int .u32 s, .int .u32 p, .int .u64 c, .int .u64 q]] 0 .leaf) σ := by
  have hT' := hT.n
  unfold c10
  refine avc_reg_cons (g_box (v := .agg [.int .i64 way, .int .u32 (s : Nat), .int .u32 (p : Nat), .int .u64 (c : Nat), .int .u64 (q : Nat)]) (o := .cells [.int .i64 way, .int .u32 (s : Nat), .int .u32 (p : Nat), .int .u64 (c : Nat), .int .u64 (q : Nat)] 68 .exact) (by kernel_rfl) rfl (by kernel_rfl) (by omega)) ?_
  dsimp only
  have gr1 : Grown σ (σ.new (.cells [.int .i64 way, .int .u32 (s : Nat), .int .u32 (p : Nat), .int .u64 (c : Nat), .int .u64 (q : Nat)] 68 .exact)) := Grown.new (by omega)
  have hg1 : (σ.new (.cells [.int .i64 way, .int .u32 (s : Nat), .int .u32 (p : Nat), .int .u64 (c : Nat), .int .u64 (q : Nat)] 68 .exact)).get σ.next = some (.cells [.int .i64 way, .int .u32 (s : Nat), .int .u32 (p : Nat), .int .u64 (c : Nat), .int .u64 (q : Nat)] 68 .exact) := get_new (by omega)
  have hx1 : (σ.new (.cells [.int .i64 way, .int .u32 (s : Nat), .int .u32 (p : Nat), .int .u64 (c : Nat), .int .u64 (q : Nat)] 68 .exact)).next = σ.next + 1 := rfl
  generalize σ.new (.cells [.int .i64 way, .int .u32 (s : Nat), .int .u32 (p : Nat), .int .u64 (c : Nat), .int .u64 (q : Nat)] 68 .exact) = σ1 at gr1 hg1 hx1 ⊢
  have ha1 := ha.mono gr1
  refine mv (v := .bool false) (by kernel_rfl) ?_
  refine avc_reg_nil ?_
  refine mv (v := a0) (by kernel_rfl) ?_
  refine mv (v := a0) (by kernel_rfl) ?_
  refine avc_reg_cons (g_lenb (v := a0) (by kernel_rfl) ha1) ?_
  refine avc_reg_cons (g_pur (vs := [.int .i64 ((bI bs).length : Nat), .int .i64 80]) (v := .int .i64 (min ((bI bs).length : Int) 80)) (by kernel_rfl) (min_nat _ 80)) ?_
  obtain ⟨a, ek, hB⟩ := ha1.cut 80
  rw [bI_take] at hB
  have hsl : (bs.take 80).length ≤ 80 := by rw [List.length_take]; omega
  generalize bs.take 80 = sb at hB hsl
  have hIl : (bI sb).length = sb.length := bI_length sb
  refine avc_reg_cons (g_cut (v := a0) (n := min ((bI bs).length : Int) 80) (by kernel_rfl) (by kernel_rfl) ek) ?_
  refine mv (v := a) (by kernel_rfl) ?_
  refine avc_reg_nil ?_
  refine mv (v := a) (by kernel_rfl) ?_
  obtain ⟨ra, hra, _, hra3⟩ := hB.row
  obtain ⟨ov, σ2, x2, hA2, kp2, nx2, ny2⟩ := (IsA.nil (N := σ1.next) (σ := σ1)).app (str := false) (x := a) (m := bI sb) (r := ra) (by omega) (Nat.le_refl _) hra hra3 (by simp only [List.length_nil]; omega)
  rw [List.nil_append] at hA2
  have gr2 : Grown σ1 σ2 := ⟨nx2, kp2⟩
  refine avc_reg_cons (g_ext (vs := [.nilsl, a]) (by kernel_rfl) x2) ?_
  refine mv (v := ov) (by kernel_rfl) ?_
  refine avc_reg_nil ?_
  obtain ⟨rv, σ3, e37, gr3, nx3, hno, hyes⟩ := h37 ov sb σ2 hA2.isB (by omega)
  obtain ⟨pv, en, hrv⟩ : ∃ (pv : AV) (en : Int), rv = .tup [pv, .int .i64 en] := by
    cases hm : mayB sb with
    | false => exact ⟨_, _, hno hm⟩
    | true => obtain ⟨r, kb, h, _⟩ := hyes hm; exact ⟨_, _, h⟩
  subst hrv
  refine mv (v := ov) (by kernel_rfl) ?_
  refine avc_reg_cons (g_call (n := 37) (vs := [ov]) (by kernel_rfl) (by kernel_rfl) e37) ?_
  refine mv (v := .tup [pv, .int .i64 en]) (by kernel_rfl) ?_
  refine avc_reg_cons (g_ext1 (l := [pv, .int .i64 en]) (v := pv) (by kernel_rfl) rfl) ?_
  refine avc_reg_cons (g_ext1 (l := [pv, .int .i64 en]) (v := .int .i64 en) (by kernel_rfl) rfl) ?_
  refine mv (v := pv) (by kernel_rfl) ?_
  refine mv (v := .int .i64 en) (by kernel_rfl) ?_
  refine avc_reg_nil ?_
  refine avc_seq_seq ?_
  refine mv (v := ov) (by kernel_rfl) ?_
  refine avc_reg_cons (g_lenb (v := ov) (by kernel_rfl) (hA2.mono gr3).isB) ?_
  refine mv (v := .int .i64 0) (by kernel_rfl) ?_
  refine avc_reg_nil ?_
  have gr13 := gr2.trans gr3
  refine avc_seq_block (avc_loop (fun env σ' => ∃ (i : Nat) (l : List Int), i ≤ (bI sb).length ∧ env = ofL [(0, a), (3, .ptr σ.next 0), (5, ov), (6, pv), (7, .int .i64 en), (24, .int .i64 ((bI sb).length : Nat)), (25, .int .i64 (i : Nat))] ∧ l.length = (bI sb).length ∧ IsA σ1.next σ' ov l ∧ σ'.next = σ3.next ∧ ∀ m, (∀ o n c e z, ov ≠ .sl m o n c e z) → σ'.get m = σ3.get m) (fun env _ => ((bI sb).length - intAt env 25).toNat)
    (Wk.env (l := [(0, a), (3, .ptr σ.next 0), (5, ov), (6, pv), (7, .int .i64 en), (24, .int .i64 ((bI sb).length : Nat)), (25, .int .i64 (0 : Nat))]) ⟨⟨by kernel_rfl, rfl⟩, ⟨by kernel_rfl, rfl⟩, ⟨by kernel_rfl, rfl⟩, ⟨by kernel_rfl, rfl⟩, ⟨by kernel_rfl, rfl⟩, ⟨by kernel_rfl, rfl⟩, ⟨by kernel_rfl, rfl⟩, trivial⟩ (by have := gr13.next; omega)) ⟨0, bI sb, Nat.zero_le _, rfl, rfl, hA2.mono gr3, rfl, fun _ _ => rfl⟩ ?_)
  rintro env σ4 ⟨i, l, hi, rfl, hll, hA4, hx4, kp4⟩
  refine avc_reg_cons (g_bin (op := .lss) (k := .i64) (k' := .i64) (a := (i : Nat)) (b := ((bI sb).length : Nat)) (v := .bool (decide ((i : Int) < ((bI sb).length : Nat)))) (by kernel_rfl) (by kernel_rfl) rfl (rfl)) ?_
  refine avc_reg_nil ?_
  refine avc_seq_cond (t := decide ((i : Int) < ((bI sb).length : Nat))) (by kernel_rfl) (fun ht => ?_) (fun ht => ?_)
  · have hil : i < (bI sb).length := by simp at ht; omega
    obtain ⟨b5, c5, e5, t5, q5, hN5, hb5, g5, r5, k5⟩ : ∃ b c e tl, ov = .sl b 0 l.length c e 1 ∧ σ1.next ≤ b ∧ b < σ4.next ∧ σ4.get b = some (.ints .u8 l 5 tl) ∧ tl.isRo = false ∧ l.length ≤ c := by
      cases hA4 with
      | nil => simp at hll; omega
      | sl b c ex l tl hN hb hg ht hk => exact ⟨b, c, ex, tl, rfl, hN, hb, hg, ht, hk⟩
    refine avc_seq_skip (avc_seq_block ?_)
    refine mv (v := .int .i64 (i : Nat)) (by kernel_rfl) ?_
    refine mv (v := .int .i64 (i : Nat)) (by kernel_rfl) ?_
    refine avc_reg_nil ?_
    refine mv1 (v := ov) (by kernel_rfl) ?_
    refine mv1 (v := .int .i64 (i : Nat)) (by kernel_rfl) ?_
    refine avc_one_cons (g_idxSl (b := b5) (o := 0) (n := l.length) (c := c5) (e := e5) (z := 1) (k := .i64) (m := i) (Eq.trans (b := ov) (by kernel_rfl) q5) (by kernel_rfl) (by omega)) ?_
    refine avc_one_cons (g_load1 (b := b5) (off := 0 + i * 1) (v := .int .u8 (l.getD (0 + i * 1) 0)) (o := .ints .u8 l 5 t5) (by kernel_rfl) g5 (by show Nat.blt (0 + i * 1) l.length = true; rw [Nat.blt_eq]; omega) rfl) ?_
    refine avc_one_cons (g_bin (op := .add) (k := .u8) (k' := .u8) (a := (l.getD (0 + i * 1) 0)) (b := 1) (v := .int .u8 (wr .u8 (l.getD (0 + i * 1) 0 + 1))) (by kernel_rfl) (by kernel_rfl) rfl (rfl)) ?_
    refine avc_one_cons (g_idxSl (b := b5) (o := 0) (n := l.length) (c := c5) (e := e5) (z := 1) (k := .i64) (m := i) (Eq.trans (b := ov) (by kernel_rfl) q5) (by kernel_rfl) (by omega)) ?_
    have hb6 : b5 < 1000000 := by omega
    have hw5 : AObj.writeOk std (.ints .u8 l 5 t5) (0 + i * 1) (.int .u8 (wr .u8 (l.getD (0 + i * 1) 0 + 1))) = true := by
      have h : Nat.blt (0 + i * 1) l.length = true := by rw [Nat.blt_eq]; omega
      simp [AObj.writeOk, r5, std]; omega
    refine avc_one_cons (g_store (b := b5) (off := 0 + i * 1) (v := .int .u8 (wr .u8 (l.getD (0 + i * 1) 0 + 1))) (by kernel_rfl) (by kernel_rfl) g5 hw5 rfl) ?_
    refine avc_one_nil ?_
    refine k_bseq ?_
    refine avc_one_cons (g_bin (op := .add) (k := .i64) (k' := .i64) (a := (i : Nat)) (b := 1) (v := .int .i64 ((i + 1 : Nat) : Int)) (by kernel_rfl) (by kernel_rfl) rfl (b_add (wr_i64 (n := i + 1) (by omega)))) ?_
    refine mv1 (v := .int .i64 ((i + 1 : Nat) : Int)) (by kernel_rfl) ?_
    refine avc_one_nil ?_
    refine ⟨_, _, Wk.env (l := [(0, a), (3, .ptr σ.next 0), (5, ov), (6, pv), (7, .int .i64 en), (24, .int .i64 ((bI sb).length : Nat)), (25, .int .i64 ((i + 1) : Nat))]) ⟨⟨by kernel_rfl, rfl⟩, ⟨by kernel_rfl, rfl⟩, ⟨by kernel_rfl, rfl⟩, ⟨by kernel_rfl, rfl⟩, ⟨by kernel_rfl, rfl⟩, ⟨by kernel_rfl, rfl⟩, ⟨by kernel_rfl, rfl⟩, trivial⟩ (by have := gr13.next; show σ.next ≤ σ4.next; omega), ⟨i + 1, l.set (0 + i * 1) (wr .u8 (l.getD (0 + i * 1) 0 + 1)), hil, rfl, by rw [List.length_set]; exact hll, ?_, hx4, fun m hm => ?_⟩, ?_⟩
    · have e : l.length = (l.set (0 + i * 1) (wr .u8 (l.getD (0 + i * 1) 0 + 1))).length := by rw [List.length_set]
      rw [q5, e]
      exact .sl b5 c5 e5 _ t5 hN5 hb5 (by rw [get_put hb6, if_pos rfl]; rfl) r5 (by rw [List.length_set]; exact k5)
    · rw [get_put hb6, if_neg (by rintro rfl; exact hm _ _ _ _ _ q5)]; exact kp4 m hm
    · rw [intAt_of (k := .i64) (n := ((i + 1 : Nat) : Int)) (by kernel_rfl), intAt_of (k := .i64) (n := (i : Int)) (by kernel_rfl)]
      omega
  · have hil : i = (bI sb).length := by simp at ht; omega
    clear ht hi
    subst hil
    refine avc_seq_exit (k_sexit (k_exit ?_))
    have kpN : ∀ m, m < σ1.next → σ4.get m = σ1.get m := fun m hm => by
      rw [kp4 m fun o n c e z h => by have := hA2.lt h; omega]
      exact gr13.get m hm
    have gr14 : Grown σ1 σ4 := ⟨by have := gr13.next; omega, kpN⟩
    have gr4 := gr1.trans gr14
    have hB4 := hB.mono gr14
    have hT4 := hT.mono gr4
    have hg4 : σ4.get σ.next = some (.cells [.int .i64 way, .int .u32 (s : Nat), .int .u32 (p : Nat), .int .u64 (c : Nat), .int .u64 (q : Nat)] 68 .exact) := by rw [kpN _ (by omega)]; exact hg1
    have hnx4 : σ4.next ≤ σ.next + 4 := by omega
    cases hmay : mayB sb
    · have hv := hno hmay
      simp only [AV.tup.injEq, List.cons.injEq, AV.int.injEq, true_and, and_true] at hv
      obtain ⟨rfl, rfl⟩ := hv
      refine avc_seq_seq ?_
      refine mv (v := a) (by kernel_rfl) ?_
      refine avc_reg_cons (g_call (n := 38) (vs := [a]) (by kernel_rfl) (by kernel_rfl) ((h38 a sb σ4 hB4).trans (by rw [show (decide (0 < sb.length) && decide (sb.length ≤ 64)) = mayB sb from rfl, hmay]))) ?_
      refine avc_reg_cons (g_not (b := false) (c := true) (by kernel_rfl) rfl) ?_
      refine avc_reg_nil ?_
      refine avc_seq_cond (t := true) (by kernel_rfl) (fun _ => avc_seq_seq ?_) (fun h => by cases h)
      refine mv (v := .int .i64 1) (by kernel_rfl) ?_
      refine avc_reg_cons (g_bin (op := .eql) (k := .i64) (k' := .i64) (a := 1) (b := 1) (v := .bool true) (by kernel_rfl) (by kernel_rfl) rfl (b_eq rfl)) ?_
      refine mv (v := .bool true) (by kernel_rfl) ?_
      refine avc_reg_cons (g_if (by kernel_rfl) (g_mov (v := .nilptr) (by kernel_rfl))) ?_
      refine avc_reg_cons (g_if (by kernel_rfl) (g_pur (vs := [.nilptr, .nilptr]) (v := .bool true) (by kernel_rfl) (by kernel_rfl))) ?_
      refine avc_reg_cons (g_pick (v := .bool true) (by kernel_rfl) (by kernel_rfl)) ?_
      refine mv (v := .bool true) (by kernel_rfl) ?_
      refine avc_reg_cons (g_if (by kernel_rfl) (g_call (n := 27) (vs := []) (by kernel_rfl) rfl (h27 σ4 hT4))) ?_
      refine avc_reg_cons (g_pick (v := .bool true) (by kernel_rfl) (by kernel_rfl)) ?_
      refine mv (v := .bool true) (by kernel_rfl) ?_
      refine avc_reg_nil ?_
      refine avc_seq_ret (fin_ok (vs := [.bool true]) (by kernel_rfl) (hK σ4))
    · obtain ⟨rb, kb, hv, hrg, hr1, hr2, hkA⟩ := hyes hmay
      simp only [AV.tup.injEq, List.cons.injEq, AV.int.injEq, true_and, and_true] at hv
      obtain ⟨rfl, rfl⟩ := hv
      have hR : RingV σ4 rb sb := by
        have hkeep : ∀ m, σ2.next ≤ m → σ4.get m = σ3.get m := fun m hm => kp4 m fun o n c e z h => by have := hA2.lt h; omega
        refine ⟨kb, by rw [hkeep rb hr1]; exact hrg, ?_⟩
        generalize bI sb = w at hkA ⊢
        cases hkA with
        | nil => exact .nil
        | sl b c ex l tl hN hb hg ht hk => exact .sl b 0 _ c ex _ _ 5 tl (by omega) (by rw [hkeep b hN]; exact hg) (by omega) hk (by simp)
      refine avc_seq_seq ?_
      refine mv (v := a) (by kernel_rfl) ?_
      refine avc_reg_cons (g_call (n := 38) (vs := [a]) (by kernel_rfl) (by kernel_rfl) ((h38 a sb σ4 hB4).trans (by rw [show (decide (0 < sb.length) && decide (sb.length ≤ 64)) = mayB sb from rfl, hmay]))) ?_
      refine avc_reg_cons (g_not (b := true) (c := false) (by kernel_rfl) rfl) ?_
      refine avc_reg_nil ?_
      refine avc_seq_cond (t := false) (by kernel_rfl) (fun h => by cases h) (fun _ => avc_seq_skip ?_)
      obtain ⟨H, hH⟩ : ∃ H, H = hmB sb (layB helloB []) := ⟨_, rfl⟩
      have hHI : (bI H).length = 32 := by rw [bI_length, hH]; exact hmB_length _ _
      obtain ⟨Y, hY, hYl⟩ := wayV_form sb way s p c q
      have hYI : (bI Y).length = 32 := by rw [bI_length]; exact hYl
      refine mv (v := a) (by kernel_rfl) ?_
      refine avc_reg_cons (g_call (n := 24) (vs := [a, .str helloB, .nilsl]) (by kernel_rfl) (by kernel_rfl) ((h24 sb helloB [] a .nilsl σ4 hB4 .nil (by omega) (by decide) (by decide) (by decide) hT4 (by omega)).trans (by rw [derV, hmay, cond_true, ← hH]))) ?_
      refine mv (v := .tup [.ints .u8 (bI H), .int .i64 0]) (by kernel_rfl) ?_
      refine avc_reg_cons (g_ext1 (l := [.ints .u8 (bI H), .int .i64 0]) (v := .ints .u8 (bI H)) (by kernel_rfl) rfl) ?_
      refine avc_reg_cons (g_ext1 (l := [.ints .u8 (bI H), .int .i64 0]) (v := .int .i64 0) (by kernel_rfl) rfl) ?_
      refine avc_reg_cons (g_alloc (o := .ints .u8 Z32 23 .exact) (by kernel_rfl) (by omega)) ?_
      dsimp only
      have gr5 : Grown σ4 (σ4.new (.ints .u8 Z32 23 .exact)) := Grown.new (by omega)
      have hg5 : (σ4.new (.ints .u8 Z32 23 .exact)).get σ4.next = some (.ints .u8 Z32 23 .exact) := get_new (by omega)
      have hx5 : (σ4.new (.ints .u8 Z32 23 .exact)).next = σ4.next + 1 := rfl
      generalize σ4.new (.ints .u8 Z32 23 .exact) = σ5 at gr5 hg5 hx5 ⊢
      refine avc_reg_cons (g_storeAll (b := σ4.next) (m := bI H) (by kernel_rfl) (by kernel_rfl) hg5 rfl hHI) ?_
      dsimp only
      have gr6 : Grown σ4 (σ5.put σ4.next (.ints .u8 (bI H) 23 .exact)) := gr5.put (by omega) (by omega)
      have hg6 : (σ5.put σ4.next (.ints .u8 (bI H) 23 .exact)).get σ4.next = some (.ints .u8 (bI H) 23 .exact) := by rw [get_put (by omega), if_pos rfl]
      have hx6 : (σ5.put σ4.next (.ints .u8 (bI H) 23 .exact)).next = σ5.next := rfl
      generalize σ5.put σ4.next (.ints .u8 (bI H) 23 .exact) = σ6 at gr6 hg6 hx6 ⊢
      have hB6 := hB4.mono gr6
      have hT6 := hT4.mono gr6
      have hR6 := hR.mono (by omega) gr6
      have hs6 : σ6.get σ.next = some (.cells [.int .i64 way, .int .u32 (s : Nat), .int .u32 (p : Nat), .int .u64 (c : Nat), .int .u64 (q : Nat)] 68 .exact) := by rw [gr6.get _ (by have := gr14.next; omega)]; exact hg4
      refine mv (v := .int .i64 0) (by kernel_rfl) ?_
      refine avc_reg_nil ?_
      refine avc_evg ?_
      refine evg_cons (g_mov (v := .int .i64 0) (by kernel_rfl)) rfl ?_
      refine evg_cons (g_bin (op := .eql) (k := .i64) (k' := .i64) (a := 0) (b := 0) (v := .bool true) (by kernel_rfl) (by kernel_rfl) rfl (b_eq rfl)) rfl ?_
      refine evg_cons (g_mov (v := .bool true) (by kernel_rfl)) rfl ?_
      refine evg_cons (g_if (by kernel_rfl) (g_mov (v := .ptr rb 0) (by kernel_rfl))) rfl ?_
      refine evg_cons (g_if (by kernel_rfl) (g_loadAll (b := σ4.next) (by kernel_rfl) hg6 hHI)) rfl ?_
      refine evg_cons (g_if (by kernel_rfl) (g_call (n := 39) (vs := [.ptr rb 0]) (by kernel_rfl) (by kernel_rfl) ((h39 σ6 rb sb hR6 hmay hT6).trans (by rw [helV, ← hH])))) (rechk_cons (q := (5, ⟨(.aop (.loadN 32 (.slot 9))), (some 57), (some ((.op 2), true))⟩)) (v := .ints .u8 (bI H)) (by kernel_rfl) (g_if (by kernel_rfl) (g_loadAll (b := σ4.next) (by kernel_rfl) hg6 hHI)) (by kernel_rfl) (same_refl rfl) rfl) ?_
      refine evg_cons (g_if (by kernel_rfl) (g_pur (vs := [.ints .u8 (bI H), .ints .u8 (bI H)]) (v := .bool true) (by kernel_rfl) (eq_u8 (bI H) K32 rfl hHI))) rfl ?_
      refine evg_cons (g_pick (v := .bool true) (by kernel_rfl) (by kernel_rfl)) rfl ?_
      refine evg_cons (g_mov (v := .bool true) (by kernel_rfl)) rfl ?_
      refine evg_cons (g_if (by kernel_rfl) (g_mov (v := .ptr rb 0) (by kernel_rfl))) rfl ?_
      refine evg_cons (g_if (by kernel_rfl) (g_field (b := σ.next) (o := 0) (by kernel_rfl))) rfl ?_
      refine evg_cons (g_if (by kernel_rfl) (g_load1 (b := σ.next) (off := 0 + 0) (v := .int .i64 way) (o := .cells [.int .i64 way, .int .u32 (s : Nat), .int .u32 (p : Nat), .int .u64 (c : Nat), .int .u64 (q : Nat)] 68 .exact) (by kernel_rfl) hs6 (by kernel_rfl) (by kernel_rfl))) rfl ?_
      refine evg_cons (g_if (by kernel_rfl) (g_field (b := σ.next) (o := 0) (by kernel_rfl))) rfl ?_
      refine evg_cons (g_if (by kernel_rfl) (g_load1 (b := σ.next) (off := 0 + 1) (v := .int .u32 (s : Nat)) (o := .cells [.int .i64 way, .int .u32 (s : Nat), .int .u32 (p : Nat), .int .u64 (c : Nat), .int .u64 (q : Nat)] 68 .exact) (by kernel_rfl) hs6 (by kernel_rfl) (by kernel_rfl))) rfl ?_
      refine evg_cons (g_if (by kernel_rfl) (g_field (b := σ.next) (o := 0) (by kernel_rfl))) rfl ?_
      refine evg_cons (g_if (by kernel_rfl) (g_load1 (b := σ.next) (off := 0 + 2) (v := .int .u32 (p : Nat)) (o := .cells [.int .i64 way, .int .u32 (s : Nat), .int .u32 (p : Nat), .int .u64 (c : Nat), .int .u64 (q : Nat)] 68 .exact) (by kernel_rfl) hs6 (by kernel_rfl) (by kernel_rfl))) rfl ?_
      refine evg_cons (g_if (by kernel_rfl) (g_field (b := σ.next) (o := 0) (by kernel_rfl))) rfl ?_
      refine evg_cons (g_if (by kernel_rfl) (g_load1 (b := σ.next) (off := 0 + 3) (v := .int .u64 (c : Nat)) (o := .cells [.int .i64 way, .int .u32 (s : Nat), .int .u32 (p : Nat), .int .u64 (c : Nat), .int .u64 (q : Nat)] 68 .exact) (by kernel_rfl) hs6 (by kernel_rfl) (by kernel_rfl))) rfl ?_
      refine evg_cons (g_if (by kernel_rfl) (g_field (b := σ.next) (o := 0) (by kernel_rfl))) rfl ?_
      refine evg_cons (g_if (by kernel_rfl) (g_load1 (b := σ.next) (off := 0 + 4) (v := .int .u64 (q : Nat)) (o := .cells [.int .i64 way, .int .u32 (s : Nat), .int .u32 (p : Nat), .int .u64 (c : Nat), .int .u64 (q : Nat)] 68 .exact) (by kernel_rfl) hs6 (by kernel_rfl) (by kernel_rfl))) rfl ?_
      refine evg_cons (g_if (by kernel_rfl) (g_mov (v := a) (by kernel_rfl))) rfl ?_
      refine evg_cons (g_if (by kernel_rfl) (g_field (b := σ.next) (o := 0) (by kernel_rfl))) rfl ?_
      refine evg_cons (g_if (by kernel_rfl) (g_load1 (b := σ.next) (off := 0 + 0) (v := .int .i64 way) (o := .cells [.int .i64 way, .int .u32 (s : Nat), .int .u32 (p : Nat), .int .u64 (c : Nat), .int .u64 (q : Nat)] 68 .exact) (by kernel_rfl) hs6 (by kernel_rfl) (by kernel_rfl))) rfl ?_
      refine evg_cons (g_if (by kernel_rfl) (g_field (b := σ.next) (o := 0) (by kernel_rfl))) rfl ?_
      refine evg_cons (g_if (by kernel_rfl) (g_load1 (b := σ.next) (off := 0 + 1) (v := .int .u32 (s : Nat)) (o := .cells [.int .i64 way, .int .u32 (s : Nat), .int .u32 (p : Nat), .int .u64 (c : Nat), .int .u64 (q : Nat)] 68 .exact) (by kernel_rfl) hs6 (by kernel_rfl) (by kernel_rfl))) rfl ?_
      refine evg_cons (g_if (by kernel_rfl) (g_field (b := σ.next) (o := 0) (by kernel_rfl))) rfl ?_
      refine evg_cons (g_if (by kernel_rfl) (g_load1 (b := σ.next) (off := 0 + 2) (v := .int .u32 (p : Nat)) (o := .cells [.int .i64 way, .int .u32 (s : Nat), .int .u32 (p : Nat), .int .u64 (c : Nat), .int .u64 (q : Nat)] 68 .exact) (by kernel_rfl) hs6 (by kernel_rfl) (by kernel_rfl))) rfl ?_
      refine evg_cons (g_if (by kernel_rfl) (g_field (b := σ.next) (o := 0) (by kernel_rfl))) rfl ?_
      refine evg_cons (g_if (by kernel_rfl) (g_load1 (b := σ.next) (off := 0 + 3) (v := .int .u64 (c : Nat)) (o := .cells [.int .i64 way, .int .u32 (s : Nat), .int .u32 (p : Nat), .int .u64 (c : Nat), .int .u64 (q : Nat)] 68 .exact) (by kernel_rfl) hs6 (by kernel_rfl) (by kernel_rfl))) rfl ?_
      refine evg_cons (g_if (by kernel_rfl) (g_field (b := σ.next) (o := 0) (by kernel_rfl))) rfl ?_
      refine evg_cons (g_if (by kernel_rfl) (g_load1 (b := σ.next) (off := 0 + 4) (v := .int .u64 (q : Nat)) (o := .cells [.int .i64 way, .int .u32 (s : Nat), .int .u32 (p : Nat), .int .u64 (c : Nat), .int .u64 (q : Nat)] 68 .exact) (by kernel_rfl) hs6 (by kernel_rfl) (by kernel_rfl))) rfl ?_
      refine evg_cons (g_if (by kernel_rfl) (g_call (n := 40) (vs := [.ptr rb 0, .int .i64 way, .int .u32 s, .int .u32 p, .int .u64 c, .int .u64 q]) (by kernel_rfl) (by kernel_rfl) ((h40 σ6 rb way s p c q sb hs hp hc hq hR6 hmay hT6).trans (by rw [hY])))) (rechk_cons (q := (23, ⟨(.aop (.load1 (.op 22))), (some 75), (some ((.op 8), true))⟩)) (v := .int .i64 way) (by kernel_rfl) (g_if (by kernel_rfl) (g_load1 (b := σ.next) (off := 0 + 0) (v := .int .i64 way) (o := .cells [.int .i64 way, .int .u32 (s : Nat), .int .u32 (p : Nat), .int .u64 (c : Nat), .int .u64 (q : Nat)] 68 .exact) (by kernel_rfl) hs6 (by kernel_rfl) (by kernel_rfl))) (by kernel_rfl) (same_refl rfl) (rechk_cons (q := (25, ⟨(.aop (.load1 (.op 24))), (some 77), (some ((.op 8), true))⟩)) (v := .int .u32 (s : Nat)) (by kernel_rfl) (g_if (by kernel_rfl) (g_load1 (b := σ.next) (off := 0 + 1) (v := .int .u32 (s : Nat)) (o := .cells [.int .i64 way, .int .u32 (s : Nat), .int .u32 (p : Nat), .int .u64 (c : Nat), .int .u64 (q : Nat)] 68 .exact) (by kernel_rfl) hs6 (by kernel_rfl) (by kernel_rfl))) (by kernel_rfl) (same_refl rfl) (rechk_cons (q := (27, ⟨(.aop (.load1 (.op 26))), (some 79), (some ((.op 8), true))⟩)) (v := .int .u32 (p : Nat)) (by kernel_rfl) (g_if (by kernel_rfl) (g_load1 (b := σ.next) (off := 0 + 2) (v := .int .u32 (p : Nat)) (o := .cells [.int .i64 way, .int .u32 (s : Nat), .int .u32 (p : Nat), .int .u64 (c : Nat), .int .u64 (q : Nat)] 68 .exact) (by kernel_rfl) hs6 (by kernel_rfl) (by kernel_rfl))) (by kernel_rfl) (same_refl rfl) (rechk_cons (q := (29, ⟨(.aop (.load1 (.op 28))), (some 81), (some ((.op 8), true))⟩)) (v := .int .u64 (c : Nat)) (by kernel_rfl) (g_if (by kernel_rfl) (g_load1 (b := σ.next) (off := 0 + 3) (v := .int .u64 (c : Nat)) (o := .cells [.int .i64 way, .int .u32 (s : Nat), .int .u32 (p : Nat), .int .u64 (c : Nat), .int .u64 (q : Nat)] 68 .exact) (by kernel_rfl) hs6 (by kernel_rfl) (by kernel_rfl))) (by kernel_rfl) (same_refl rfl) (rechk_cons (q := (31, ⟨(.aop (.load1 (.op 30))), (some 83), (some ((.op 8), true))⟩)) (v := .int .u64 (q : Nat)) (by kernel_rfl) (g_if (by kernel_rfl) (g_load1 (b := σ.next) (off := 0 + 4) (v := .int .u64 (q : Nat)) (o := .cells [.int .i64 way, .int .u32 (s : Nat), .int .u32 (p : Nat), .int .u64 (c : Nat), .int .u64 (q : Nat)] 68 .exact) (by kernel_rfl) hs6 (by kernel_rfl) (by kernel_rfl))) (by kernel_rfl) (same_refl rfl) rfl))))) ?_
      refine evg_cons (g_if (by kernel_rfl) (g_call (n := 41) (vs := [a, .int .i64 way, .int .u32 s, .int .u32 p, .int .u64 c, .int .u64 q]) (by kernel_rfl) (by kernel_rfl) ((h41 σ6 way s p c q a sb hs hp hc hq hB6 hmay hT6 (by omega)).trans (by rw [hY])))) rfl ?_
      refine evg_cons (g_if (by kernel_rfl) (g_pur (vs := [.ints .u8 (bI Y), .ints .u8 (bI Y)]) (v := .bool true) (by kernel_rfl) (eq_u8 (bI Y) K32 rfl hYI))) rfl ?_
      refine evg_cons (g_pick (v := .bool true) (by kernel_rfl) (by kernel_rfl)) rfl ?_
      refine evg_cons (g_mov (v := .bool true) (by kernel_rfl)) rfl ?_
      refine evg_cons (g_if (by kernel_rfl) (g_mov (v := .ptr rb 0) (by kernel_rfl))) rfl ?_
      refine evg_cons (g_if (by kernel_rfl) (g_field (b := σ.next) (o := 0) (by kernel_rfl))) rfl ?_
      refine evg_cons (g_if (by kernel_rfl) (g_load1 (b := σ.next) (off := 0 + 1) (v := .int .u32 (s : Nat)) (o := .cells [.int .i64 way, .int .u32 (s : Nat), .int .u32 (p : Nat), .int .u64 (c : Nat), .int .u64 (q : Nat)] 68 .exact) (by kernel_rfl) hs6 (by kernel_rfl) (by kernel_rfl))) rfl ?_
      refine evg_cons (g_if (by kernel_rfl) (g_field (b := σ.next) (o := 0) (by kernel_rfl))) rfl ?_
      refine evg_cons (g_if (by kernel_rfl) (g_load1 (b := σ.next) (off := 0 + 2) (v := .int .u32 (p : Nat)) (o := .cells [.int .i64 way, .int .u32 (s : Nat), .int .u32 (p : Nat), .int .u64 (c : Nat), .int .u64 (q : Nat)] 68 .exact) (by kernel_rfl) hs6 (by kernel_rfl) (by kernel_rfl))) rfl ?_
      refine evg_cons (g_if (by kernel_rfl) (g_mov (v := a) (by kernel_rfl))) rfl ?_
      refine evg_cons (g_if (by kernel_rfl) (g_field (b := σ.next) (o := 0) (by kernel_rfl))) rfl ?_
      refine evg_cons (g_if (by kernel_rfl) (g_load1 (b := σ.next) (off := 0 + 1) (v := .int .u32 (s : Nat)) (o := .cells [.int .i64 way, .int .u32 (s : Nat), .int .u32 (p : Nat), .int .u64 (c : Nat), .int .u64 (q : Nat)] 68 .exact) (by kernel_rfl) hs6 (by kernel_rfl) (by kernel_rfl))) rfl ?_
      refine evg_cons (g_if (by kernel_rfl) (g_field (b := σ.next) (o := 0) (by kernel_rfl))) rfl ?_
      refine evg_cons (g_if (by kernel_rfl) (g_load1 (b := σ.next) (off := 0 + 2) (v := .int .u32 (p : Nat)) (o := .cells [.int .i64 way, .int .u32 (s : Nat), .int .u32 (p : Nat), .int .u64 (c : Nat), .int .u64 (q : Nat)] 68 .exact) (by kernel_rfl) hs6 (by kernel_rfl) (by kernel_rfl))) rfl ?_
      refine evg_cons (g_if (by kernel_rfl) (g_call (n := 42) (vs := [.ptr rb 0, .int .u32 s, .int .u32 p]) (by kernel_rfl) (by kernel_rfl) (h42 σ6 rb s p sb hs hp hR6 hmay hT6))) (rechk_cons (q := (44, ⟨(.aop (.load1 (.op 43))), (some 96), (some ((.op 35), true))⟩)) (v := .int .u32 (s : Nat)) (by kernel_rfl) (g_if (by kernel_rfl) (g_load1 (b := σ.next) (off := 0 + 1) (v := .int .u32 (s : Nat)) (o := .cells [.int .i64 way, .int .u32 (s : Nat), .int .u32 (p : Nat), .int .u64 (c : Nat), .int .u64 (q : Nat)] 68 .exact) (by kernel_rfl) hs6 (by kernel_rfl) (by kernel_rfl))) (by kernel_rfl) (same_refl rfl) (rechk_cons (q := (46, ⟨(.aop (.load1 (.op 45))), (some 98), (some ((.op 35), true))⟩)) (v := .int .u32 (p : Nat)) (by kernel_rfl) (g_if (by kernel_rfl) (g_load1 (b := σ.next) (off := 0 + 2) (v := .int .u32 (p : Nat)) (o := .cells [.int .i64 way, .int .u32 (s : Nat), .int .u32 (p : Nat), .int .u64 (c : Nat), .int .u64 (q : Nat)] 68 .exact) (by kernel_rfl) hs6 (by kernel_rfl) (by kernel_rfl))) (by kernel_rfl) (same_refl rfl) rfl)) ?_
      refine evg_cons (g_if (by kernel_rfl) (g_call (n := 43) (vs := [a, .int .u32 s, .int .u32 p]) (by kernel_rfl) (by kernel_rfl) (h43 σ6 s p a sb hs hp hB6 hmay hT6 (by omega)))) rfl ?_
      refine evg_cons (g_if (by kernel_rfl) (g_bin (op := .eql) (k := .u64) (k' := .u64) (a := (num (hmB (hmB sb (layB tokenB [])) (be4 s ++ be4 p)) 8 : Nat)) (b := (num (hmB (hmB sb (layB tokenB [])) (be4 s ++ be4 p)) 8 : Nat)) (v := .bool true) (by kernel_rfl) (by kernel_rfl) rfl (b_eq rfl))) rfl ?_
      refine evg_cons (g_pick (v := .bool true) (by kernel_rfl) (by kernel_rfl)) rfl ?_
      refine evg_cons (g_mov (v := .bool true) (by kernel_rfl)) rfl ?_
      refine evg_cons (g_if (by kernel_rfl) (g_call (n := 27) (vs := []) (by kernel_rfl) rfl (h27 σ6 hT6))) rfl ?_
      refine evg_cons (g_pick (v := .bool true) (by kernel_rfl) (by kernel_rfl)) rfl ?_
      refine evg_cons (g_mov (v := .bool true) (by kernel_rfl)) rfl ?_
      refine evg_nil ?_
      refine fin_ok (vs := [.bool true]) (by kernel_rfl) (hK σ6)
end Go.Proofs.YtjkicmlelilcaaaDoor.V2
namespace Go.Proofs.YtjkicmlelilcaaaDoor.V2
open Go
open Go.RowKit
theorem IsP.uniq {σ : AH} {v : AV} {ps ps' : List (List UInt8)} (h : IsP σ v ps) (h' : IsP σ v ps') : ps = ps' := by
  cases h with
  | nil => cases h'; rfl
  | sl b o n c ex m e tl ps hb hg hn hk h1 hl he =>
    cases h' with
    | sl b o n c ex m' e' tl' ps' hb' hg' hn' hk' h1' hl' he' =>
      rw [hg] at hg'
      cases hg'
      refine List.ext_getElem (by omega) fun j hj hj' => ?_
      obtain ⟨a, k1, k2⟩ := he j (by omega)
      obtain ⟨a', k1', k2'⟩ := he' j (by omega)
      rw [k1] at k1'
      cases k1'
      have := k2.uniqB k2'
      rw [atP_get (List.getElem?_eq_getElem hj), atP_get (List.getElem?_eq_getElem hj')] at this
      exact this
theorem int_nat {a b : Nat} {k : IntKind} (h : AV.int k a = AV.int k b) : a = b := by
  have := (AV.int.inj h).2
  omega
section
variable {Γ : Gam} {f : FuncId}
theorem pure_call {S : List AV → AH → AV → Prop} {args : List AV} {σ : AH} {v : AV} (h : Γ f = relG fun args σ v σ' => S args σ v ∧ σ' = σ) (hs : S args σ v) (hu : ∀ v1, S args σ v1 → v1 = v) : Γ f args σ = (true, v, σ) := by
  rw [h]
  exact relG_eq ⟨hs, rfl⟩ fun v1 σ1 ⟨h1, h2⟩ => ⟨hu v1 h1, h2⟩
theorem has61_of (h : Γ 61 = relG S61) : Has61 Γ := fun n m σ h1 h2 h3 => by
  rw [h]
  have hs : S61 [.int .u64 n, .int .i64 m] σ (.sl σ.next 0 m m true 1) (σ.new (.ints .u8 (bI (numL n m)) 5 .exact)) := ⟨n, m, rfl, h1, h2, h3, rfl, rfl⟩
  exact relG_eq hs fun v1 σ1 h' => hs.uniq h'
theorem has60_of (h : Γ 60 = relG S60) : Has60 Γ := has60 fun args σ v σ' hs => by
  rw [h]; exact relG_eq hs fun v1 σ1 h' => hs.uniq h'
theorem has38_of (h : Γ 38 = relG fun args σ v σ' => S38 args σ v ∧ σ' = σ) : Has38 Γ := fun k bs σ hk => pure_call h ⟨k, bs, rfl, hk, rfl⟩ fun v1 ⟨k', bs', e, hk', e'⟩ => by
  cases e
  rw [e', hk.uniqB hk']
theorem has57_of (h : Γ 57 = relG fun args σ v σ' => S57 args σ v ∧ σ' = σ) : Has57 Γ := fun k bs σ hk => pure_call h ⟨k, bs, rfl, hk, rfl⟩ fun v1 ⟨k', bs', e, hk', e'⟩ => by
  cases e
  rw [e', hk.uniqB hk']
theorem has24_of (h : Γ 24 = relG fun args σ v σ' => S24 args σ v ∧ σ' = σ) : Has24 Γ := fun key s ps k p σ h1 h2 h3 h4 h5 h6 h7 h8 => pure_call h ⟨key, s, ps, k, p, rfl, h1, h2, h3, h4, h5, h6, h7, h8, rfl⟩ fun v1 ⟨key', s', ps', k', p', e, h1', h2', _, _, _, _, _, _, e'⟩ => by
  cases e
  rw [e', h1.uniqB h1', h2.uniq h2']
theorem has26_of (h : Γ 26 = relG fun args σ v σ' => S26 args σ v ∧ σ' = σ) : Has26 Γ := fun k bs b σ h1 h2 h3 h4 h5 => pure_call h ⟨k, bs, b, rfl, h1, h2, h3, h4, h5, rfl⟩ fun v1 ⟨k', bs', b', e, _, h2', _, _, _, e'⟩ => by
  simp only [List.cons.injEq, AV.ints.injEq, true_and, and_true] at e
  obtain ⟨e1, rfl⟩ := e
  rw [e', h2.uniqB h2', bI_inj e1]
theorem has41_of (h : Γ 41 = relG fun args σ v σ' => S41 args σ v ∧ σ' = σ) : Has41 Γ := fun σ way s p c q k key h1 h2 h3 h4 h5 h6 h7 h8 => pure_call h ⟨way, s, p, c, q, k, key, rfl, h1, h2, h3, h4, h5, h6, h7, h8, rfl⟩ fun v1 ⟨way', s', p', c', q', k', key', e, _, _, _, _, h5', _, _, _, e'⟩ => by
  simp only [List.cons.injEq, and_true] at e
  obtain ⟨rfl, e1, e2, e3, e4, e5⟩ := e
  cases e1
  rw [e', h5.uniqB h5', int_nat e2, int_nat e3, int_nat e4, int_nat e5]
theorem has43_of (h : Γ 43 = relG fun args σ v σ' => S43 args σ v ∧ σ' = σ) : Has43 Γ := fun σ s p k key h1 h2 h3 h4 h5 h6 => pure_call h ⟨s, p, k, key, rfl, h1, h2, h3, h4, h5, h6, rfl⟩ fun v1 ⟨s', p', k', key', e, _, _, h3', _, _, _, e'⟩ => by
  simp only [List.cons.injEq, and_true] at e
  obtain ⟨rfl, e1, e2⟩ := e
  rw [e', h3.uniqB h3', int_nat e1, int_nat e2]
theorem has18_of (h : Γ 18 = relG S18) : Has18 Γ := fun k bs σ h1 h2 h3 h4 => by
  rw [h]
  have hs : S18 [k] σ (.sl σ.next 0 bs.length bs.length false 1) (σ.new (.ints .u8 (bI bs) 5 .more)) := ⟨k, bs, rfl, h1, h2, h3, h4, rfl, rfl⟩
  exact relG_eq hs fun v1 σ1 h' => hs.uniq h'
theorem has27_of (h : Γ 27 = relG fun args σ v σ' => S27 args σ v ∧ σ' = σ) : Has27 Γ := fun σ hT => pure_call h ⟨rfl, hT, rfl⟩ fun v1 ⟨_, _, e⟩ => e
theorem has39_of (h : Γ 39 = relG fun args σ v σ' => S39 args σ v ∧ σ' = σ) : Has39 Γ := fun σ r key h1 h2 h3 => pure_call h ⟨r, key, rfl, h1, h2, h3, rfl⟩ fun v1 ⟨r', key', e, h1', _, _, e'⟩ => by
  cases e
  rw [e', h1.uniq h1']
theorem has40_of (h : Γ 40 = relG fun args σ v σ' => S40 args σ v ∧ σ' = σ) : Has40 Γ := fun σ r way s p c q key h1 h2 h3 h4 h5 h6 h7 => pure_call h ⟨r, way, s, p, c, q, key, rfl, h1, h2, h3, h4, h5, h6, h7, rfl⟩ fun v1 ⟨r', way', s', p', c', q', key', e, _, _, _, _, h5', _, _, e'⟩ => by
  simp only [List.cons.injEq, and_true] at e
  obtain ⟨e0, e1, e2, e3, e4, e5⟩ := e
  cases e0
  cases e1
  rw [e', h5.uniq h5', int_nat e2, int_nat e3, int_nat e4, int_nat e5]
theorem has42_of (h : Γ 42 = relG fun args σ v σ' => S42 args σ v ∧ σ' = σ) : Has42 Γ := fun σ r s p key h1 h2 h3 h4 h5 => pure_call h ⟨r, s, p, key, rfl, h1, h2, h3, h4, h5, rfl⟩ fun v1 ⟨r', s', p', key', e, _, _, h3', _, _, e'⟩ => by
  simp only [List.cons.injEq, and_true] at e
  obtain ⟨e0, e1, e2⟩ := e
  cases e0
  rw [e', h3.uniq h3', int_nat e1, int_nat e2]
theorem has15_of (h : Γ 15 = Γ3 std shaI hmI byI isS isK 15) : Has15 Γ := fun σ k v kl l hT hk hv h1 h2 => by
  rw [h, g3_15 hT (hk.bytes (byI_bI kl)) (hv.bytes (byI_bI l)) (by rw [bI_length]; exact h1) (by rw [bI_length]; exact h2), hmI, toBs_bI, toBs_bI]
end
noncomputable def Γb : Gam := (((Γ3 std shaI hmI byI isS isK).rel 61 S61).rel 60 S60).rel 38 fun args σ v σ' => S38 args σ v ∧ σ' = σ
theorem gamb_ok : GamOk Tryd.prog 4 Γb :=
  have h1 := Gam.rel_ok gam3_ok (ok61 gam3_ok)
  have h2 := Gam.rel_ok h1 (ok60 h1 (has61_of (by rfl)))
  Gam.rel_ok h2 (ok38 h2)
noncomputable def Γc : Gam := (Γb.rel 24 fun args σ v σ' => S24 args σ v ∧ σ' = σ).rel 26 fun args σ v σ' => S26 args σ v ∧ σ' = σ
theorem gamc_ok : GamOk Tryd.prog 4 Γc :=
  have h1 := Gam.rel_ok gamb_ok (ok24 gamb_ok (has15_of (by rfl)) (has38_of (by rfl)) (has60_of (by rfl)) (has61_of (by rfl)))
  Gam.rel_ok h1 (ok26 h1 (has15_of (by rfl)))
noncomputable def Γd : Gam := ((((Γc.rel 41 fun args σ v σ' => S41 args σ v ∧ σ' = σ).rel 43 fun args σ v σ' => S43 args σ v ∧ σ' = σ).rel 57 fun args σ v σ' => S57 args σ v ∧ σ' = σ).rel 18 S18).rel 27 fun args σ v σ' => S27 args σ v ∧ σ' = σ
theorem gamd_ok : GamOk Tryd.prog 4 Γd :=
  have h1 := Gam.rel_ok gamc_ok (ok41 gamc_ok (has61_of (by rfl)) (has24_of (by rfl)))
  have h2 := Gam.rel_ok h1 (ok43 h1 (has61_of (by rfl)) (has24_of (by rfl)) (has26_of (by rfl)))
  Gam.rel_ok (Gam.rel_ok (Gam.rel_ok h2 ok57) ok18) ok27
noncomputable def Γe : Gam := (((Γd.rel 37 (SX Γd Tryd.f37.ntmps c37 [.tmp 2, .tmp 3] S37)).rel 39 fun args σ v σ' => S39 args σ v ∧ σ' = σ).rel 40 fun args σ v σ' => S40 args σ v ∧ σ' = σ).rel 42 fun args σ v σ' => S42 args σ v ∧ σ' = σ
theorem game_ok : GamOk Tryd.prog 4 Γe := Gam.rel_ok (Gam.rel_ok (Gam.rel_ok (Gam.rel_ok gamd_ok (ok37 gamd_ok)) ok39) ok40) ok42
def memR (bs : List UInt8) : List AObj := [.ints .u32 (wI S0) 62 .ro, .cells [.sl 4 0 8 8 false 1] 62 .ro, .cells [.sl 5 0 64 64 false 1] 62 .ro, .ints .u32 (wI KK) 62 .ro, .ints .u32 (wI S0) 62 .ro, .ints .u32 (wI KK) 62 .ro, .ints .u8 (bI bs) 5 .ro]
theorem memR_ro (bs : List UInt8) : ∀ o ∈ memR bs, o.isRo = true := by
  intro o ho
  simp only [memR, List.mem_cons, List.not_mem_nil, or_false] at ho
  rcases ho with rfl | rfl | rfl | rfl | rfl | rfl | rfl <;> rfl
theorem memR_len (bs : List UInt8) : (memR bs).length ≤ 1000000 := by show 7 ≤ _; omega
theorem memR_tabs (bs : List UInt8) : Tabs (hL (memR bs)) := by
  have g := hL_get (memR_len bs)
  exact ⟨by show 5 < 7; omega, ⟨_, _, g 0⟩, ⟨_, _, g 3⟩, ⟨_, _, _, _, _, _, _, g 1, g 4⟩, ⟨_, _, _, _, _, _, _, g 2, g 5⟩⟩
theorem rings_any (v0 : Value) (bs : List UInt8) (way : Int) (s p c q : Nat) (w : World) (hs : s < 4294967296) (hp : p < 4294967296) (hc : c < 18446744073709551616) (hq : q < 18446744073709551616) (hB : BSn w v0 bs) (hS : TabC w 1 S0) (hK : TabC w 2 KK) (hgS : GlobS w) (hgK : GlobK w) (h3 : 3 < w.heap.size) :
    Calls Tryd.prog 10 #[v0, .agg #[.int .i64 way, .int .u32 s, .int .u32 p, .int .u64 c, .int .u64 q]] w fun e w' => e = .returned (.bool true) ∧ Below w.heap.size w w' := by
  obtain ⟨bS, oS, cS, k1, k2, k3, k4⟩ := hS
  obtain ⟨bK, oK, cK, s1, s2, s3, s4⟩ := hK
  obtain ⟨a6, r6, h6, hv6, hi6⟩ := arg_of hB 6
  have g := hL_get (memR_len bs)
  have hr : HR (rL [some (0, (0, 8)), some (1, (0, 1)), some (2, (0, 1)), some (3, (0, 64)), some (bS, (oS, oS + cS)), some (bK, (oK, oK + cK)), r6]) (hL (memR bs)) w := by
    refine hr_ro (memR_len bs) rfl (memR_ro bs) fun b c d o hb ho => ?_
    match b with
    | 0 => cases hb; cases ho; exact ⟨by omega, globS_row hgS _⟩
    | 1 => cases hb; cases ho; exact ⟨by omega, or_glob k1 k2 rfl⟩
    | 2 => cases hb; cases ho; exact ⟨by omega, or_glob s1 s2 rfl⟩
    | 3 => cases hb; cases ho; exact ⟨by omega, globK_row hgK _⟩
    | 4 => cases hb; cases ho; exact ⟨k3, or_ro (by rw [wI_length]; have : S0.length = 8 := rfl; omega) fun i hi => by rw [wI_getD]; exact k4 i (by rw [wI_length] at hi; exact hi)⟩
    | 5 => cases hb; cases ho; exact ⟨s3, or_ro (by rw [wI_length]; have : KK.length = 64 := rfl; omega) fun i hi => by rw [wI_getD]; exact s4 i (by rw [wI_length] at hi; exact hi)⟩
    | 6 =>
      have hb : some r6 = some (some (c, d)) := hb
      cases ho
      obtain ⟨e1, e2⟩ := h6 c d (Option.some.inj hb)
      exact ⟨e1, e2 _⟩
    | n + 7 => cases hb
  have hG : ∀ g, g < 4 → ∃ s, (rL [some (0, (0, 8)), some (1, (0, 1)), some (2, (0, 1)), some (3, (0, 64)), some (bS, (oS, oS + cS)), some (bK, (oK, oK + cK)), r6]) g = some (g, (0, s)) := fun g hg => by
    match g, hg with
    | 0, _ => exact ⟨8, rfl⟩
    | 1, _ => exact ⟨1, rfl⟩
    | 2, _ => exact ⟨1, rfl⟩
    | 3, _ => exact ⟨64, rfl⟩
  have hw := walk10 (Γ := Γe) (has27_of (by rfl)) (has38_of (by rfl)) (has24_of (by rfl)) (has37 (Γ := Γd) (has57_of (by rfl)) (has18_of (by rfl)) (by rfl)) (has39_of (by rfl)) (has40_of (by rfl)) (has41_of (by rfl)) (has42_of (by rfl)) (has43_of (by rfl))
    (σ := hL (memR bs)) (way := way) hs hp hc hq (hi6 _ (by show 6 < 7; omega) (g 6)) (memR_tabs bs) (by show 7 ≤ _; omega) (K := fun av _ => av = .bool true) (fun _ => rfl)
  refine (call_sound (xs := [.tmp 4]) (K := fun av _ => av = .bool true) (vs := [v0, .agg #[.int .i64 way, .int .u32 s, .int .u32 p, .int .u64 c, .int .u64 q]]) mixed game_ok (pu := fun _ => false) (fun f h => by cases h) Tryd.func10 body10 cc10 cr10 (by kernel_rfl) (by kernel_rfl) hw hG hr ⟨v0, _, rfl, hv6 _ rfl, _, [], rfl, ?_, rfl⟩).mono fun e W' ⟨u, av, σ', ρ', e1, e2, e3, e4, e5⟩ => ?_
  · unfold VR
    exact ⟨[.int .i64 way, .int .u32 s, .int .u32 p, .int .u64 c, .int .u64 q], rfl, _, _, rfl, rfl, _, _, rfl, rfl, _, _, rfl, rfl, _, _, rfl, rfl, _, _, rfl, rfl, rfl⟩
  subst e1 e2
  refine ⟨?_, Below.ofStp (memR_len bs) hr (memR_ro bs) e4⟩
  unfold VR at e5
  rw [e5]
end Go.Proofs.YtjkicmlelilcaaaDoor.V2
