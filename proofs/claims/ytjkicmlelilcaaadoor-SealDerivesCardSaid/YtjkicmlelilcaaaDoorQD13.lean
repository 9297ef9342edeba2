/- Part 13 of the proof: texts of the proof. -/
import Derived.Test.YtjkicmlelilcaaaDoorQD12
namespace Go.Proofs.YtjkicmlelilcaaaDoor.V2
open Go
open Go.RowKit
theorem g_cutStr {Γ : Gam} {σ : AH} {ev : Ref → AV} {d : Option Nat} {x y : Ref} {l : List UInt8} {n : Nat} (hx : ev x = .str l) (hy : ev y = .int .i64 (min (l.length : Int) n)) : gstep std Γ ev σ ⟨.aop (.slStr x none (some y)), d, none⟩ = (true, .str (l.take n), σ) := by
  show oSlStr std (ev x) none (some (ev y)) σ = _
  rw [hx, hy]
  have e : (min (l.length : Int) n).toNat = min l.length n := by omega
  have e1 : decide (0 ≤ min (l.length : Int) n) = true := decide_eq_true (by omega)
  have e2 : Nat.ble (min l.length n) l.length = true := by rw [Nat.ble_eq]; omega
  simp only [oSlStr, bnd, std, e, e1, e2]
  simp [List.take_take]
  exact Nat.min_comm _ _
theorem eq_u8n (l : List Int) (ks : List CK) (hk : ks.all CK.isInt = true) (hl : l.length = ks.length) : pstep std (.eqF true ks) [.ints .u8 l, .ints .u8 l] = (true, .bool false) := by
  have h : Nat.beq ks.length ks.length = true := Nat.beq_refl _
  simp [pstep, flatEq, hk, std, hl]
theorem derV_form (key s : List UInt8) (ps : List (List UInt8)) : ∃ (Y : List UInt8) (e : Int), derV key s ps = .tup [.ints .u8 (bI Y), .int .i64 e] ∧ Y.length = 32 := by
  unfold derV
  cases mayB key
  · exact ⟨zer32, 1, by rw [cond_false, z32_eq], rfl⟩
  · exact ⟨_, 0, rfl, hmB_length _ _⟩
def c7 : ACode := (.seq (.reg [⟨(.aop (.mov (.lit (.bool false)))), (some 6), none⟩]) (.seq (.regd [(0, ⟨(.aop (.mov (.slot 0))), (some 13), none⟩), (1, ⟨(.aop (.mov (.slot 0))), (some 14), none⟩), (2, ⟨(.aop (.lenSl (.op 1))), (some 15), none⟩), (3, ⟨(.aop (.pur .minI [(.op 2), (.lit (.int .i64 (80)))])), (some 16), none⟩), (4, ⟨(.aop (.slSl 1 (.op 0) none (some (.op 3)) none)), (some 17), none⟩), (5, ⟨(.aop (.mov (.slot 1))), (some 18), none⟩), (6, ⟨(.aop (.mov (.slot 1))), (some 19), none⟩), (7, ⟨(.aop (.lenStr (.op 6))), (some 20), none⟩), (8, ⟨(.aop (.pur .minI [(.op 7), (.lit (.int .i64 (40)))])), (some 21), none⟩), (9, ⟨(.aop (.slStr (.op 5) none (some (.op 8)))), (some 22), none⟩), (10, ⟨(.aop (.mov (.slot 2))), (some 23), none⟩), (11, ⟨(.call (.lit (.fn (.func 22) [] [])) [(.op 10)]), (some 24), none⟩), (12, ⟨(.aop (.mov (.op 4))), (some 0), none⟩), (13, ⟨(.aop (.mov (.op 9))), (some 1), none⟩), (14, ⟨(.aop (.mov (.op 11))), (some 2), none⟩)] [] [(some 13), (some 14), (some 15), (some 16), (some 17), (some 18), (some 19), (some 20), (some 21), (some 22), (some 23), (some 24), (some 0), (some 1), (some 2)]) (.seq (.reg [⟨(.aop (.mov (.slot 0))), (some 26), none⟩, ⟨(.aop (.mov (.slot 1))), (some 27), none⟩, ⟨(.aop (.mov (.slot 2))), (some 28), none⟩, ⟨(.call (.lit (.fn (.func 23) [] [])) [(.slot 26), (.slot 27), (.slot 28)]), (some 29), none⟩, ⟨(.aop (.mov (.slot 29))), (some 25), none⟩, ⟨(.aop (.extract (.slot 25) 0)), (some 30), none⟩, ⟨(.aop (.extract (.slot 25) 1)), (some 31), none⟩, ⟨(.aop (.alloc 43 [(.int .u8 (0)), (.int .u8 (0)), (.int .u8 (0)), (.int .u8 (0)), (.int .u8 (0)), (.int .u8 (0)), (.int .u8 (0)), (.int .u8 (0)), (.int .u8 (0)), (.int .u8 (0)), (.int .u8 (0)), (.int .u8 (0)), (.int .u8 (0)), (.int .u8 (0)), (.int .u8 (0)), (.int .u8 (0)), (.int .u8 (0)), (.int .u8 (0)), (.int .u8 (0)), (.int .u8 (0)), (.int .u8 (0)), (.int .u8 (0)), (.int .u8 (0)), (.int .u8 (0)), (.int .u8 (0)), (.int .u8 (0)), (.int .u8 (0)), (.int .u8 (0)), (.int .u8 (0)), (.int .u8 (0)), (.int .u8 (0)), (.int .u8 (0))])), (some 7), none⟩, ⟨(.aop (.store 32 (.slot 7) (.slot 30))), none, none⟩, ⟨(.aop (.mov (.slot 31))), (some 8), none⟩]) (.seq (.reg [⟨(.aop (.mov (.slot 0))), (some 33), none⟩, ⟨(.aop (.mov (.slot 1))), (some 34), none⟩, ⟨(.aop (.mov (.slot 2))), (some 35), none⟩, ⟨(.call (.lit (.fn (.func 24) [] [])) [(.slot 33), (.slot 34), (.slot 35)]), (some 36), none⟩, ⟨(.aop (.mov (.slot 36))), (some 32), none⟩, ⟨(.aop (.extract (.slot 32) 0)), (some 37), none⟩, ⟨(.aop (.extract (.slot 32) 1)), (some 38), none⟩, ⟨(.aop (.alloc 23 [(.int .u8 (0)), (.int .u8 (0)), (.int .u8 (0)), (.int .u8 (0)), (.int .u8 (0)), (.int .u8 (0)), (.int .u8 (0)), (.int .u8 (0)), (.int .u8 (0)), (.int .u8 (0)), (.int .u8 (0)), (.int .u8 (0)), (.int .u8 (0)), (.int .u8 (0)), (.int .u8 (0)), (.int .u8 (0)), (.int .u8 (0)), (.int .u8 (0)), (.int .u8 (0)), (.int .u8 (0)), (.int .u8 (0)), (.int .u8 (0)), (.int .u8 (0)), (.int .u8 (0)), (.int .u8 (0)), (.int .u8 (0)), (.int .u8 (0)), (.int .u8 (0)), (.int .u8 (0)), (.int .u8 (0)), (.int .u8 (0)), (.int .u8 (0))])), (some 9), none⟩, ⟨(.aop (.store 32 (.slot 9) (.slot 37))), none, none⟩, ⟨(.aop (.mov (.slot 38))), (some 10), none⟩]) (.seq (.seq (.reg [⟨(.aop (.mov (.slot 8))), (some 39), none⟩, ⟨(.aop (.mov (.slot 10))), (some 40), none⟩, ⟨(.aop (.bin .neq (.slot 39) (.slot 40))), (some 41), none⟩, ⟨(.aop (.mov (.slot 41))), (some 42), none⟩, ⟨(.aop (.loadN 32 (.slot 7))), (some 43), (some ((.slot 42), false))⟩, ⟨(.aop (.loadN 32 (.slot 9))), (some 44), (some ((.slot 42), false))⟩, ⟨(.aop (.pur (.eqF true [.int, .int, .int, .int, .int, .int, .int, .int, .int, .int, .int, .int, .int, .int, .int, .int, .int, .int, .int, .int, .int, .int, .int, .int, .int, .int, .int, .int, .int, .int, .int, .int]) [(.slot 43), (.slot 44)])), (some 45), (some ((.slot 42), false))⟩, ⟨(.aop (.pick (.slot 42) (.lit (.bool true)) (.slot 45))), (some 46), none⟩]) (.cond (.slot 46) (.seq (.reg [⟨(.aop (.mov (.lit (.bool false)))), (some 6), none⟩]) .ret) .skip)) (.seq (.seq (.reg [⟨(.aop (.mov (.slot 2))), (some 47), none⟩, ⟨(.aop (.lenSl (.slot 47))), (some 48), none⟩, ⟨(.aop (.mov (.lit (.int .i64 (0))))), (some 49), none⟩]) (.block 0 (.loop (.seq (.reg [⟨(.aop (.bin .lss (.slot 49) (.slot 48))), (some 50), none⟩]) (.seq (.cond (.slot 50) .skip (.exit 0)) (.seq (.block 1 (.seq (.reg [⟨(.aop (.idxSl 1 (.slot 47) (.slot 49))), (some 51), none⟩, ⟨(.aop (.load1 (.slot 51))), (some 52), none⟩, ⟨(.aop (.mov (.slot 52))), (some 12), none⟩]) (.seq (.regd [(0, ⟨(.aop (.loadN 32 (.slot 7))), (some 53), none⟩), (1, ⟨(.aop (.mov (.slot 12))), (some 54), none⟩), (3, ⟨(.aop (.loadN 32 (.slot 9))), (some 56), none⟩), (4, ⟨(.aop (.mov (.slot 12))), (some 57), none⟩), (2, ⟨(.call (.lit (.fn (.func 25) [] [])) [(.op 0), (.op 1)]), (some 55), none⟩), (5, ⟨(.call (.lit (.fn (.func 26) [] [])) [(.op 3), (.op 4)]), (some 58), none⟩), (6, ⟨(.aop (.bin .neq (.op 2) (.op 5))), (some 59), none⟩)] [(2, [3])] [(some 53), (some 54), (some 55), (some 56), (some 57), (some 58), (some 59)]) (.cond (.slot 59) (.seq (.reg [⟨(.aop (.mov (.lit (.bool false)))), (some 6), none⟩]) .ret) .skip)))) (.reg [⟨(.aop (.bin .add (.slot 49) (.lit (.int .i64 (1))))), (some 60), none⟩, ⟨(.aop (.mov (.slot 60))), (some 49), none⟩]))))))) (.seq (.reg [⟨(.call (.lit (.fn (.func 27) [] [])) []), (some 61), none⟩, ⟨(.aop (.mov (.slot 61))), (some 6), none⟩]) .ret)))))))
theorem comp7 : (V2.compC Tryd.prog 4 Tryd.f7.ntmps (fun _ => false) (Tryd.f7.body.getD .skip), V2.compR Tryd.prog Tryd.f7.results.toList) = (some c7, some [(.tmp 6)]) := by kernel_rfl
theorem body7 : Tryd.f7.body = some (Tryd.f7.body.getD .skip) := by kernel_rfl
theorem cc7 : V2.compC Tryd.prog 4 Tryd.f7.ntmps (fun _ => false) (Tryd.f7.body.getD .skip) = some c7 := (Prod.mk.inj comp7).1
theorem cr7 : V2.compR Tryd.prog Tryd.f7.results.toList = some [(.tmp 6)] := (Prod.mk.inj comp7).2
set_option maxHeartbeats 2000000 in
theorem walk7 {Γ : Gam} (h22 : Has22 Γ) (h23 : Has23 Γ) (h24 : Has24 Γ) (h25 : Has25 Γ) (h26 : Has26 Γ) (h27 : Has27 Γ)
    {σ : AH} {a0 p0 : AV} {bs s0 : List UInt8} {ps : List (List UInt8)} (ha : IsB σ a0 (bI bs)) (hp : IsQ σ p0 ps) (hpl : ps.length ≤ 9223372036854775807) (hT : Tabs σ) (hsz : σ.next ≤ 900000)
    {K : AV → AH → Prop} (hK : ∀ σ', K (.bool true) σ') :
    avc std Γ 4 62 σ.next c7 (fun e env σ' => (match e with | .normal => True | .ret => True | _ => False) ∧ (resL std env σ' [.tmp 6]).1 = true ∧ K (retV (resL std env σ' [.tmp 6]).2) σ') (envOf [a0, .str s0, p0] 0 .leaf) σ := by
  have hT' := hT.n
  unfold c7
  refine mv (v := .bool false) (by kernel_rfl) ?_
  refine avc_reg_nil ?_
  refine avc_evg ?_
  refine evg_cons (g_mov (v := a0) (by kernel_rfl)) rfl ?_
  refine evg_cons (g_mov (v := a0) (by kernel_rfl)) rfl ?_
  refine evg_cons (g_lenb (v := a0) (by kernel_rfl) ha) rfl ?_
  refine evg_cons (g_pur (vs := [.int .i64 ((bI bs).length : Nat), .int .i64 80]) (v := .int .i64 (min ((bI bs).length : Int) 80)) (by kernel_rfl) (min_nat _ 80)) rfl ?_
  obtain ⟨a, ek, hB⟩ := ha.cut 80
  rw [bI_take] at hB
  have hsl : (bs.take 80).length ≤ 80 := by rw [List.length_take]; omega
  refine evg_cons (g_cut (v := a0) (n := min ((bI bs).length : Int) 80) (by kernel_rfl) (by kernel_rfl) ek) rfl ?_
  refine evg_cons (g_mov (v := .str s0) (by kernel_rfl)) rfl ?_
  refine evg_cons (g_mov (v := .str s0) (by kernel_rfl)) rfl ?_
  refine evg_cons (g_lenS (l := s0) (by kernel_rfl)) rfl ?_
  refine evg_cons (g_pur (vs := [.int .i64 (s0.length : Nat), .int .i64 40]) (v := .int .i64 (min (s0.length : Int) 40)) (by kernel_rfl) (min_nat _ 40)) rfl ?_
  refine evg_cons (g_cutStr (l := s0) (n := 40) (by kernel_rfl) (by kernel_rfl)) rfl ?_
  refine evg_cons (g_mov (v := p0) (by kernel_rfl)) rfl ?_
  obtain ⟨p, σ2, e22, hP, gr2, nx2, hsu⟩ := h22 p0 ps σ hp hpl (by omega)
  refine evg_cons (g_call (n := 22) (vs := [p0]) (by kernel_rfl) (by kernel_rfl) e22) rfl ?_
  refine evg_cons (g_mov (v := a) (by kernel_rfl)) rfl ?_
  refine evg_cons (g_mov (v := .str (s0.take 40)) (by kernel_rfl)) rfl ?_
  refine evg_cons (g_mov (v := p) (by kernel_rfl)) rfl ?_
  refine evg_nil ?_
  generalize bs.take 80 = key at hB hsl
  have hll : (s0.take 40).length ≤ 40 := by rw [List.length_take]; omega
  generalize hlab : s0.take 40 = lab at hll
  have hB2 := hB.mono gr2
  have hT2 := hT.mono gr2
  have hfl := fewP_le ps
  have hff := fewP_flat ps
  have hfm := fewP_mem ps
  generalize fewP ps = qs at hP hfl hff hfm
  obtain ⟨Y, en, hY, hYl⟩ := derV_form key lab qs
  have hYI : (bI Y).length = 32 := by rw [bI_length]; exact hYl
  refine mv (v := a) (by kernel_rfl) ?_
  refine mv (v := .str (lab)) (by kernel_rfl) ?_
  refine mv (v := p) (by kernel_rfl) ?_
  refine avc_reg_cons (g_call (n := 23) (vs := [a, .str lab, p]) (by kernel_rfl) (by kernel_rfl) ((h23 key lab qs a p σ2 hB2 hP hsu (by omega) (by omega) (by omega) hT2 (by omega)).trans (by rw [hY]))) ?_
  refine mv (v := .tup [.ints .u8 (bI Y), .int .i64 en]) (by kernel_rfl) ?_
  refine avc_reg_cons (g_ext1 (l := [.ints .u8 (bI Y), .int .i64 en]) (v := .ints .u8 (bI Y)) (by kernel_rfl) rfl) ?_
  refine avc_reg_cons (g_ext1 (l := [.ints .u8 (bI Y), .int .i64 en]) (v := .int .i64 en) (by kernel_rfl) rfl) ?_
  refine avc_reg_cons (g_alloc (o := .ints .u8 Z32 43 .exact) (by kernel_rfl) (by omega)) ?_
  dsimp only
  have gr3 : Grown σ2 (σ2.new (.ints .u8 Z32 43 .exact)) := Grown.new (by omega)
  have hg3 : (σ2.new (.ints .u8 Z32 43 .exact)).get σ2.next = some (.ints .u8 Z32 43 .exact) := get_new (by omega)
  have hx3 : (σ2.new (.ints .u8 Z32 43 .exact)).next = σ2.next + 1 := rfl
  generalize σ2.new (.ints .u8 Z32 43 .exact) = σ3 at gr3 hg3 hx3 ⊢
  refine avc_reg_cons (g_storeAll (b := σ2.next) (m := bI Y) (by kernel_rfl) (by kernel_rfl) hg3 rfl hYI) ?_
  dsimp only
  have gr4 : Grown σ2 (σ3.put σ2.next (.ints .u8 (bI Y) 43 .exact)) := gr3.put (by omega) (by omega)
  have hg4 : (σ3.put σ2.next (.ints .u8 (bI Y) 43 .exact)).get σ2.next = some (.ints .u8 (bI Y) 43 .exact) := by rw [get_put (by omega), if_pos rfl]
  have hx4 : (σ3.put σ2.next (.ints .u8 (bI Y) 43 .exact)).next = σ3.next := rfl
  generalize σ3.put σ2.next (.ints .u8 (bI Y) 43 .exact) = σ4 at gr4 hg4 hx4 ⊢
  refine mv (v := .int .i64 en) (by kernel_rfl) ?_
  refine avc_reg_nil ?_
  have hB4 := hB2.mono gr4
  have hP4 := hP.mono gr4
  have hT4 := hT2.mono gr4
  refine mv (v := a) (by kernel_rfl) ?_
  refine mv (v := .str (lab)) (by kernel_rfl) ?_
  refine mv (v := p) (by kernel_rfl) ?_
  refine avc_reg_cons (g_call (n := 24) (vs := [a, .str lab, p]) (by kernel_rfl) (by kernel_rfl) ((h24 key lab qs a p σ4 hB4 hP4 (by omega) (by omega) (by omega) (by omega) hT4 (by omega)).trans (by rw [hY]))) ?_
  refine mv (v := .tup [.ints .u8 (bI Y), .int .i64 en]) (by kernel_rfl) ?_
  refine avc_reg_cons (g_ext1 (l := [.ints .u8 (bI Y), .int .i64 en]) (v := .ints .u8 (bI Y)) (by kernel_rfl) rfl) ?_
  refine avc_reg_cons (g_ext1 (l := [.ints .u8 (bI Y), .int .i64 en]) (v := .int .i64 en) (by kernel_rfl) rfl) ?_
  refine avc_reg_cons (g_alloc (o := .ints .u8 Z32 23 .exact) (by kernel_rfl) (by omega)) ?_
  dsimp only
  have gr5 : Grown σ4 (σ4.new (.ints .u8 Z32 23 .exact)) := Grown.new (by omega)
  have hg5 : (σ4.new (.ints .u8 Z32 23 .exact)).get σ4.next = some (.ints .u8 Z32 23 .exact) := get_new (by omega)
  have hx5 : (σ4.new (.ints .u8 Z32 23 .exact)).next = σ4.next + 1 := rfl
  generalize σ4.new (.ints .u8 Z32 23 .exact) = σ5 at gr5 hg5 hx5 ⊢
  refine avc_reg_cons (g_storeAll (b := σ4.next) (m := bI Y) (by kernel_rfl) (by kernel_rfl) hg5 rfl hYI) ?_
  dsimp only
  have gr6 : Grown σ4 (σ5.put σ4.next (.ints .u8 (bI Y) 23 .exact)) := gr5.put (by omega) (by omega)
  have hg6 : (σ5.put σ4.next (.ints .u8 (bI Y) 23 .exact)).get σ4.next = some (.ints .u8 (bI Y) 23 .exact) := by rw [get_put (by omega), if_pos rfl]
  have hx6 : (σ5.put σ4.next (.ints .u8 (bI Y) 23 .exact)).next = σ5.next := rfl
  generalize σ5.put σ4.next (.ints .u8 (bI Y) 23 .exact) = σ6 at gr6 hg6 hx6 ⊢
  refine mv (v := .int .i64 en) (by kernel_rfl) ?_
  refine avc_reg_nil ?_
  have gr26 := gr4.trans gr6
  have hP6 := hP4.mono gr6
  have hT6 := hT4.mono gr6
  have hg4' : σ6.get σ2.next = some (.ints .u8 (bI Y) 43 .exact) := by rw [gr6.get _ (by omega)]; exact hg4
  refine avc_seq_seq ?_
  refine mv (v := .int .i64 en) (by kernel_rfl) ?_
  refine mv (v := .int .i64 en) (by kernel_rfl) ?_
  refine avc_reg_cons (g_bin (op := .neq) (k := .i64) (k' := .i64) (a := en) (b := en) (v := .bool false) (by kernel_rfl) (by kernel_rfl) rfl (b_ne' rfl)) ?_
  refine mv (v := .bool false) (by kernel_rfl) ?_
  refine avc_reg_cons (g_if (by kernel_rfl) (g_loadAll (b := σ2.next) (by kernel_rfl) hg4' hYI)) ?_
  refine avc_reg_cons (g_if (by kernel_rfl) (g_loadAll (b := σ4.next) (by kernel_rfl) hg6 hYI)) ?_
  refine avc_reg_cons (g_if (by kernel_rfl) (g_pur (vs := [.ints .u8 (bI Y), .ints .u8 (bI Y)]) (v := .bool false) (by kernel_rfl) (eq_u8n (bI Y) K32 rfl hYI))) ?_
  refine avc_reg_cons (g_pickf (v := .bool false) (by kernel_rfl) (by kernel_rfl)) ?_
  refine avc_reg_nil ?_
  refine avc_seq_cond (t := false) (by kernel_rfl) (fun h => by cases h) (fun _ => avc_seq_skip (avc_seq_seq ?_))
  refine mv (v := p) (by kernel_rfl) ?_
  refine avc_reg_cons (g_lenP (v := p) (by kernel_rfl) hP6) ?_
  refine mv (v := .int .i64 0) (by kernel_rfl) ?_
  refine avc_reg_nil ?_
  refine avc_seq_block (avc_loop (fun env σ' => ∃ (i : Nat), i ≤ qs.length ∧ env = ofL [(7, .ptr σ2.next 0), (9, .ptr σ4.next 0), (47, p), (48, .int .i64 (qs.length : Nat)), (49, .int .i64 (i : Nat))] ∧ σ6 = σ') (fun env _ => (qs.length - intAt env 49).toNat)
    (Wk.env (l := [(7, .ptr σ2.next 0), (9, .ptr σ4.next 0), (47, p), (48, .int .i64 (qs.length : Nat)), (49, .int .i64 (0 : Nat))]) ⟨⟨by kernel_rfl, rfl⟩, ⟨by kernel_rfl, rfl⟩, ⟨by kernel_rfl, rfl⟩, ⟨by kernel_rfl, rfl⟩, ⟨by kernel_rfl, rfl⟩, trivial⟩ (by have := gr26.next; have := gr2.next; omega)) ⟨0, Nat.zero_le _, rfl, rfl⟩ ?_)
  rintro env _ ⟨i, hi, rfl, rfl⟩
  refine avc_reg_cons (g_bin (op := .lss) (k := .i64) (k' := .i64) (a := (i : Nat)) (b := (qs.length : Nat)) (v := .bool (decide ((i : Int) < (qs.length : Nat)))) (by kernel_rfl) (by kernel_rfl) rfl (rfl)) ?_
  refine avc_reg_nil ?_
  refine avc_seq_cond (t := decide ((i : Int) < (qs.length : Nat))) (by kernel_rfl) (fun ht => ?_) (fun ht => ?_)
  · have hil : i < qs.length := by simp at ht; omega
    refine avc_seq_skip (avc_seq_block ?_)
    obtain ⟨b4, o4, n4, c4, x4, m4, e4, t4, q, q4, l4, g4, u4, d4, hBq⟩ := hP6.at (i := i) hil
    have hql : (atP qs i).length ≤ 80 := hfm _ (by unfold atP; rw [List.getD_eq_getElem?_getD, List.getElem?_eq_getElem hil]; exact List.getElem_mem hil)
    refine avc_reg_cons (g_idxSl (b := b4) (o := o4) (n := n4) (c := c4) (e := x4) (z := 1) (k := .i64) (m := i) (Eq.trans (b := p) (by kernel_rfl) q4) (by kernel_rfl) l4) ?_
    refine avc_reg_cons (g_load1 (b := b4) (off := o4 + i * 1) (v := q) (o := .cells m4 e4 t4) (by kernel_rfl) g4 (by show Nat.blt (o4 + i * 1) m4.length = true; rw [Nat.blt_eq]; exact u4) d4) ?_
    refine mv (v := q) (by kernel_rfl) ?_
    refine avc_reg_nil ?_
    refine avc_evg ?_
    refine evg_cons (g_loadAll (b := σ2.next) (by kernel_rfl) hg4' hYI) rfl ?_
    refine evg_cons (g_mov (v := q) (by kernel_rfl)) rfl ?_
    refine evg_cons (g_loadAll (b := σ4.next) (by kernel_rfl) hg6 hYI) rfl ?_
    refine evg_cons (g_mov (v := q) (by kernel_rfl)) rfl ?_
    refine evg_cons (g_call (n := 25) (vs := [.ints .u8 (bI Y), q]) (by kernel_rfl) (by kernel_rfl) (h25 Y (atP qs i) q σ6 hYl hBq (by omega) hT6 (by omega))) (rechk_cons (q := (3, ⟨(.aop (.loadN 32 (.slot 9))), (some 56), none⟩)) (v := .ints .u8 (bI Y)) (by kernel_rfl) (g_loadAll (b := σ4.next) (by kernel_rfl) hg6 hYI) (by kernel_rfl) (same_refl rfl) rfl) ?_
    refine evg_cons (g_call (n := 26) (vs := [.ints .u8 (bI Y), q]) (by kernel_rfl) (by kernel_rfl) (h26 Y (atP qs i) q σ6 hYl hBq (by omega) hT6 (by omega))) rfl ?_
    refine evg_cons (g_bin (op := .neq) (k := .u64) (k' := .u64) (a := (num (hmB Y (atP qs i)) 8 : Nat)) (b := (num (hmB Y (atP qs i)) 8 : Nat)) (v := .bool false) (by kernel_rfl) (by kernel_rfl) rfl (b_ne' rfl)) rfl ?_
    refine evg_nil ?_
    refine avc_cond (t := false) (by kernel_rfl) (fun h => by cases h) (fun _ => avc_skip (k_bseq ?_))
    refine avc_one_cons (g_bin (op := .add) (k := .i64) (k' := .i64) (a := (i : Nat)) (b := 1) (v := .int .i64 ((i + 1 : Nat) : Int)) (by kernel_rfl) (by kernel_rfl) rfl (b_add (wr_i64 (n := i + 1) (by omega)))) ?_
    refine mv1 (v := .int .i64 ((i + 1 : Nat) : Int)) (by kernel_rfl) ?_
    refine avc_one_nil ?_
    refine ⟨_, _, Wk.env (l := [(7, .ptr σ2.next 0), (9, .ptr σ4.next 0), (47, p), (48, .int .i64 (qs.length : Nat)), (49, .int .i64 ((i + 1) : Nat))]) ⟨⟨by kernel_rfl, rfl⟩, ⟨by kernel_rfl, rfl⟩, ⟨by kernel_rfl, rfl⟩, ⟨by kernel_rfl, rfl⟩, ⟨by kernel_rfl, rfl⟩, trivial⟩ (by have := gr26.next; have := gr2.next; omega), ⟨i + 1, hil, rfl, rfl⟩, ?_⟩
    rw [intAt_of (k := .i64) (n := ((i + 1 : Nat) : Int)) (by kernel_rfl), intAt_of (k := .i64) (n := (i : Int)) (by kernel_rfl)]
    omega
  · have hil : i = qs.length := by simp at ht; omega
    refine avc_seq_exit (k_sexit (k_exit ?_))
    refine avc_reg_cons (g_call (n := 27) (vs := []) (by kernel_rfl) rfl (h27 σ6 hT6)) ?_
    refine mv (v := .bool true) (by kernel_rfl) ?_
    refine avc_reg_nil ?_
    refine fin_ok (vs := [.bool true]) (by kernel_rfl) (hK σ6)
end Go.Proofs.YtjkicmlelilcaaaDoor.V2
namespace Go.Proofs.YtjkicmlelilcaaaDoor.V2
open Go
open Go.RowKit
/-- An argument: how it is said, and where it lies. -/
theorem argl_of {w : World} {v : Value} {bs : List UInt8} (hB : BSl w v bs) (h0 : 0 < w.heap.size) (s : Nat) : ∃ (a : AV) (r : Option (Nat × (Nat × Nat))), (∀ c d, r = some (c, d) → c < w.heap.size ∧ ∀ ρ, OR ρ d (.ints .u8 (bI bs) 5 .ro) w.heap[c]?) ∧ (∀ ρ : Ren, ρ s = r → VR ρ a v) ∧
    ∀ σ : AH, s < σ.next → σ.get s = some (.ints .u8 (bI bs) 5 .ro) → IsB σ a (bI bs) := by
  rcases hB with h | h | ⟨p, rfl, rfl⟩
  · exact arg_of (.inl h) s
  · exact arg_of (.inr h) s
  · refine ⟨.sl s 0 0 0 false 1, some (0, (0, 0)), fun c d h => ?_, fun ρ hρ => ?_, fun σ hs hg => .sl s 0 0 0 _ _ (bI []) 5 .ro hs hg (Nat.le_refl _) (Nat.le_refl _) rfl⟩
    · cases h
      exact ⟨h0, fun ρ => or_ro (Nat.le_refl _) fun i hi => absurd hi (Nat.not_lt_zero _)⟩
    · unfold VR
      exact .inr ⟨rfl, rfl, rfl, ⟨_, hρ⟩, p, rfl⟩
/-- A slice of slices, of which the first six are said. -/
theorem row_of {w : World} {v : Value} {vs : List Value} {ps : List (List UInt8)} (hP : PSl w v vs ps) (f : Nat → AV) (s : Nat) : ∃ (p : AV) (r : Option (Nat × (Nat × Nat))) (m : List AV),
    (∀ c d, r = some (c, d) → c < w.heap.size ∧ ∀ ρ : Ren, (∀ j, j < ps.length → j < 6 → VR ρ (f j) (atV vs j)) → OR ρ d (.cells m 22 .ro) w.heap[c]?) ∧ (∀ ρ : Ren, ρ s = r → VR ρ p v) ∧
    ∀ σ : AH, s < σ.next → σ.get s = some (.cells m 22 .ro) → (∀ j, j < ps.length → j < 6 → IsB σ (f j) (bI (atP ps j))) → IsQ σ p ps := by
  rcases hP.lies with ⟨rfl, rfl⟩ | ⟨b, off, c, rfl, hc, hb, hcell⟩
  · exact ⟨.nilsl, none, [], (fun c d h => by cases h), fun ρ _ => by unfold VR; rfl, fun σ _ _ _ => .nil⟩
  · have hat : ∀ j, j < ps.length → ((List.range ps.length).map fun j => if j < 6 then f j else AV.top)[j]? = some (if j < 6 then f j else AV.top) := fun j hj => by
      rw [List.getElem?_map, List.getElem?_range hj]; rfl
    have hml : ((List.range ps.length).map fun j => if j < 6 then f j else AV.top).length = ps.length := by simp
    generalize ((List.range ps.length).map fun j => if j < 6 then f j else AV.top) = m at hat hml
    refine ⟨.sl s 0 ps.length ps.length false 1, some (b, (off, off + c)), m, fun c' d h => ?_, fun ρ hρ => ?_, fun σ hs hg hB => .sl s 0 _ _ _ m 22 .ro ps hs hg (by omega) (Nat.le_refl _) rfl fun j hj h6 => ⟨f j, by rw [Nat.zero_add, hat j hj, if_pos h6], hB j hj h6⟩⟩
    · cases h
      refine ⟨hb, fun ρ hV => ⟨fun _ => ⟨by show m.length + off ≤ off + c; omega, fun hl => ?_⟩, fun l h => by cases h⟩⟩
      have hl : 0 < m.length := hl rfl
      obtain ⟨cs, t, fr, hbk, _⟩ := cell_row (hcell 0 (by omega))
      have hcs : ∀ i, i < m.length → cs[i + off]? = some (atV vs i) := fun i hi => by
        obtain ⟨c', t', fr', hb', hc⟩ := cell_row (hcell i (by omega))
        rw [hbk] at hb'; cases hb'
        rw [Nat.add_comm]; exact hc
      refine ⟨cs, t, fr, hbk, (fun hh => by cases hh), ?_, by show m.length + off ≤ off + c; omega, fun i a hi => ?_⟩
      · have := (Array.getElem?_eq_some_iff.1 (hcs (m.length - 1) (by omega))).1
        show m.length + off ≤ cs.size
        omega
      · have him : i < m.length := (List.getElem?_eq_some_iff.1 (show m[i]? = some a from hi)).1
        refine ⟨_, hcs i him, ?_⟩
        have hi : m[i]? = some a := hi
        rw [hat i (by omega)] at hi
        cases hi
        by_cases h6 : i < 6
        · rw [if_pos h6]; exact hV i (by omega) h6
        · rw [if_neg h6]; unfold VR; trivial
    · unfold VR
      exact .inl ⟨b, (off, off + c), off, c, hρ, rfl, fun _ => (Nat.zero_add _).symm, Nat.le_refl _, hc, fun h => (by cases h), by show off + c * 1 ≤ off + c; omega⟩
noncomputable def Γ7 : Gam := ((((Γc.rel 57 fun args σ v σ' => S57 args σ v ∧ σ' = σ).rel 27 fun args σ v σ' => S27 args σ v ∧ σ' = σ).rel 23 fun args σ v σ' => S23 args σ v ∧ σ' = σ).rel 25 fun args σ v σ' => S26 args σ v ∧ σ' = σ).rel 22 (SX Γc Tryd.f22.ntmps c22 [.tmp 2] S22)
theorem gam7_ok : GamOk Tryd.prog 4 Γ7 :=
  have h1 := Gam.rel_ok (Gam.rel_ok gamc_ok ok57) ok27
  Gam.rel_ok (Gam.rel_ok (Gam.rel_ok h1 (ok23 h1 (has57_of (by rfl)))) ok25) (ok22 gamc_ok)
def memD (bs : List UInt8) (q : Nat → List UInt8) (m : List AV) : List AObj := [.ints .u32 (wI S0) 62 .ro, .cells [.sl 4 0 8 8 false 1] 62 .ro, .cells [.sl 5 0 64 64 false 1] 62 .ro, .ints .u32 (wI KK) 62 .ro, .ints .u32 (wI S0) 62 .ro, .ints .u32 (wI KK) 62 .ro, .ints .u8 (bI bs) 5 .ro,
  .ints .u8 (bI (q 0)) 5 .ro, .ints .u8 (bI (q 1)) 5 .ro, .ints .u8 (bI (q 2)) 5 .ro, .ints .u8 (bI (q 3)) 5 .ro, .ints .u8 (bI (q 4)) 5 .ro, .ints .u8 (bI (q 5)) 5 .ro, .cells m 22 .ro]
variable {bs : List UInt8} {q : Nat → List UInt8} {m : List AV}
theorem memD_ro : ∀ o ∈ memD bs q m, o.isRo = true := by
  intro o ho
  simp only [memD, List.mem_cons, List.not_mem_nil, or_false] at ho
  rcases ho with rfl | rfl | rfl | rfl | rfl | rfl | rfl | rfl | rfl | rfl | rfl | rfl | rfl | rfl <;> rfl
theorem memD_len : (memD bs q m).length ≤ 1000000 := by show 14 ≤ _; omega
theorem memD_tabs : Tabs (hL (memD bs q m)) := by
  have g := hL_get (memD_len (bs := bs) (q := q) (m := m))
  exact ⟨by show 5 < 14; omega, ⟨_, _, g 0⟩, ⟨_, _, g 3⟩, ⟨_, _, _, _, _, _, _, g 1, g 4⟩, ⟨_, _, _, _, _, _, _, g 2, g 5⟩⟩
theorem derives_any (v0 v2 : Value) (bs s0 : List UInt8) (vs : List Value) (ps : List (List UInt8)) (w : World) (hB : BSl w v0 bs) (hP : PSl w v2 vs ps) (hpl : ps.length ≤ 9223372036854775807) (hS : TabC w 1 S0) (hK : TabC w 2 KK) (hgS : GlobS w) (hgK : GlobK w) (h3 : 3 < w.heap.size) :
    Calls Tryd.prog 7 #[v0, .string ⟨s0.toArray⟩, v2] w fun e w' => e = .returned (.bool true) ∧ Below w.heap.size w w' := by
  obtain ⟨bS, oS, cS, k1, k2, k3, k4⟩ := hS
  obtain ⟨bK, oK, cK, s1, s2, s3, s4⟩ := hK
  obtain ⟨a6, r6, h6, hv6, hi6⟩ := argl_of hB (by omega) 6
  have hpart : ∀ j, ∃ (a : AV) (r : Option (Nat × (Nat × Nat))), (∀ c d, r = some (c, d) → c < w.heap.size ∧ ∀ ρ, OR ρ d (.ints .u8 (bI (atP ps j)) 5 .ro) w.heap[c]?) ∧ (∀ ρ : Ren, ρ (7 + j) = r → j < ps.length → VR ρ a (atV vs j)) ∧
      ∀ σ : AH, 7 + j < σ.next → σ.get (7 + j) = some (.ints .u8 (bI (atP ps j)) 5 .ro) → IsB σ a (bI (atP ps j)) := fun j => by
    by_cases hj : j < ps.length
    · obtain ⟨a, r, e1, e2, e3⟩ := argl_of (hP.each j hj) (by omega) (7 + j)
      exact ⟨a, r, e1, fun ρ h _ => e2 ρ h, e3⟩
    · have e : atP ps j = [] := by unfold atP; rw [List.getD_eq_getElem?_getD, List.getElem?_eq_none (by omega)]; rfl
      rw [e]
      exact ⟨.nilsl, none, (fun c d h => by cases h), fun ρ _ h => absurd h hj, fun σ _ _ => .nil⟩
  obtain ⟨f, hf⟩ := Classical.axiomOfChoice hpart
  obtain ⟨g, hfg⟩ := Classical.axiomOfChoice hf
  obtain ⟨p, r13, m, h13, hv13, hi13⟩ := row_of hP f 13
  have gm := hL_get (memD_len (bs := bs) (q := atP ps) (m := m))
  obtain ⟨L, hL'⟩ : ∃ L : List (Option (Nat × (Nat × Nat))), L = [some (0, (0, 8)), some (1, (0, 1)), some (2, (0, 1)), some (3, (0, 64)), some (bS, (oS, oS + cS)), some (bK, (oK, oK + cK)), r6, g 0, g 1, g 2, g 3, g 4, g 5, r13] := ⟨_, rfl⟩
  have hg6 : ∀ j, j < 6 → rL L (7 + j) = g j := fun j hj => by
    subst hL'
    match j, hj with
    | 0, _ => rfl
    | 1, _ => rfl
    | 2, _ => rfl
    | 3, _ => rfl
    | 4, _ => rfl
    | 5, _ => rfl
  have hpv : ∀ j, j < ps.length → j < 6 → VR (rL L) (f j) (atV vs j) := fun j hj h6 => (hfg j).2.1 _ (hg6 j h6) hj
  have hpt : ∀ j c d, j < 6 → rL L (7 + j) = some (c, d) → c < w.heap.size ∧ OR (rL L) d (.ints .u8 (bI (atP ps j)) 5 .ro) w.heap[c]? := fun j c d hj h => by
    obtain ⟨e1, e2⟩ := (hfg j).1 c d (by rw [← hg6 j hj]; exact h)
    exact ⟨e1, e2 _⟩
  have hr : HR (rL L) (hL (memD bs (atP ps) m)) w := by
    refine hr_ro memD_len (by rw [hL']; rfl) memD_ro fun b c d o hb ho => ?_
    have hb' : rL L b = some (c, d) := by unfold rL; rw [hb]; rfl
    rw [hL'] at hb
    match b with
    | 0 => cases hb; cases ho; exact ⟨by omega, globS_row hgS _⟩
    | 1 => cases hb; cases ho; exact ⟨by omega, or_glob k1 k2 (by rw [hL']; rfl)⟩
    | 2 => cases hb; cases ho; exact ⟨by omega, or_glob s1 s2 (by rw [hL']; rfl)⟩
    | 3 => cases hb; cases ho; exact ⟨by omega, globK_row hgK _⟩
    | 4 => cases hb; cases ho; exact ⟨k3, or_ro (by rw [wI_length]; have : S0.length = 8 := rfl; omega) fun i hi => by rw [wI_getD]; exact k4 i (by rw [wI_length] at hi; exact hi)⟩
    | 5 => cases hb; cases ho; exact ⟨s3, or_ro (by rw [wI_length]; have : KK.length = 64 := rfl; omega) fun i hi => by rw [wI_getD]; exact s4 i (by rw [wI_length] at hi; exact hi)⟩
    | 6 =>
      have hb : some r6 = some (some (c, d)) := hb
      cases ho
      obtain ⟨e1, e2⟩ := h6 c d (Option.some.inj hb)
      exact ⟨e1, e2 _⟩
    | 7 => cases ho; exact hpt 0 c d (by omega) hb'
    | 8 => cases ho; exact hpt 1 c d (by omega) hb'
    | 9 => cases ho; exact hpt 2 c d (by omega) hb'
    | 10 => cases ho; exact hpt 3 c d (by omega) hb'
    | 11 => cases ho; exact hpt 4 c d (by omega) hb'
    | 12 => cases ho; exact hpt 5 c d (by omega) hb'
    | 13 =>
      have hb : some r13 = some (some (c, d)) := hb
      cases ho
      obtain ⟨e1, e2⟩ := h13 c d (Option.some.inj hb)
      exact ⟨e1, e2 _ hpv⟩
    | n + 14 => cases hb
  have hG : ∀ g, g < 4 → ∃ s, (rL L) g = some (g, (0, s)) := fun g hg => by
    rw [hL']
    match g, hg with
    | 0, _ => exact ⟨8, rfl⟩
    | 1, _ => exact ⟨1, rfl⟩
    | 2, _ => exact ⟨1, rfl⟩
    | 3, _ => exact ⟨64, rfl⟩
  have hQ : IsQ (hL (memD bs (atP ps) m)) p ps := hi13 _ (by show 13 < 14; omega) (gm 13) fun j hj h6 => (hfg j).2.2 _ (by show 7 + j < 14; omega) (by
    match j, h6 with
    | 0, _ => exact gm 7
    | 1, _ => exact gm 8
    | 2, _ => exact gm 9
    | 3, _ => exact gm 10
    | 4, _ => exact gm 11
    | 5, _ => exact gm 12)
  have hw := walk7 (Γ := Γ7) (has22 (Γ := Γc) (by rfl)) (has23_of (by rfl)) (has24_of (by rfl)) (has25_of (by rfl)) (has26_of (by rfl)) (has27_of (by rfl))
    (σ := hL (memD bs (atP ps) m)) (s0 := s0) (hi6 _ (by show 6 < 14; omega) (gm 6)) hQ hpl memD_tabs (by show 14 ≤ _; omega) (K := fun av _ => av = .bool true) (fun _ => rfl)
  refine (call_sound (xs := [.tmp 6]) (K := fun av _ => av = .bool true) (vs := [v0, .string ⟨s0.toArray⟩, v2]) mixed gam7_ok (pu := fun _ => false) (fun f h => by cases h) Tryd.func7 body7 cc7 cr7 (by kernel_rfl) (by kernel_rfl) hw hG hr ⟨v0, _, rfl, hv6 _ (by rw [hL']; rfl), _, _, rfl, by unfold VR; rfl, _, [], rfl, hv13 _ (by rw [hL']; rfl), rfl⟩).mono fun e W' ⟨u, av, σ', ρ', e1, e2, e3, e4, e5⟩ => ?_
  subst e1 e2
  refine ⟨?_, Below.ofStp memD_len hr memD_ro e4⟩
  unfold VR at e5
  rw [e5]
end Go.Proofs.YtjkicmlelilcaaaDoor.V2
