/- Part 13 of the proof: texts of the proof. -/
import Derived.Test.YtjoakhpdajlhiaaDoorQW12
namespace Go.Proofs.YtjoakhpdajlhiaaDoor.V2.S
open Go
set_option maxRecDepth 100000
set_option maxHeartbeats 4000000
set_option linter.unusedVariables false
attribute [local irreducible] fN fO nM gM pM Phi.fn mp bl bpart bapp top1 pack numV
theorem parse_sh {l : Bs} (h : textO l 0 = none ∨ ∃ c o1, textO l 0 = some (c, o1) ∧ (l.length < o1 + 2 ∨ loopP l (numV l o1) (o1 + 2) newG true = none)) : parseG l = (none, 4) := by
  unfold parseG
  rcases h with h | ⟨c, o1, h, h2⟩
  · rw [h]
  · rw [h]
    show (if o1 + 2 ≤ l.length then _ else _) = _
    by_cases h3 : o1 + 2 ≤ l.length
    · rw [if_pos h3, h2.resolve_left (by omega)]
    · rw [if_neg h3]
theorem parse_of {l c : Bs} {o1 : Nat} {t : Tr} {g : Bool} (h : textO l 0 = some (c, o1)) (h1 : o1 + 2 ≤ l.length) (h2 : loopP l (numV l o1) (o1 + 2) newG true = some (t, g)) : parseG l = if g = true ∧ (cdG t c).2 = 0 ∧ treeB (cdG t c).1 = l then (some (cdG t c).1, 0) else (none, 5) := by
  unfold parseG
  rw [h]
  show (if o1 + 2 ≤ l.length then _ else _) = _
  rw [if_pos h1, h2]
def cntP (l : Bs) : Nat := match textO l 0 with
  | none => 0
  | some (_, o1) => numV l o1
theorem cntP_of {l c : Bs} {o1 : Nat} (h : textO l 0 = some (c, o1)) : cntP l = numV l o1 := by unfold cntP; rw [h]
def ParseS (H : HF) : Prop := ∀ {Bb K n : Nat} {x : Bool} {l : Bs} {e : TypeId} {tl : Tl} {m : T FObj}, Am m Bb (.bs (pack l) e tl) → Bb < n → l.length ≤ K → l.length ≤ 900000 → ∀ (k : KV) (P : FR), n + (2000 + 160 * min (cntP l) (l.length / 3) + 2 * l.length) ≤ 1000000 →
  (∀ c n' m', parseG l = (none, c) → (c = 4 ∨ c = 5) → n ≤ n' → n' ≤ n + (2000 + 160 * min (cntP l) (l.length / 3) + 2 * l.length) → Kp n m m' → k (.tup [.o .ptr, .n .i64 c]) ⟨n', m'⟩ = P) →
  (∀ t tb mb n' m', parseG l = (some t, 0) → n ≤ n' → n' ≤ n + (2000 + 160 * min (cntP l) (l.length / 3) + 2 * l.length) → Kp n m m' → tb ≠ mb → n ≤ tb → tb < n' → n ≤ mb → mb < n' → TreeAt m' tb mb 65 t → k (.tup [.p tb 0, .n .i64 0]) ⟨n', m'⟩ = P) → H [.sl Bb 0 l.length K x 1] ⟨n, m⟩ k = P
theorem parse_s {O : Oz} (hO : O = zO) (Φ : Phi) (HNew : NewS (Phi.fn Φ 26)) (HTx : TextS (Phi.fn Φ 42)) (HNu : NumS (Phi.fn Φ 43)) (HTk : TakeS (Phi.fn Φ 44)) (HA : AbsF (Phi.fn Φ 12)) (HK : KindS (Phi.fn Φ 35)) (HP : PutS (Phi.fn Φ 39)) (HCd : CdS (Phi.fn Φ 16)) (HB : BytesS (Phi.fn Φ 10)) (HE : EqBS (Phi.fn Φ 17)) : ParseS (p21 O Φ) := fun {Bb K n x l e tl m} ha hb hK hl9 k P hn hc1 hc2 => by
  have hnv0 := numV_le l 0
  have hl0 : 0 + l.length = l.length := Nat.zero_add _
  repeat' ((conv => lhs; whnf); first | ((with_reducible refine atFn ?_); first | (refine HNew _ _ _ _ (by omega) (fun v1 n1 m1 h1 g1 k1 q1 => ?_); obtain ⟨tb, mb, rfl, htm, t1, t2, t3, t4, hT⟩ := q1; have k1p := Kq.kp k1; have hTs := hT.s; have hTm := hT.m; clear hT) | (refine HTx (rb := n) (Bb := Bb) ⟨K, x, hK, (by (repeat (first | assumption | exact am_same (by omega) | apply am_ne (by omega) (by omega) | apply kp_am (by assumption) (by omega) | apply Kq.am (by assumption) (by omega) (by first | exact nm0 | exact nm1 (by omega) | exact nm2 (by omega) (by omega)))); fail_if_success show _)⟩ (by (repeat (first | assumption | exact am_same (by omega) | apply am_ne (by omega) (by omega) | apply kp_am (by assumption) (by omega) | apply Kq.am (by assumption) (by omega) (by first | exact nm0 | exact nm1 (by omega) | exact nm2 (by omega) (by omega)))); fail_if_success show _) (by omega) (by omega) (by omega) (by omega) hl9 _ _ (by omega) (fun hs z2 o2 R2 n2 m2 hz2 ho2 h2 g2 k2 r2 => (fun k2l => ?_) (Kq.low (n := n) k2 (by omega) (fun x hx => by simp only [List.mem_cons, List.not_mem_nil, or_false] at hx; omega))) (fun hs hm hv m2 k2 r2 => (fun k2l => ?_) (Kq.low (n := n) k2 (by omega) (fun x hx => by simp only [List.mem_cons, List.not_mem_nil, or_false] at hx; omega))); rotate_left; (have hxc := textO_some (l := l) (o := 0) (R := l.length) hl0 hm hv; generalize hpc : (l.drop (0 + 2)).take (numV l 0) = c at hxc ⊢; have hcl : c.length = numV l 0 := (by rw [← hpc, List.length_take, List.length_drop]; omega); clear hpc); rotate_left) | (refine HNu (rb := n) (Bb := Bb) r2 (by (repeat (first | assumption | exact am_same (by omega) | apply am_ne (by omega) (by omega) | apply kp_am (by assumption) (by omega) | apply Kq.am (by assumption) (by omega) (by first | exact nm0 | exact nm1 (by omega) | exact nm2 (by omega) (by omega)))); fail_if_success show _) (by omega) (by omega) (by omega) (by omega) hl9 _ _ (by omega) (fun hs3 n3 m3 h3 g3 k3 r3 => (fun k3l => ?_) (Kq.low (n := n) k3 (by omega) (fun x hx => by simp only [List.mem_cons, List.not_mem_nil, or_false] at hx; omega))) (fun hs3 hm3 m3 k3 r3 => (fun k3l => ?_) (Kq.low (n := n) k3 (by omega) (fun x hx => by simp only [List.mem_cons, List.not_mem_nil, or_false] at hx; omega))))) | ((with_reducible refine atBx ?_); refine bxA hO (by omega) (by simp only [αL, αV, AObj.of, βO, βL, βV]) ?_) | ((with_reducible refine atBu ?_); refine buE hO [.sl Bb 0 l.length K x 1, .b false] (fun _ _ => rfl) (by rfl) ?_))
  all_goals (conv => lhs; whnf)
  all_goals first
    | exact absurd hs3 (by decide)
    | refine lpI hO (fun q e n' m' => q = 0 ∧ n' = n3 ∧ m' = m3 ∧ ∃ y, e = eof [(2, .o .ptr), (3, .n .i64 0), (7, .n .i64 0), (10, y), (21, .n .i64 0)]) ?_ ?_ _ 0 _ _ _ (by omega) ⟨rfl, rfl, rfl, .o .top, rfl⟩
    | skip
  all_goals first
    | (rintro q e n' m' ⟨_, rfl, _⟩; omega)
    | (rintro q e n' m' ih ⟨rfl, rfl, rfl, y0, rfl⟩ hih
       obtain ⟨K3, x3, hK3, hr3⟩ := r3
       repeat' ((conv => lhs; whnf); first | ((with_reducible refine fa0 hO ?_)) | ((with_reducible refine atLd ?_); refine ldC hO aQ (by rfl) ?_) | ((with_reducible refine ltF hO (by omega) ?_)))
       all_goals (conv => lhs; whnf)
       all_goals first
         | exact hc1 4 _ _ (parse_sh (.inl (textO_no hl0 (by rcases hs with h | h; cases h; exact h)))) (.inl rfl) (by omega) (by omega) kQ
         | exact hc1 4 _ _ (parse_sh (.inr ⟨_, _, hxc, .inl (by rcases hs3 with h | h; cases h; omega)⟩)) (.inl rfl) (by omega) (by omega) kQ)
    | (have hcp := cntP_of hxc
       rw [hcp] at hn hc1 hc2
       have hnv2 := numV_le l (0 + 2 + numV l 0)
       refine loopP_s hO Φ HTx HTk HA HK HP (n := n) (rb := n) (Bb := Bb) (tb := tb) (mb := mb) (l := l) (m := m) (o1 := 0 + 2 + numV l 0 + 2) (cnt := numV l (0 + 2 + numV l 0)) (Nat.le_refl _) (by omega) (by omega) (by omega) (by omega) (by omega) htm (by omega) (by omega) hb hl9 hnv2 (by omega) ha kQ (by omega) (RdS.eq r3 (by omega)) ⟨(by (repeat (first | assumption | exact am_same (by omega) | apply am_ne (by omega) (by omega) | apply kp_am (by assumption) (by omega) | apply Kq.am (by assumption) (by omega) (by first | exact nm0 | exact nm1 (by omega) | exact nm2 (by omega) (by omega)))); fail_if_success show _), (by (repeat (first | assumption | exact am_same (by omega) | apply am_ne (by omega) (by omega) | apply kp_am (by assumption) (by omega) | apply Kq.am (by assumption) (by omega) (by first | exact nm0 | exact nm1 (by omega) | exact nm2 (by omega) (by omega)))); fail_if_success show _)⟩ (by omega) ?_ ?_
       · rintro e' n' m' o' R' hl5 h5 g5 k5 r5 ⟨z, y, w, rfl⟩
         obtain ⟨K5, x5, hK5, hr5⟩ := r5
         repeat' ((conv => lhs; whnf); first | ((with_reducible refine fa0 hO ?_)) | ((with_reducible refine atLd ?_); refine ldC hO aQ (by rfl) ?_))
         all_goals (conv => lhs; whnf)
         all_goals first
           | exact hc1 4 _ _ (parse_sh (.inr ⟨_, _, hxc, .inr hl5⟩)) (.inl rfl) (by omega) (by omega) k5
       · rintro t g y n5 m5 o' hl5 h5 g5 k5 r5 hT5 hW5 hO5
         obtain ⟨K5, x5, hK5, hr5⟩ := r5
         have hpo := parse_of hxc (by omega) hl5
         generalize hgv : (if g = true then 0 else 5 : Nat) = gv
         rcases g with _ | _
         obtain rfl : gv = 5 := hgv.symm
         rotate_left
         obtain rfl : gv = 0 := hgv.symm
         rotate_left
         repeat' ((conv => lhs; whnf); first | ((with_reducible refine atFn ?_); first | (refine HCd (t := t) ⟨hT5.s, hT5.m⟩ (by omega) (by omega) hW5 c (by omega) _ _ (by omega) (fun v6 n6 m6 h6 g6 k6 q6 => ?_); obtain ⟨rfl, hT6⟩ := q6; have hT6 := hT6 htm; have k6p := k5.trans (Kq.low (n := n) k6 (by omega) (fun x hx => by simp only [List.mem_cons, List.not_mem_nil, or_false] at hx; omega)) (Nat.le_refl n)) | (refine HB (t := (cdG t c).1) ⟨hT6.s, hT6.m⟩ (by omega) (by omega) (cdG_wf hW5 c) _ _ (by omega) (fun v7 n7 m7 h7 g7 k7 q7 => ?_); obtain ⟨bb, rfl, b1, b2, b3⟩ := q7; have k7p := k6p.trans (Kq.low (n := n) k7 (by omega) (fun x hx => absurd hx List.not_mem_nil)) (Nat.le_refl n); have hT7 := hT6.kp (Kq.kp k7) (by omega) (by omega)) | (refine HE b3 (k7p _ _ (by omega) ha) (by have := byI_len (cdG_wf hW5 c) (cdG t c).1.L.length; rw [byI_all] at this; omega) hl9 _ _ ?_; rcases Decidable.em (treeB (cdG t c).1 = l) with hq | hq; rw [decide_eq_true hq]; rotate_left; rw [decide_eq_false hq]; rotate_left)) | ((with_reducible refine fa0 hO ?_)) | ((with_reducible refine atLd ?_); refine ldC hO aQ (by rfl) ?_) | ((with_reducible refine neT hO (by omega) ?_)) | ((with_reducible refine neF hO (by omega) ?_)) | ((with_reducible refine neB hO (fun h => ?_) (fun h => ?_))))
         all_goals (conv => lhs; whnf)
         all_goals first
           | exact hc1 5 _ _ (hpo.trans (if_neg fun h => absurd h.1 (by decide))) (.inr rfl) (by omega) (by omega) k5
           | exact hc1 5 _ _ (hpo.trans (if_neg fun h => absurd h.2.1 (by assumption))) (.inr rfl) (by omega) (by omega) k6p
           | exact hc1 5 _ _ (hpo.trans (if_neg fun h => absurd h.2.2 (by assumption))) (.inr rfl) (by omega) (by omega) k7p
           | exact hc2 _ _ _ _ _ (hpo.trans (if_pos ⟨rfl, by assumption, by assumption⟩)) (by omega) (by omega) k7p htm (by omega) (by omega) (by omega) (by omega) hT7)
end Go.Proofs.YtjoakhpdajlhiaaDoor.V2.S
namespace Go.Proofs.YtjoakhpdajlhiaaDoor.V2.S
open Go
set_option maxRecDepth 100000
set_option maxHeartbeats 4000000
set_option linter.unusedVariables false
attribute [local irreducible] fN fO nM gM pM Phi.fn mp bl bpart bapp top1 pack numV
theorem svN {O : Oz} (hO : O = zO) {P : FR} {c : FV → FR} {k : IntKind} {z : Nat} (hc : c (.o .sl) = P) : O.sv z (.o .sl) none (some (.n k 0)) none c = P := by subst hO; exact hc
def RdN (m : T FObj) (rb : Nat) (s : Bool) : Prop := Am m rb (.cells [.o .sl, .b s] 79 .exact)
def TakeN (H : HF) : Prop := ∀ {rb many n : Nat} {s : Bool} {m : T FObj}, RdN m rb s → rb < n → many ≤ 900000 → (s = true ∨ 0 < many) → ∀ (k : KV) (P : FR), n + 1 ≤ 1000000 →
  (∀ m', Kq [rb] n m m' → RdN m' rb true → Am m' n (.bs (pack (List.replicate (min many 2) 0)) 5 .exact) → k (.sl n 0 (min many 2) (min many 2) true 1) ⟨n + 1, m'⟩ = P) → H [.p rb 0, .n .i64 many] ⟨n, m⟩ k = P
theorem take_n {O : Oz} (hO : O = zO) (Φ : Phi) : TakeN (p44 O Φ) := fun {rb many n s m} hR hrb hmany hs k P hn h1 => by
  have hr : Am m rb (.cells [.o .sl, .b s] 79 .exact) := hR
  cases s
  repeat' ((conv => lhs; whnf); first | ((with_reducible refine mkB hO (by omega) (by omega) ?_)) | ((with_reducible refine fa0 hO ?_)) | ((with_reducible refine atLd ?_); refine ldC hO aQ (by rfl) ?_) | ((with_reducible refine lvN hO ?_)) | ((with_reducible refine gtB hO (fun h => ?_) (fun h => ?_))) | ((with_reducible refine mnI hO ?_)) | ((with_reducible refine atSt ?_); refine stC hO aQ (by kernel_rfl) (fun _ _ _ => rfl) (fun _ => rfl) ?_) | ((with_reducible first | refine umt hO ?_ | refine uqu hO ?_ | refine urm hO ?_ | refine uan hO ?_ | refine uro hO ?_ | refine uxr hO ?_ | refine uhl hO ?_ | refine uhr hO ?_ | refine uad hO ?_ | refine usb hO ?_ | refine ult hO ?_ | refine ule hO ?_ | refine ugt hO ?_ | refine uge hO ?_ | refine ueq hO ?_ | refine une hO ?_ | refine ucv hO ?_ | refine uia hO ?_ | refine usv hO ?_ | refine ubu hO ?_ | refine uap hO ?_ | refine ubs hO ?_ | refine umm hO ?_ | refine upq hO ?_ | refine unq hO ?_ | refine uln hO ?_)) | ((with_reducible refine atB ?_); refine brecBT (by omega) ?_))
  all_goals (conv => lhs; whnf)
  all_goals first
    | exact h1 _ qQ (by (repeat (first | assumption | exact am_same (by omega) | apply am_ne (by omega) (by omega) | apply kp_am (by assumption) (by omega) | apply Kq.am (by assumption) (by omega) (by first | exact nm0 | exact nm1 (by omega) | exact nm2 (by omega) (by omega)))); fail_if_success show _) (am_same (by omega))
    | (exfalso; rcases hs with h | h; cases h; omega)
def NumN (H : HF) : Prop := ∀ {rb n : Nat} {s : Bool} {m : T FObj}, RdN m rb s → rb < n → ∀ (k : KV) (P : FR), n + 1 ≤ 1000000 → (∀ m', Kq [rb] n m m' → RdN m' rb true → k (.n .i64 0) ⟨n + 1, m'⟩ = P) → H [.p rb 0] ⟨n, m⟩ k = P
theorem num_n {O : Oz} (hO : O = zO) (Φ : Phi) (H : TakeN (Phi.fn Φ 44)) : NumN (p43 O Φ) := fun {rb n s m} hR hrb k P hn h1 => by
  repeat' ((conv => lhs; whnf); first | ((with_reducible refine hl0 hO ?_)) | ((with_reducible refine ro0 hO ?_)) | ((with_reducible refine atFn ?_); (refine H hR (by omega) (by omega) (.inr (by omega)) _ _ (by omega) (fun m1 k1 r1 a1 => ?_); rw [Nat.min_self])) | ((with_reducible refine atLd ?_); (refine ldB hO a1 (by rw [List.length_replicate]; decide) ?_; rw [bt_rep])) | ((with_reducible refine cvI hO (by omega) ?_)) | ((with_reducible refine ix01 hO (by omega) ?_)))
  all_goals (conv => lhs; whnf)
  all_goals first
    | exact h1 _ qQ r1
def TextN (H : HF) : Prop := ∀ {rb n : Nat} {s : Bool} {m : T FObj}, RdN m rb s → rb < n → ∀ (k : KV) (P : FR), n + 2 ≤ 1000000 → (∀ z m', Kq [rb] n m m' → RdN m' rb true → k (.s (pack z)) ⟨n + 2, m'⟩ = P) → H [.p rb 0] ⟨n, m⟩ k = P
theorem text_n {O : Oz} (hO : O = zO) (Φ : Phi) (HN : NumN (Phi.fn Φ 43)) (H : TakeN (Phi.fn Φ 44)) : TextN (p42 O Φ) := fun {rb n s m} hR hrb k P hn h1 => by
  repeat' ((conv => lhs; whnf); first | (refine bSP hO (by (repeat (first | assumption | exact am_same (by omega) | apply am_ne (by omega) (by omega) | apply kp_am (by assumption) (by omega) | apply Kq.am (by assumption) (by omega) (by first | exact nm0 | exact nm1 (by omega) | exact nm2 (by omega) (by omega)))); fail_if_success show _) (by first | omega | (rw [List.length_replicate]; omega)) ?_) | ((with_reducible refine atFn ?_); first | (refine HN hR (by omega) _ _ (by omega) (fun m1 k1 r1 => ?_)) | (refine H r1 (by omega) (by omega) (.inl rfl) _ _ (by omega) (fun m2 k2 r2 a2 => ?_))))
  all_goals (conv => lhs; whnf)
  all_goals first
    | exact h1 _ _ qQ r2
def ParseN (H : HF) : Prop := ∀ (n : Nat) (m : T FObj), Ret 20 H [.o .sl] n m (.tup [.o .ptr, .n .i64 4])
theorem parse_n {O : Oz} (hO : O = zO) (Φ : Phi) (HNew : NewS (Phi.fn Φ 26)) (HTx : TextN (Phi.fn Φ 42)) (HNu : NumN (Phi.fn Φ 43)) : ParseN (p21 O Φ) := fun n m k P hn hf => by
  repeat' ((conv => lhs; whnf); first | ((with_reducible refine atFn ?_); first | (refine HNew _ _ _ _ (by omega) (fun v1 n1 m1 h1 g1 k1 q1 => ?_); obtain ⟨tb, mb, rfl, htm, t1, t2, t3, t4, hT⟩ := q1; have k1p := Kq.kp k1) | (refine HTx (rb := n) (s := false) (show Am _ _ _ from (by (repeat (first | assumption | exact am_same (by omega) | apply am_ne (by omega) (by omega) | apply kp_am (by assumption) (by omega) | apply Kq.am (by assumption) (by omega) (by first | exact nm0 | exact nm1 (by omega) | exact nm2 (by omega) (by omega)))); fail_if_success show _)) (by omega) _ _ (by omega) (fun z2 m2 k2 r2 => (fun k2l => ?_) (Kq.low (n := n) k2 (by omega) (fun x hx => by simp only [List.mem_cons, List.not_mem_nil, or_false] at hx; omega)))) | (refine HNu (rb := n) r2 (by omega) _ _ (by omega) (fun m3 k3 r3 => (fun k3l => ?_) (Kq.low (n := n) k3 (by omega) (fun x hx => by simp only [List.mem_cons, List.not_mem_nil, or_false] at hx; omega))))) | ((with_reducible refine atBx ?_); refine bxA hO (by omega) (by rfl) ?_) | ((with_reducible refine atBu ?_); refine buE hO [.o .sl, .b false] (fun _ _ => rfl) (by rfl) ?_))
  all_goals (conv => lhs; whnf)
  all_goals first
    | refine lpI hO (fun q e n' m' => q = 0 ∧ n' = n1 + 2 + 1 ∧ m' = m3 ∧ ∃ y, e = eof [(2, .o .ptr), (3, .n .i64 0), (7, .n .i64 0), (10, y), (21, .n .i64 0)]) ?_ ?_ _ 0 _ _ _ (by omega) ⟨rfl, rfl, rfl, .o .top, rfl⟩
  all_goals first
    | (rintro q e n' m' ⟨_, rfl, _⟩; omega)
    | (rintro q e n' m' ih ⟨rfl, rfl, rfl, y0, rfl⟩ hih
       have hr3 : Am m' n (.cells [.o .sl, .b true] 79 .exact) := r3
       repeat' ((conv => lhs; whnf); first | ((with_reducible refine fa0 hO ?_)) | ((with_reducible refine atLd ?_); refine ldC hO aQ (by rfl) ?_) | ((with_reducible refine ltF hO (by omega) ?_)))
       all_goals (conv => lhs; whnf)
       all_goals first
         | exact hf _ _ (by omega) (by omega) kQ)
end Go.Proofs.YtjoakhpdajlhiaaDoor.V2.S
namespace Go.Proofs.YtjoakhpdajlhiaaDoor.V2.S
open Go
set_option maxRecDepth 100000
set_option maxHeartbeats 4000000
set_option linter.unusedVariables false
attribute [local irreducible] fN fO nM gM pM Phi.fn mp bl bpart bapp top1 pack
theorem cntP_own {t : Tr} (hW : WfT t) : cntP (treeB t) = t.L.length := by
  have hcl := hW.c2
  have hlen := hW.len
  have h1 : textO (treeB t) 0 = some (t.cwd, 2 + t.cwd.length) := by
    have := textO_told (A := []) (s := t.cwd) (B := twoB t.L.length ++ (sortE t.L).flatMap entB) (by omega)
    rw [List.nil_append, List.length_nil, Nat.zero_add] at this
    unfold treeB
    rw [List.append_assoc]; exact this
  rw [cntP_of h1]
  have := numV_two (A := toldB t.cwd) (B := (sortE t.L).flatMap entB) (a := t.L.length) (by omega)
  rw [toldB_len] at this
  unfold treeB
  rw [List.append_assoc]; exact this
def WLawS (H : HF) : Prop := ∀ {l : List Ac} {n : Nat} {m : T FObj} {v : FV} {Bb N0 : Nat} {x : Bool} {bs : Bs} {e : TypeId} {tl : Tl}, RowA m n v l → (∀ x ∈ l, x.m ≤ 65535) → Am m Bb (.bs (pack bs) e tl) → Bb < n → bs.length = min N0 2000 → Ret 600000 H [v, .sl Bb 0 N0 N0 x 1] n m (.b true)
def WLawN (H : HF) : Prop := ∀ {l : List Ac} {n : Nat} {m : T FObj} {v : FV}, RowA m n v l → (∀ x ∈ l, x.m ≤ 65535) → Ret 600000 H [v, .o .sl] n m (.b true)
theorem wlaw_s {O : Oz} (hO : O = zO) (Φ : Phi) (HR : RunR (Phi.fn Φ 7)) (HB : BytesS (Phi.fn Φ 10)) (HPa : ParseS (Phi.fn Φ 21)) (HWh : WholeS (Phi.fn Φ 24)) (HE : EqBS (Phi.fn Φ 17)) (HCo : CopyS (Phi.fn Φ 25)) (HCd : CdS (Phi.fn Φ 16)) (HM : MakeS (Phi.fn Φ 14)) (HT : TellsS (Phi.fn Φ 18)) : WLawS (p5 O Φ) := fun {l n m v Bb N0 x bs e tl} hRA hm ha hBn hbl k P hn hf => by
  skip
  all_goals (conv => lhs; whnf)
  refine atFn ?_
  refine HR hRA hm _ _ (by omega) (fun v1 n1 m1 h1 g1 k1 q1 => ?_)
  obtain ⟨tb, mb, t, rfl, htm, t1, t2, t3, t4, hT, hW, hRc⟩ := q1
  have kk : Kp n m m1 := Kq.kp k1
  have hOk := hRc.ok.2
  have hc1 := hW.c1
  have hc2 := hW.c2
  have hwl := hW.len
  have htl : (treeB t).length ≤ 34000 := by rw [← byI_all]; exact byI_len hW _
  have aT := hT.s
  have aM := hT.m
  clear hT
  have aB := k1 _ _ (by omega) nm0 ha
  skip
  all_goals (conv => lhs; whnf)
  refine atFn ?_
  refine HB (t := t) ⟨aT, aM⟩ (by omega) (by omega) hW _ _ (by omega) (fun v2 n2 m2 h2 g2 k2 q2 => ?_)
  obtain ⟨ob, rfl, b1, b2, aO⟩ := q2
  replace kk := kk.trans (Kq.low (n := n) k2 (by omega) (fun x hx => by first | exact absurd hx List.not_mem_nil | (rw [List.mem_singleton.1 hx]; omega))) (Nat.le_refl n)
  replace aB := k2 _ _ (by omega) (by first | exact nm0 | exact nm1 (by omega)) aB
  replace aT := k2 _ _ (by omega) (by first | exact nm0 | exact nm1 (by omega)) aT
  replace aM := k2 _ _ (by omega) (by first | exact nm0 | exact nm1 (by omega)) aM
  have hcp := cntP_own hW
  skip
  all_goals (conv => lhs; whnf)
  refine atFn ?_
  refine HPa (l := treeB t) aO (by omega) (Nat.le_refl _) (by omega) _ _ (by omega) (fun c n3 m3 hp _ _ _ _ => absurd (hp.symm.trans (parse_own hW hOk)) (by simp)) (fun u tb2 mb2 n3 m3 hpu h3 g3 k3 htm2 u1 u2 u3 u4 hTu => ?_)
  obtain ⟨hWu, hOu, hub, _⟩ := parseG_ok hpu
  replace kk := kk.trans k3 (by omega)
  replace aB := k3 _ _ (by omega) aB
  replace aT := k3 _ _ (by omega) aT
  replace aM := k3 _ _ (by omega) aM
  replace aO := k3 _ _ (by omega) aO
  have aU := hTu.s
  have aV := hTu.m
  clear hTu
  skip
  all_goals (conv => lhs; whnf)
  refine atFn ?_
  refine HWh (t := t) ⟨aT, aM⟩ (by omega) (by omega) hW hOk _ _ (by omega) (fun n4 m4 h4 g4 k4 => ?_)
  replace kk := kk.trans k4 (by omega)
  replace aB := k4 _ _ (by omega) aB
  replace aT := k4 _ _ (by omega) aT
  replace aM := k4 _ _ (by omega) aM
  replace aO := k4 _ _ (by omega) aO
  replace aU := k4 _ _ (by omega) aU
  replace aV := k4 _ _ (by omega) aV
  repeat' ((conv => lhs; whnf); first | ((with_reducible refine neF hO (by omega) ?_)))
  all_goals (conv => lhs; whnf)
  refine atFn ?_
  refine HB (t := u) ⟨aU, aV⟩ (by omega) (by omega) hWu _ _ (by omega) (fun v5 n5 m5 h5 g5 k5 q5 => ?_)
  obtain ⟨ob5, rfl, b51, b52, a5⟩ := q5
  replace kk := kk.trans (Kq.low (n := n) k5 (by omega) (fun x hx => by first | exact absurd hx List.not_mem_nil | (rw [List.mem_singleton.1 hx]; omega))) (Nat.le_refl n)
  replace aB := k5 _ _ (by omega) (by first | exact nm0 | exact nm1 (by omega)) aB
  replace aT := k5 _ _ (by omega) (by first | exact nm0 | exact nm1 (by omega)) aT
  replace aM := k5 _ _ (by omega) (by first | exact nm0 | exact nm1 (by omega)) aM
  replace aO := k5 _ _ (by omega) (by first | exact nm0 | exact nm1 (by omega)) aO
  replace aU := k5 _ _ (by omega) (by first | exact nm0 | exact nm1 (by omega)) aU
  replace aV := k5 _ _ (by omega) (by first | exact nm0 | exact nm1 (by omega)) aV
  skip
  all_goals (conv => lhs; whnf)
  refine atFn ?_
  refine HE a5 aO (by rw [hub]; omega) (by omega) _ _ ?_
  rw [decide_eq_true hub]
  skip
  all_goals (conv => lhs; whnf)
  refine atFn ?_
  refine HCo (t := t) ⟨aT, aM⟩ (by omega) (by omega) _ _ (by omega) (fun v6 n6 m6 h6 g6 k6 q6 => ?_)
  obtain ⟨tc, mc, rfl, htc, w1, w2, w3, w4, hTc⟩ := q6
  replace kk := kk.trans (Kq.low (n := n) k6 (by omega) (fun x hx => by first | exact absurd hx List.not_mem_nil | (rw [List.mem_singleton.1 hx]; omega))) (Nat.le_refl n)
  replace aB := k6 _ _ (by omega) (by first | exact nm0 | exact nm1 (by omega)) aB
  replace aT := k6 _ _ (by omega) (by first | exact nm0 | exact nm1 (by omega)) aT
  replace aM := k6 _ _ (by omega) (by first | exact nm0 | exact nm1 (by omega)) aM
  replace aO := k6 _ _ (by omega) (by first | exact nm0 | exact nm1 (by omega)) aO
  replace aU := k6 _ _ (by omega) (by first | exact nm0 | exact nm1 (by omega)) aU
  replace aV := k6 _ _ (by omega) (by first | exact nm0 | exact nm1 (by omega)) aV
  skip
  all_goals (conv => lhs; whnf)
  refine atFn ?_
  refine HCd (t := t) hTc (by omega) (by omega) hW [47] (by decide) _ _ (by omega) (fun v7 n7 m7 h7 g7 k7 q7 => ?_)
  obtain ⟨rfl, hTc7⟩ := q7
  replace hTc7 := hTc7 htc
  replace kk := kk.trans (Kq.low (n := n) k7 (by omega) (fun x hx => by first | exact absurd hx List.not_mem_nil | (rw [List.mem_singleton.1 hx]; omega))) (Nat.le_refl n)
  replace aB := k7 _ _ (by omega) (by first | exact nm0 | exact nm1 (by omega)) aB
  replace aT := k7 _ _ (by omega) (by first | exact nm0 | exact nm1 (by omega)) aT
  replace aM := k7 _ _ (by omega) (by first | exact nm0 | exact nm1 (by omega)) aM
  replace aO := k7 _ _ (by omega) (by first | exact nm0 | exact nm1 (by omega)) aO
  replace aU := k7 _ _ (by omega) (by first | exact nm0 | exact nm1 (by omega)) aU
  replace aV := k7 _ _ (by omega) (by first | exact nm0 | exact nm1 (by omega)) aV
  skip
  all_goals (conv => lhs; whnf)
  refine atFn ?_
  refine HM (t := (cdG t [47]).1) hTc7 (by omega) (by omega) htc (cdG_wf hW _) [99, 111, 112, 121, 32, 111, 102, 32, 97, 108, 108] (by decide) _ _ (by omega) (fun v8 n8 m8 h8 g8 k8 q8 => ?_)
  obtain ⟨rfl, hTc8⟩ := q8
  replace kk := kk.trans (Kq.low (n := n) k8 (by omega) (fun x hx => by first | exact absurd hx List.not_mem_nil | (rw [List.mem_singleton.1 hx]; omega))) (Nat.le_refl n)
  replace aB := k8 _ _ (by omega) (by first | exact nm0 | exact nm1 (by omega)) aB
  replace aT := k8 _ _ (by omega) (by first | exact nm0 | exact nm1 (by omega)) aT
  replace aM := k8 _ _ (by omega) (by first | exact nm0 | exact nm1 (by omega)) aM
  replace aO := k8 _ _ (by omega) (by first | exact nm0 | exact nm1 (by omega)) aO
  replace aU := k8 _ _ (by omega) (by first | exact nm0 | exact nm1 (by omega)) aU
  replace aV := k8 _ _ (by omega) (by first | exact nm0 | exact nm1 (by omega)) aV
  clear hTc hTc7 hTc8
  skip
  all_goals (conv => lhs; whnf)
  refine atFn ?_
  refine HB (t := t) ⟨aT, aM⟩ (by omega) (by omega) hW _ _ (by omega) (fun v9 n9 m9 h9 g9 k9 q9 => ?_)
  obtain ⟨ob9, rfl, b91, b92, a9⟩ := q9
  replace kk := kk.trans (Kq.low (n := n) k9 (by omega) (fun x hx => by first | exact absurd hx List.not_mem_nil | (rw [List.mem_singleton.1 hx]; omega))) (Nat.le_refl n)
  replace aB := k9 _ _ (by omega) (by first | exact nm0 | exact nm1 (by omega)) aB
  replace aT := k9 _ _ (by omega) (by first | exact nm0 | exact nm1 (by omega)) aT
  replace aM := k9 _ _ (by omega) (by first | exact nm0 | exact nm1 (by omega)) aM
  replace aO := k9 _ _ (by omega) (by first | exact nm0 | exact nm1 (by omega)) aO
  replace aU := k9 _ _ (by omega) (by first | exact nm0 | exact nm1 (by omega)) aU
  replace aV := k9 _ _ (by omega) (by first | exact nm0 | exact nm1 (by omega)) aV
  skip
  all_goals (conv => lhs; whnf)
  refine atFn ?_
  refine HE a9 aO (by omega) (by omega) _ _ ?_
  rw [decide_eq_true (rfl : treeB t = treeB t)]
  skip
  all_goals (conv => lhs; whnf)
  refine atFn ?_
  refine HCo (t := u) ⟨aU, aV⟩ (by omega) (by omega) _ _ (by omega) (fun va na ma ha_ ga ka qa => ?_)
  obtain ⟨td, md, rfl, htd, x1, x2, x3, x4, hTd⟩ := qa
  replace kk := kk.trans (Kq.low (n := n) ka (by omega) (fun x hx => by first | exact absurd hx List.not_mem_nil | (rw [List.mem_singleton.1 hx]; omega))) (Nat.le_refl n)
  replace aB := ka _ _ (by omega) (by first | exact nm0 | exact nm1 (by omega)) aB
  replace aT := ka _ _ (by omega) (by first | exact nm0 | exact nm1 (by omega)) aT
  replace aM := ka _ _ (by omega) (by first | exact nm0 | exact nm1 (by omega)) aM
  replace aO := ka _ _ (by omega) (by first | exact nm0 | exact nm1 (by omega)) aO
  replace aU := ka _ _ (by omega) (by first | exact nm0 | exact nm1 (by omega)) aU
  replace aV := ka _ _ (by omega) (by first | exact nm0 | exact nm1 (by omega)) aV
  skip
  all_goals (conv => lhs; whnf)
  refine atFn ?_
  refine HB (t := u) hTd (by omega) (by omega) hWu _ _ (by omega) (fun vb nb mb_ hb_ gb kb qb => ?_)
  obtain ⟨obb, rfl, bb1, bb2, ab⟩ := qb
  replace kk := kk.trans (Kq.low (n := n) kb (by omega) (fun x hx => by first | exact absurd hx List.not_mem_nil | (rw [List.mem_singleton.1 hx]; omega))) (Nat.le_refl n)
  replace aB := kb _ _ (by omega) (by first | exact nm0 | exact nm1 (by omega)) aB
  replace aT := kb _ _ (by omega) (by first | exact nm0 | exact nm1 (by omega)) aT
  replace aM := kb _ _ (by omega) (by first | exact nm0 | exact nm1 (by omega)) aM
  replace aO := kb _ _ (by omega) (by first | exact nm0 | exact nm1 (by omega)) aO
  replace aU := kb _ _ (by omega) (by first | exact nm0 | exact nm1 (by omega)) aU
  replace aV := kb _ _ (by omega) (by first | exact nm0 | exact nm1 (by omega)) aV
  skip
  all_goals (conv => lhs; whnf)
  refine atFn ?_
  refine HE ab aO (by rw [hub]; omega) (by omega) _ _ ?_
  rw [decide_eq_true hub]
  repeat' ((conv => lhs; whnf); first | ((with_reducible refine svH hO (by omega) ?_; rw [← hbl])) | ((with_reducible refine lvS hO ?_)) | ((with_reducible refine mnI hO ?_)))
  all_goals (conv => lhs; whnf)
  refine atFn ?_
  refine HPa (l := bs) aB (by omega) (by omega) (by omega) _ _ (by omega) (fun c nc mc_ hp hcc hc_ gc kc => ?_) (fun w tb3 mb3 nc mc_ hpw hc_ gc kc htm3 y1 y2 y3 y4 hTw => ?_)
  · rcases hcc with rfl | rfl
    · replace kk := kk.trans kc (by omega)
      repeat' ((conv => lhs; whnf); first | ((with_reducible refine eqT hO (by omega) ?_)) | ((with_reducible refine neT hO (by omega) ?_)))
      all_goals (conv => lhs; whnf)
      refine atFn ?_
      refine HT _ _ _ _ (by omega) (fun nd md_ hd_ gd kd => ?_)
      replace kk := kk.trans kd (by omega)
      skip
      all_goals (conv => lhs; whnf)
      exact hf _ _ (by omega) (by omega) kk
    · replace kk := kk.trans kc (by omega)
      repeat' ((conv => lhs; whnf); first | ((with_reducible refine eqT hO (by omega) ?_)) | ((with_reducible refine eqF hO (by omega) ?_)) | ((with_reducible refine neT hO (by omega) ?_)))
      all_goals (conv => lhs; whnf)
      refine atFn ?_
      refine HT _ _ _ _ (by omega) (fun nd md_ hd_ gd kd => ?_)
      replace kk := kk.trans kd (by omega)
      skip
      all_goals (conv => lhs; whnf)
      exact hf _ _ (by omega) (by omega) kk
  · obtain ⟨hWw, hOw, hwb, _⟩ := parseG_ok hpw
    replace kk := kk.trans kc (by omega)
    replace aB := kc _ _ (by omega) aB
    have aX := hTw.s
    have aY := hTw.m
    clear hTw
    repeat' ((conv => lhs; whnf); first | ((with_reducible refine neF hO (by omega) ?_)))
    all_goals (conv => lhs; whnf)
    refine atFn ?_
    refine HWh (t := w) ⟨aX, aY⟩ (by omega) (by omega) hWw hOw _ _ (by omega) (fun nd md_ hd_ gd kd => ?_)
    replace kk := kk.trans kd (by omega)
    replace aB := kd _ _ (by omega) aB
    replace aX := kd _ _ (by omega) aX
    replace aY := kd _ _ (by omega) aY
    skip
    all_goals (conv => lhs; whnf)
    refine atFn ?_
    refine HB (t := w) ⟨aX, aY⟩ (by omega) (by omega) hWw _ _ (by omega) (fun ve ne me he_ ge ke qe => ?_)
    obtain ⟨obe, rfl, be1, be2, ae⟩ := qe
    replace kk := kk.trans (Kq.kp ke) (by omega)
    replace aB := ke _ _ (by omega) nm0 aB
    skip
    all_goals (conv => lhs; whnf)
    refine atFn ?_
    refine HE ae aB (by rw [hwb]; omega) (by omega) _ _ ?_
    rw [decide_eq_true hwb]
    skip
    all_goals (conv => lhs; whnf)
    refine atFn ?_
    refine HT _ _ _ _ (by omega) (fun ng mg hg gg kg => ?_)
    replace kk := kk.trans kg (by omega)
    skip
    all_goals (conv => lhs; whnf)
    exact hf _ _ (by omega) (by omega) kk
theorem wlaw_n {O : Oz} (hO : O = zO) (Φ : Phi) (HR : RunR (Phi.fn Φ 7)) (HB : BytesS (Phi.fn Φ 10)) (HPa : ParseS (Phi.fn Φ 21)) (HWh : WholeS (Phi.fn Φ 24)) (HE : EqBS (Phi.fn Φ 17)) (HCo : CopyS (Phi.fn Φ 25)) (HCd : CdS (Phi.fn Φ 16)) (HM : MakeS (Phi.fn Φ 14)) (HT : TellsS (Phi.fn Φ 18)) (HPn : ParseN (Phi.fn Φ 21)) : WLawN (p5 O Φ) := fun {l n m v} hRA hm k P hn hf => by
  skip
  all_goals (conv => lhs; whnf)
  refine atFn ?_
  refine HR hRA hm _ _ (by omega) (fun v1 n1 m1 h1 g1 k1 q1 => ?_)
  obtain ⟨tb, mb, t, rfl, htm, t1, t2, t3, t4, hT, hW, hRc⟩ := q1
  have kk : Kp n m m1 := Kq.kp k1
  have hOk := hRc.ok.2
  have hc1 := hW.c1
  have hc2 := hW.c2
  have hwl := hW.len
  have htl : (treeB t).length ≤ 34000 := by rw [← byI_all]; exact byI_len hW _
  have aT := hT.s
  have aM := hT.m
  clear hT
  skip
  all_goals (conv => lhs; whnf)
  refine atFn ?_
  refine HB (t := t) ⟨aT, aM⟩ (by omega) (by omega) hW _ _ (by omega) (fun v2 n2 m2 h2 g2 k2 q2 => ?_)
  obtain ⟨ob, rfl, b1, b2, aO⟩ := q2
  replace kk := kk.trans (Kq.low (n := n) k2 (by omega) (fun x hx => by first | exact absurd hx List.not_mem_nil | (rw [List.mem_singleton.1 hx]; omega))) (Nat.le_refl n)
  replace aT := k2 _ _ (by omega) (by first | exact nm0 | exact nm1 (by omega)) aT
  replace aM := k2 _ _ (by omega) (by first | exact nm0 | exact nm1 (by omega)) aM
  have hcp := cntP_own hW
  skip
  all_goals (conv => lhs; whnf)
  refine atFn ?_
  refine HPa (l := treeB t) aO (by omega) (Nat.le_refl _) (by omega) _ _ (by omega) (fun c n3 m3 hp _ _ _ _ => absurd (hp.symm.trans (parse_own hW hOk)) (by simp)) (fun u tb2 mb2 n3 m3 hpu h3 g3 k3 htm2 u1 u2 u3 u4 hTu => ?_)
  obtain ⟨hWu, hOu, hub, _⟩ := parseG_ok hpu
  replace kk := kk.trans k3 (by omega)
  replace aT := k3 _ _ (by omega) aT
  replace aM := k3 _ _ (by omega) aM
  replace aO := k3 _ _ (by omega) aO
  have aU := hTu.s
  have aV := hTu.m
  clear hTu
  skip
  all_goals (conv => lhs; whnf)
  refine atFn ?_
  refine HWh (t := t) ⟨aT, aM⟩ (by omega) (by omega) hW hOk _ _ (by omega) (fun n4 m4 h4 g4 k4 => ?_)
  replace kk := kk.trans k4 (by omega)
  replace aT := k4 _ _ (by omega) aT
  replace aM := k4 _ _ (by omega) aM
  replace aO := k4 _ _ (by omega) aO
  replace aU := k4 _ _ (by omega) aU
  replace aV := k4 _ _ (by omega) aV
  repeat' ((conv => lhs; whnf); first | ((with_reducible refine neF hO (by omega) ?_)))
  all_goals (conv => lhs; whnf)
  refine atFn ?_
  refine HB (t := u) ⟨aU, aV⟩ (by omega) (by omega) hWu _ _ (by omega) (fun v5 n5 m5 h5 g5 k5 q5 => ?_)
  obtain ⟨ob5, rfl, b51, b52, a5⟩ := q5
  replace kk := kk.trans (Kq.low (n := n) k5 (by omega) (fun x hx => by first | exact absurd hx List.not_mem_nil | (rw [List.mem_singleton.1 hx]; omega))) (Nat.le_refl n)
  replace aT := k5 _ _ (by omega) (by first | exact nm0 | exact nm1 (by omega)) aT
  replace aM := k5 _ _ (by omega) (by first | exact nm0 | exact nm1 (by omega)) aM
  replace aO := k5 _ _ (by omega) (by first | exact nm0 | exact nm1 (by omega)) aO
  replace aU := k5 _ _ (by omega) (by first | exact nm0 | exact nm1 (by omega)) aU
  replace aV := k5 _ _ (by omega) (by first | exact nm0 | exact nm1 (by omega)) aV
  skip
  all_goals (conv => lhs; whnf)
  refine atFn ?_
  refine HE a5 aO (by rw [hub]; omega) (by omega) _ _ ?_
  rw [decide_eq_true hub]
  skip
  all_goals (conv => lhs; whnf)
  refine atFn ?_
  refine HCo (t := t) ⟨aT, aM⟩ (by omega) (by omega) _ _ (by omega) (fun v6 n6 m6 h6 g6 k6 q6 => ?_)
  obtain ⟨tc, mc, rfl, htc, w1, w2, w3, w4, hTc⟩ := q6
  replace kk := kk.trans (Kq.low (n := n) k6 (by omega) (fun x hx => by first | exact absurd hx List.not_mem_nil | (rw [List.mem_singleton.1 hx]; omega))) (Nat.le_refl n)
  replace aT := k6 _ _ (by omega) (by first | exact nm0 | exact nm1 (by omega)) aT
  replace aM := k6 _ _ (by omega) (by first | exact nm0 | exact nm1 (by omega)) aM
  replace aO := k6 _ _ (by omega) (by first | exact nm0 | exact nm1 (by omega)) aO
  replace aU := k6 _ _ (by omega) (by first | exact nm0 | exact nm1 (by omega)) aU
  replace aV := k6 _ _ (by omega) (by first | exact nm0 | exact nm1 (by omega)) aV
  skip
  all_goals (conv => lhs; whnf)
  refine atFn ?_
  refine HCd (t := t) hTc (by omega) (by omega) hW [47] (by decide) _ _ (by omega) (fun v7 n7 m7 h7 g7 k7 q7 => ?_)
  obtain ⟨rfl, hTc7⟩ := q7
  replace hTc7 := hTc7 htc
  replace kk := kk.trans (Kq.low (n := n) k7 (by omega) (fun x hx => by first | exact absurd hx List.not_mem_nil | (rw [List.mem_singleton.1 hx]; omega))) (Nat.le_refl n)
  replace aT := k7 _ _ (by omega) (by first | exact nm0 | exact nm1 (by omega)) aT
  replace aM := k7 _ _ (by omega) (by first | exact nm0 | exact nm1 (by omega)) aM
  replace aO := k7 _ _ (by omega) (by first | exact nm0 | exact nm1 (by omega)) aO
  replace aU := k7 _ _ (by omega) (by first | exact nm0 | exact nm1 (by omega)) aU
  replace aV := k7 _ _ (by omega) (by first | exact nm0 | exact nm1 (by omega)) aV
  skip
  all_goals (conv => lhs; whnf)
  refine atFn ?_
  refine HM (t := (cdG t [47]).1) hTc7 (by omega) (by omega) htc (cdG_wf hW _) [99, 111, 112, 121, 32, 111, 102, 32, 97, 108, 108] (by decide) _ _ (by omega) (fun v8 n8 m8 h8 g8 k8 q8 => ?_)
  obtain ⟨rfl, hTc8⟩ := q8
  replace kk := kk.trans (Kq.low (n := n) k8 (by omega) (fun x hx => by first | exact absurd hx List.not_mem_nil | (rw [List.mem_singleton.1 hx]; omega))) (Nat.le_refl n)
  replace aT := k8 _ _ (by omega) (by first | exact nm0 | exact nm1 (by omega)) aT
  replace aM := k8 _ _ (by omega) (by first | exact nm0 | exact nm1 (by omega)) aM
  replace aO := k8 _ _ (by omega) (by first | exact nm0 | exact nm1 (by omega)) aO
  replace aU := k8 _ _ (by omega) (by first | exact nm0 | exact nm1 (by omega)) aU
  replace aV := k8 _ _ (by omega) (by first | exact nm0 | exact nm1 (by omega)) aV
  clear hTc hTc7 hTc8
  skip
  all_goals (conv => lhs; whnf)
  refine atFn ?_
  refine HB (t := t) ⟨aT, aM⟩ (by omega) (by omega) hW _ _ (by omega) (fun v9 n9 m9 h9 g9 k9 q9 => ?_)
  obtain ⟨ob9, rfl, b91, b92, a9⟩ := q9
  replace kk := kk.trans (Kq.low (n := n) k9 (by omega) (fun x hx => by first | exact absurd hx List.not_mem_nil | (rw [List.mem_singleton.1 hx]; omega))) (Nat.le_refl n)
  replace aT := k9 _ _ (by omega) (by first | exact nm0 | exact nm1 (by omega)) aT
  replace aM := k9 _ _ (by omega) (by first | exact nm0 | exact nm1 (by omega)) aM
  replace aO := k9 _ _ (by omega) (by first | exact nm0 | exact nm1 (by omega)) aO
  replace aU := k9 _ _ (by omega) (by first | exact nm0 | exact nm1 (by omega)) aU
  replace aV := k9 _ _ (by omega) (by first | exact nm0 | exact nm1 (by omega)) aV
  skip
  all_goals (conv => lhs; whnf)
  refine atFn ?_
  refine HE a9 aO (by omega) (by omega) _ _ ?_
  rw [decide_eq_true (rfl : treeB t = treeB t)]
  skip
  all_goals (conv => lhs; whnf)
  refine atFn ?_
  refine HCo (t := u) ⟨aU, aV⟩ (by omega) (by omega) _ _ (by omega) (fun va na ma ha_ ga ka qa => ?_)
  obtain ⟨td, md, rfl, htd, x1, x2, x3, x4, hTd⟩ := qa
  replace kk := kk.trans (Kq.low (n := n) ka (by omega) (fun x hx => by first | exact absurd hx List.not_mem_nil | (rw [List.mem_singleton.1 hx]; omega))) (Nat.le_refl n)
  replace aT := ka _ _ (by omega) (by first | exact nm0 | exact nm1 (by omega)) aT
  replace aM := ka _ _ (by omega) (by first | exact nm0 | exact nm1 (by omega)) aM
  replace aO := ka _ _ (by omega) (by first | exact nm0 | exact nm1 (by omega)) aO
  replace aU := ka _ _ (by omega) (by first | exact nm0 | exact nm1 (by omega)) aU
  replace aV := ka _ _ (by omega) (by first | exact nm0 | exact nm1 (by omega)) aV
  skip
  all_goals (conv => lhs; whnf)
  refine atFn ?_
  refine HB (t := u) hTd (by omega) (by omega) hWu _ _ (by omega) (fun vb nb mb_ hb_ gb kb qb => ?_)
  obtain ⟨obb, rfl, bb1, bb2, ab⟩ := qb
  replace kk := kk.trans (Kq.low (n := n) kb (by omega) (fun x hx => by first | exact absurd hx List.not_mem_nil | (rw [List.mem_singleton.1 hx]; omega))) (Nat.le_refl n)
  replace aT := kb _ _ (by omega) (by first | exact nm0 | exact nm1 (by omega)) aT
  replace aM := kb _ _ (by omega) (by first | exact nm0 | exact nm1 (by omega)) aM
  replace aO := kb _ _ (by omega) (by first | exact nm0 | exact nm1 (by omega)) aO
  replace aU := kb _ _ (by omega) (by first | exact nm0 | exact nm1 (by omega)) aU
  replace aV := kb _ _ (by omega) (by first | exact nm0 | exact nm1 (by omega)) aV
  skip
  all_goals (conv => lhs; whnf)
  refine atFn ?_
  refine HE ab aO (by rw [hub]; omega) (by omega) _ _ ?_
  rw [decide_eq_true hub]
  repeat' ((conv => lhs; whnf); first | ((refine svN hO ?_)) | ((with_reducible refine lvN hO ?_)) | ((with_reducible refine mnI hO ?_)))
  all_goals (conv => lhs; whnf)
  refine atFn ?_
  refine HPn _ _ _ _ (by omega) (fun nc mc_ hc_ gc kc => ?_)
  replace kk := kk.trans kc (by omega)
  replace aT := kc _ _ (by omega) aT
  replace aM := kc _ _ (by omega) aM
  replace aO := kc _ _ (by omega) aO
  replace aU := kc _ _ (by omega) aU
  replace aV := kc _ _ (by omega) aV
  repeat' ((conv => lhs; whnf); first | ((with_reducible refine eqT hO (by omega) ?_)) | ((with_reducible refine neT hO (by omega) ?_)))
  all_goals (conv => lhs; whnf)
  refine atFn ?_
  refine HT _ _ _ _ (by omega) (fun nd md_ hd_ gd kd => ?_)
  replace kk := kk.trans kd (by omega)
  replace aT := kd _ _ (by omega) aT
  replace aM := kd _ _ (by omega) aM
  replace aO := kd _ _ (by omega) aO
  replace aU := kd _ _ (by omega) aU
  replace aV := kd _ _ (by omega) aV
  skip
  all_goals (conv => lhs; whnf)
  exact hf _ _ (by omega) (by omega) kk
end Go.Proofs.YtjoakhpdajlhiaaDoor.V2.S
namespace Go.Proofs.YtjoakhpdajlhiaaDoor.V2.S
open Go
set_option linter.unusedVariables false
set_option maxRecDepth 100000
noncomputable def qeL : List Qe := [⟨5, eZ Tryd.f5, p5 zO⟩, ⟨7, eZ Tryd.f7, p7 zO⟩, ⟨8, eZ Tryd.f8, p8 zO⟩, ⟨9, eZ Tryd.f9, p9 zO⟩, ⟨10, eZ Tryd.f10, p10 zO⟩, ⟨11, eZ Tryd.f11, p11 zO⟩, ⟨12, eZ Tryd.f12, p12 zO⟩, ⟨13, eZ Tryd.f13, p13 zO⟩, ⟨14, eZ Tryd.f14, p14 zO⟩, ⟨15, eZ Tryd.f15, p15 zO⟩, ⟨16, eZ Tryd.f16, p16 zO⟩, ⟨17, eZ Tryd.f17, p17 zO⟩, ⟨18, eZ Tryd.f18, p18 zO⟩, ⟨19, eZ Tryd.f19, p19 zO⟩, ⟨20, eZ Tryd.f20, p20 zO⟩, ⟨21, eZ Tryd.f21, p21 zO⟩, ⟨24, eZ Tryd.f24, p24 zO⟩, ⟨25, eZ Tryd.f25, p25 zO⟩, ⟨26, eZ Tryd.f26, p26 zO⟩, ⟨28, eZ Tryd.f28, p28 zO⟩, ⟨30, eZ Tryd.f30, p30 zO⟩, ⟨31, eZ Tryd.f31, p31 zO⟩, ⟨32, eZ Tryd.f32, p32 zO⟩, ⟨33, eZ Tryd.f33, p33 zO⟩, ⟨34, eZ Tryd.f34, p34 zO⟩, ⟨35, eZ Tryd.f35, p35 zO⟩, ⟨36, eZ Tryd.f36, p36 zO⟩, ⟨37, eZ Tryd.f37, p37 zO⟩, ⟨38, eZ Tryd.f38, p38 zO⟩, ⟨39, eZ Tryd.f39, p39 zO⟩, ⟨41, eZ Tryd.f41, p41 zO⟩, ⟨42, eZ Tryd.f42, p42 zO⟩, ⟨43, eZ Tryd.f43, p43 zO⟩, ⟨44, eZ Tryd.f44, p44 zO⟩, ⟨52, eZ Tryd.f52, p52 zO⟩, ⟨54, eZ Tryd.f54, p54 zO⟩, ⟨55, eZ Tryd.f55, p55 zO⟩, ⟨56, eZ Tryd.f56, p56 zO⟩, ⟨66, eZ Tryd.f66, p66 zO⟩, ⟨67, eZ Tryd.f67, p67 zO⟩, ⟨68, eZ Tryd.f68, p68 zO⟩, ⟨69, eZ Tryd.f69, p69 zO⟩, ⟨70, eZ Tryd.f70, p70 zO⟩, ⟨71, eZ Tryd.f71, p71 zO⟩, ⟨77, eZ Tryd.f77, p77 zO⟩, ⟨78, eZ Tryd.f78, p78 zO⟩, ⟨90, eZ Tryd.f90, p90 zO⟩, ⟨92, eZ Tryd.f92, p92 zO⟩, ⟨111, eZ Tryd.f111, p111 zO⟩]
theorem qeL_ok : ∀ p ∈ qeL, QeOk p := by
  unfold qeL
  exact List.forall_mem_cons.2 ⟨k5, List.forall_mem_cons.2 ⟨k7, List.forall_mem_cons.2 ⟨k8, List.forall_mem_cons.2 ⟨k9, List.forall_mem_cons.2 ⟨k10, List.forall_mem_cons.2 ⟨k11, List.forall_mem_cons.2 ⟨k12, List.forall_mem_cons.2 ⟨k13, List.forall_mem_cons.2 ⟨k14, List.forall_mem_cons.2 ⟨k15, List.forall_mem_cons.2 ⟨k16, List.forall_mem_cons.2 ⟨k17, List.forall_mem_cons.2 ⟨k18, List.forall_mem_cons.2 ⟨k19, List.forall_mem_cons.2 ⟨k20, List.forall_mem_cons.2 ⟨k21, List.forall_mem_cons.2 ⟨k24, List.forall_mem_cons.2 ⟨k25, List.forall_mem_cons.2 ⟨k26, List.forall_mem_cons.2 ⟨k28, List.forall_mem_cons.2 ⟨k30, List.forall_mem_cons.2 ⟨k31, List.forall_mem_cons.2 ⟨k32, List.forall_mem_cons.2 ⟨k33, List.forall_mem_cons.2 ⟨k34, List.forall_mem_cons.2 ⟨k35, List.forall_mem_cons.2 ⟨k36, List.forall_mem_cons.2 ⟨k37, List.forall_mem_cons.2 ⟨k38, List.forall_mem_cons.2 ⟨k39, List.forall_mem_cons.2 ⟨k41, List.forall_mem_cons.2 ⟨k42, List.forall_mem_cons.2 ⟨k43, List.forall_mem_cons.2 ⟨k44, List.forall_mem_cons.2 ⟨k52, List.forall_mem_cons.2 ⟨k54, List.forall_mem_cons.2 ⟨k55, List.forall_mem_cons.2 ⟨k56, List.forall_mem_cons.2 ⟨k66, List.forall_mem_cons.2 ⟨k67, List.forall_mem_cons.2 ⟨k68, List.forall_mem_cons.2 ⟨k69, List.forall_mem_cons.2 ⟨k70, List.forall_mem_cons.2 ⟨k71, List.forall_mem_cons.2 ⟨k77, List.forall_mem_cons.2 ⟨k78, List.forall_mem_cons.2 ⟨k90, List.forall_mem_cons.2 ⟨k92, List.forall_mem_cons.2 ⟨k111, fun p hp => absurd hp List.not_mem_nil⟩⟩⟩⟩⟩⟩⟩⟩⟩⟩⟩⟩⟩⟩⟩⟩⟩⟩⟩⟩⟩⟩⟩⟩⟩⟩⟩⟩⟩⟩⟩⟩⟩⟩⟩⟩⟩⟩⟩⟩⟩⟩⟩⟩⟩⟩⟩⟩⟩
noncomputable def tEL : T Ent := tabE qeL
noncomputable def tQL : T (Phi → HF) := tabP qeL
theorem tQL_ok : TabQ 1000000 tEL tQL := ⟨fun f => (tabE_get qeL_ok f).2, fun f x hx => by
  obtain ⟨q, h1, h2, _⟩ := (tabE_get qeL_ok f).1 x hx
  exact ⟨q, h1, h2⟩⟩
theorem tEL_ok : TabOk Tryd.prog 3 (fun _ => false) tEL := fun f x h => by
  obtain ⟨_, _, _, h3⟩ := (tabE_get qeL_ok f).1 x h
  exact h3
def noF (_ : FuncId) (_ : List AV) (σ : AH) : Out := bad σ
theorem noF_ok {Y : List Yl} : FnOk Tryd.prog 3 noF Y := fun _ _ _ h => by cases h
noncomputable def gL : FuncId → List AV → AH → Out := wnF (srF (mdF (ciF noF)))
theorem gL_ok : FnOk Tryd.prog 3 gL [] := wnF_ok (srF_ok (mdF_ok (ciF_ok noF_ok)))
theorem gamL_ok : GamOk Tryd.prog 3 (Gam.grow std 1000000 tEL Sp.none (.of gL) 41) [] := (grow_ok mixed tEL_ok Sp.none_ok (fun f h => by cases h) 41 (.of gL_ok) hpu0').1
noncomputable def bQL : FuncId → HF := fun f l σ k => Bool.rec (Bool.rec (Bool.rec (Bool.rec (Bool.rec .bad (ixQ l σ k) (Nat.beq f 89)) (ctQ l σ k) (Nat.beq f 88)) (cmQ l σ k) (Nat.beq f 57)) (srQ l σ k) (Nat.beq f 29)) (wiQ l σ k) (Nat.beq f 40)
theorem bQL_ok (f : FuncId) : HOk (bQL f) ((Gam.of gL).fn f) := fun l σ k => by
  show Sm (Bool.rec (Bool.rec (Bool.rec (Bool.rec (Bool.rec .bad (ixQ l σ k) (Nat.beq f 89)) (ctQ l σ k) (Nat.beq f 88)) (cmQ l σ k) (Nat.beq f 57)) (srQ l σ k) (Nat.beq f 29)) (wiQ l σ k) (Nat.beq f 40)) k (gL f (αL l) (αH σ))
  have e : gL f (αL l) (αH σ) = bif Nat.beq f 40 then wiA (αL l) (αH σ) else bif Nat.beq f 29 then srtA (αL l) (αH σ) else bif Nat.beq f 57 then cmA (αL l) (αH σ) else bif Nat.beq f 88 then ctA (αL l) (αH σ) else bif Nat.beq f 89 then ixA (αL l) (αH σ) else bad (αH σ) := by unfold gL wnF srF mdF ciF noF cmA; rfl
  rw [e]
  cases Nat.beq f 40 with
  | true => exact wiQ_sm l σ k
  | false =>
  cases Nat.beq f 29 with
  | true => exact srQ_sm l σ k
  | false =>
  cases Nat.beq f 57 with
  | true => exact cmQ_sm l σ k
  | false =>
  cases Nat.beq f 88 with
  | true => exact ctQ_sm l σ k
  | false =>
  cases Nat.beq f 89 with
  | true => exact ixQ_sm l σ k
  | false =>
  exact Sm.bad
noncomputable def y0L : Nat → HF := fun _ _ _ _ => .bad
noncomputable def ΦG (n : Nat) (y : Nat → HF) : Phi := PhiG tQL n bQL y
theorem ΦG_at (n : Nat) (y : Nat → HF) {f : Nat} {q : Phi → HF} (h : tQL.get f = some q) : Phi.fn (ΦG (n + 1) y) f = q (ΦG n y) := by
  funext l σ k
  show tg tQL f (bQL f l σ k) (fun q => q (PhiG tQL n bQL y) l σ k) = _
  rw [tg_eq, h]; rfl
theorem ΦG_no (n : Nat) (y : Nat → HF) {f : Nat} (h : tQL.get f = none) : Phi.fn (ΦG (n + 1) y) f = bQL f := by
  funext l σ k
  show tg tQL f (bQL f l σ k) (fun q => q (PhiG tQL n bQL y) l σ k) = _
  rw [tg_eq, h]
theorem ΦG_up (n : Nat) (y : Nat → HF) (j : Nat) (Y : HF) : Phi.up (ΦG (n + 1) y) j Y = ΦG n fun i => Bool.rec (y i) Y (Nat.beq i j) := rfl
theorem ΦG_yl (n : Nat) (y : Nat → HF) : Phi.yl (ΦG n y) = y := by cases n <;> rfl
theorem at5 (n : Nat) (y : Nat → HF) : Phi.fn (ΦG (n + 1) y) 5 = p5 zO (ΦG n y) := ΦG_at n y (q := p5 zO) (by kernel_rfl)
theorem at7 (n : Nat) (y : Nat → HF) : Phi.fn (ΦG (n + 1) y) 7 = p7 zO (ΦG n y) := ΦG_at n y (q := p7 zO) (by kernel_rfl)
theorem at8 (n : Nat) (y : Nat → HF) : Phi.fn (ΦG (n + 1) y) 8 = p8 zO (ΦG n y) := ΦG_at n y (q := p8 zO) (by kernel_rfl)
theorem at9 (n : Nat) (y : Nat → HF) : Phi.fn (ΦG (n + 1) y) 9 = p9 zO (ΦG n y) := ΦG_at n y (q := p9 zO) (by kernel_rfl)
theorem at10 (n : Nat) (y : Nat → HF) : Phi.fn (ΦG (n + 1) y) 10 = p10 zO (ΦG n y) := ΦG_at n y (q := p10 zO) (by kernel_rfl)
theorem at11 (n : Nat) (y : Nat → HF) : Phi.fn (ΦG (n + 1) y) 11 = p11 zO (ΦG n y) := ΦG_at n y (q := p11 zO) (by kernel_rfl)
theorem at12 (n : Nat) (y : Nat → HF) : Phi.fn (ΦG (n + 1) y) 12 = p12 zO (ΦG n y) := ΦG_at n y (q := p12 zO) (by kernel_rfl)
theorem at13 (n : Nat) (y : Nat → HF) : Phi.fn (ΦG (n + 1) y) 13 = p13 zO (ΦG n y) := ΦG_at n y (q := p13 zO) (by kernel_rfl)
theorem at14 (n : Nat) (y : Nat → HF) : Phi.fn (ΦG (n + 1) y) 14 = p14 zO (ΦG n y) := ΦG_at n y (q := p14 zO) (by kernel_rfl)
theorem at15 (n : Nat) (y : Nat → HF) : Phi.fn (ΦG (n + 1) y) 15 = p15 zO (ΦG n y) := ΦG_at n y (q := p15 zO) (by kernel_rfl)
theorem at16 (n : Nat) (y : Nat → HF) : Phi.fn (ΦG (n + 1) y) 16 = p16 zO (ΦG n y) := ΦG_at n y (q := p16 zO) (by kernel_rfl)
theorem at17 (n : Nat) (y : Nat → HF) : Phi.fn (ΦG (n + 1) y) 17 = p17 zO (ΦG n y) := ΦG_at n y (q := p17 zO) (by kernel_rfl)
theorem at18 (n : Nat) (y : Nat → HF) : Phi.fn (ΦG (n + 1) y) 18 = p18 zO (ΦG n y) := ΦG_at n y (q := p18 zO) (by kernel_rfl)
theorem at19 (n : Nat) (y : Nat → HF) : Phi.fn (ΦG (n + 1) y) 19 = p19 zO (ΦG n y) := ΦG_at n y (q := p19 zO) (by kernel_rfl)
theorem at20 (n : Nat) (y : Nat → HF) : Phi.fn (ΦG (n + 1) y) 20 = p20 zO (ΦG n y) := ΦG_at n y (q := p20 zO) (by kernel_rfl)
theorem at21 (n : Nat) (y : Nat → HF) : Phi.fn (ΦG (n + 1) y) 21 = p21 zO (ΦG n y) := ΦG_at n y (q := p21 zO) (by kernel_rfl)
theorem at24 (n : Nat) (y : Nat → HF) : Phi.fn (ΦG (n + 1) y) 24 = p24 zO (ΦG n y) := ΦG_at n y (q := p24 zO) (by kernel_rfl)
theorem at25 (n : Nat) (y : Nat → HF) : Phi.fn (ΦG (n + 1) y) 25 = p25 zO (ΦG n y) := ΦG_at n y (q := p25 zO) (by kernel_rfl)
theorem at26 (n : Nat) (y : Nat → HF) : Phi.fn (ΦG (n + 1) y) 26 = p26 zO (ΦG n y) := ΦG_at n y (q := p26 zO) (by kernel_rfl)
theorem at28 (n : Nat) (y : Nat → HF) : Phi.fn (ΦG (n + 1) y) 28 = p28 zO (ΦG n y) := ΦG_at n y (q := p28 zO) (by kernel_rfl)
theorem at30 (n : Nat) (y : Nat → HF) : Phi.fn (ΦG (n + 1) y) 30 = p30 zO (ΦG n y) := ΦG_at n y (q := p30 zO) (by kernel_rfl)
theorem at31 (n : Nat) (y : Nat → HF) : Phi.fn (ΦG (n + 1) y) 31 = p31 zO (ΦG n y) := ΦG_at n y (q := p31 zO) (by kernel_rfl)
theorem at32 (n : Nat) (y : Nat → HF) : Phi.fn (ΦG (n + 1) y) 32 = p32 zO (ΦG n y) := ΦG_at n y (q := p32 zO) (by kernel_rfl)
theorem at33 (n : Nat) (y : Nat → HF) : Phi.fn (ΦG (n + 1) y) 33 = p33 zO (ΦG n y) := ΦG_at n y (q := p33 zO) (by kernel_rfl)
theorem at34 (n : Nat) (y : Nat → HF) : Phi.fn (ΦG (n + 1) y) 34 = p34 zO (ΦG n y) := ΦG_at n y (q := p34 zO) (by kernel_rfl)
theorem at35 (n : Nat) (y : Nat → HF) : Phi.fn (ΦG (n + 1) y) 35 = p35 zO (ΦG n y) := ΦG_at n y (q := p35 zO) (by kernel_rfl)
theorem at36 (n : Nat) (y : Nat → HF) : Phi.fn (ΦG (n + 1) y) 36 = p36 zO (ΦG n y) := ΦG_at n y (q := p36 zO) (by kernel_rfl)
theorem at37 (n : Nat) (y : Nat → HF) : Phi.fn (ΦG (n + 1) y) 37 = p37 zO (ΦG n y) := ΦG_at n y (q := p37 zO) (by kernel_rfl)
theorem at38 (n : Nat) (y : Nat → HF) : Phi.fn (ΦG (n + 1) y) 38 = p38 zO (ΦG n y) := ΦG_at n y (q := p38 zO) (by kernel_rfl)
theorem at39 (n : Nat) (y : Nat → HF) : Phi.fn (ΦG (n + 1) y) 39 = p39 zO (ΦG n y) := ΦG_at n y (q := p39 zO) (by kernel_rfl)
theorem at41 (n : Nat) (y : Nat → HF) : Phi.fn (ΦG (n + 1) y) 41 = p41 zO (ΦG n y) := ΦG_at n y (q := p41 zO) (by kernel_rfl)
theorem at42 (n : Nat) (y : Nat → HF) : Phi.fn (ΦG (n + 1) y) 42 = p42 zO (ΦG n y) := ΦG_at n y (q := p42 zO) (by kernel_rfl)
theorem at43 (n : Nat) (y : Nat → HF) : Phi.fn (ΦG (n + 1) y) 43 = p43 zO (ΦG n y) := ΦG_at n y (q := p43 zO) (by kernel_rfl)
theorem at44 (n : Nat) (y : Nat → HF) : Phi.fn (ΦG (n + 1) y) 44 = p44 zO (ΦG n y) := ΦG_at n y (q := p44 zO) (by kernel_rfl)
theorem at52 (n : Nat) (y : Nat → HF) : Phi.fn (ΦG (n + 1) y) 52 = p52 zO (ΦG n y) := ΦG_at n y (q := p52 zO) (by kernel_rfl)
theorem at54 (n : Nat) (y : Nat → HF) : Phi.fn (ΦG (n + 1) y) 54 = p54 zO (ΦG n y) := ΦG_at n y (q := p54 zO) (by kernel_rfl)
theorem at55 (n : Nat) (y : Nat → HF) : Phi.fn (ΦG (n + 1) y) 55 = p55 zO (ΦG n y) := ΦG_at n y (q := p55 zO) (by kernel_rfl)
theorem at56 (n : Nat) (y : Nat → HF) : Phi.fn (ΦG (n + 1) y) 56 = p56 zO (ΦG n y) := ΦG_at n y (q := p56 zO) (by kernel_rfl)
theorem at66 (n : Nat) (y : Nat → HF) : Phi.fn (ΦG (n + 1) y) 66 = p66 zO (ΦG n y) := ΦG_at n y (q := p66 zO) (by kernel_rfl)
theorem at67 (n : Nat) (y : Nat → HF) : Phi.fn (ΦG (n + 1) y) 67 = p67 zO (ΦG n y) := ΦG_at n y (q := p67 zO) (by kernel_rfl)
theorem at68 (n : Nat) (y : Nat → HF) : Phi.fn (ΦG (n + 1) y) 68 = p68 zO (ΦG n y) := ΦG_at n y (q := p68 zO) (by kernel_rfl)
theorem at69 (n : Nat) (y : Nat → HF) : Phi.fn (ΦG (n + 1) y) 69 = p69 zO (ΦG n y) := ΦG_at n y (q := p69 zO) (by kernel_rfl)
theorem at70 (n : Nat) (y : Nat → HF) : Phi.fn (ΦG (n + 1) y) 70 = p70 zO (ΦG n y) := ΦG_at n y (q := p70 zO) (by kernel_rfl)
theorem at71 (n : Nat) (y : Nat → HF) : Phi.fn (ΦG (n + 1) y) 71 = p71 zO (ΦG n y) := ΦG_at n y (q := p71 zO) (by kernel_rfl)
theorem at77 (n : Nat) (y : Nat → HF) : Phi.fn (ΦG (n + 1) y) 77 = p77 zO (ΦG n y) := ΦG_at n y (q := p77 zO) (by kernel_rfl)
theorem at78 (n : Nat) (y : Nat → HF) : Phi.fn (ΦG (n + 1) y) 78 = p78 zO (ΦG n y) := ΦG_at n y (q := p78 zO) (by kernel_rfl)
theorem at90 (n : Nat) (y : Nat → HF) : Phi.fn (ΦG (n + 1) y) 90 = p90 zO (ΦG n y) := ΦG_at n y (q := p90 zO) (by kernel_rfl)
theorem at92 (n : Nat) (y : Nat → HF) : Phi.fn (ΦG (n + 1) y) 92 = p92 zO (ΦG n y) := ΦG_at n y (q := p92 zO) (by kernel_rfl)
theorem at111 (n : Nat) (y : Nat → HF) : Phi.fn (ΦG (n + 1) y) 111 = p111 zO (ΦG n y) := ΦG_at n y (q := p111 zO) (by kernel_rfl)
theorem at88 (n : Nat) (y : Nat → HF) : Phi.fn (ΦG (n + 1) y) 88 = ctQ := (ΦG_no n y (by kernel_rfl)).trans rfl
theorem at89 (n : Nat) (y : Nat → HF) : Phi.fn (ΦG (n + 1) y) 89 = ixQ := (ΦG_no n y (by kernel_rfl)).trans rfl
theorem at29 (n : Nat) (y : Nat → HF) : Phi.fn (ΦG (n + 1) y) 29 = srQ := (ΦG_no n y (by kernel_rfl)).trans rfl
theorem at40 (n : Nat) (y : Nat → HF) : Phi.fn (ΦG (n + 1) y) 40 = wiQ := (ΦG_no n y (by kernel_rfl)).trans rfl
theorem at57 (n : Nat) (y : Nat → HF) : Phi.fn (ΦG (n + 1) y) 57 = cmQ := (ΦG_no n y (by kernel_rfl)).trans rfl
theorem xCnt (n : Nat) (y : Nat → HF) : CntS (Phi.fn (ΦG (n + 1) y) 88) := by rw [at88]; exact ct_s
theorem xIx (n : Nat) (y : Nat → HF) : IxS (Phi.fn (ΦG (n + 1) y) 89) := by rw [at89]; exact ix_s
theorem xWi (n : Nat) (y : Nat → HF) : WithinS (Phi.fn (ΦG (n + 1) y) 40) := by rw [at40]; exact wi_s
theorem xNone (n : Nat) (y : Nat → HF) : NoneS (Phi.fn (ΦG (n + 1) y) 28) := by rw [at28]; exact fun hT => none_s rfl _ hT
theorem xKind (n : Nat) (y : Nat → HF) : KindS (Phi.fn (ΦG (n + 1) y) 35) := by rw [at35]; exact fun hT h1 h2 p => kind_s rfl _ hT h1 h2 p
theorem xHp (n : Nat) (y : Nat → HF) : HpS (Phi.fn (ΦG (n + 2) y) 33) := by rw [at33]; exact fun s p hs n1 m => hp_s rfl _ _ (at66 n y) s p hs n1 m
theorem xNamed (n : Nat) (y : Nat → HF) : NamedS (Phi.fn (ΦG (n + 4) y) 36) := by rw [at36]; exact fun s n1 m hs => named_s rfl _ _ _ _ (at69 (n + 2) y) (at90 (n + 1) y) (at68 n y) s (Nat.le_trans hs (by decide))
theorem xSplit (n : Nat) (y : Nat → HF) : SplitS (Phi.fn (ΦG (n + 3) y) 34) := by rw [at34]; exact split_s rfl _ _ (at67 (n + 1) y) (xCnt n y) (xIx n y)
theorem xLi (n : Nat) (y : Nat → HF) : LiS (Phi.fn (ΦG (n + 2) y) 70) := by rw [at70]; exact li_s rfl _ _ (at77 n y)
theorem xPar (n : Nat) (y : Nat → HF) : ParS (Phi.fn (ΦG (n + 3) y) 37) := by rw [at37]; exact par_s rfl _ (xLi n y)
theorem xJoin (n : Nat) (y : Nat → HF) : JoinS (Phi.fn (ΦG (n + 4) y) 38) := by rw [at38]; exact join_s rfl _ _ _ _ (at71 (n + 2) y) (at92 (n + 1) y) (at111 n y)
theorem xAbs (n : Nat) (y : Nat → HF) : AbsS (Phi.fn (ΦG (n + 5) y) 12) := by rw [at12]; exact abs_s rfl _ (xNone (n + 3) y) (xKind (n + 3) y) (xHp (n + 2) y) (xNamed n y) (xSplit (n + 1) y) (xPar (n + 1) y) (xJoin n y)
theorem xKeys (n : Nat) (y : Nat → HF) : KeysS (ΦG (n + 1) y) := keys_s rfl _ _ (at30 n y) (at29 n y)
theorem xWalk (n : Nat) (y : Nat → HF) (j : Nat) (Y : HF) : WalkS (Phi.fn (Phi.up (ΦG (n + 3) y) j Y) 9) j Y := by
  rw [ΦG_up, at9]
  exact walk_s rfl _ (xNone n _) (xKeys n _) j Y (by rw [ΦG_yl]; show Bool.rec (y j) Y (Nat.beq j j) = Y; rw [Nat.beq_refl])
theorem xUsed (n : Nat) (y : Nat → HF) : UsedS (Phi.fn (ΦG (n + 4) y) 52) := by rw [at52]; exact used_s rfl _ fun j Y => xWalk n y j Y
theorem xPut (n : Nat) (y : Nat → HF) : PutS (Phi.fn (ΦG (n + 5) y) 39) := by rw [at39]; exact put_s rfl _ (xUsed n y)
theorem xMake (n : Nat) (y : Nat → HF) : MakeS (Phi.fn (ΦG (n + 6) y) 14) := by rw [at14]; exact make_s rfl _ (xAbs n y) (xKind (n + 4) y) (xPut n y)
theorem xIs (n : Nat) (y : Nat → HF) : IsS (Phi.fn (ΦG (n + 6) y) 41) := by rw [at41]; exact is_s rfl _ (xAbs n y) (xKind (n + 4) y)
theorem xRead (n : Nat) (y : Nat → HF) : ReadS (Phi.fn (ΦG (n + 7) y) 20) := by rw [at20]; exact read_s rfl _ (xIs n y)
theorem xWrite (n : Nat) (y : Nat → HF) : WriteS (Phi.fn (ΦG (n + 6) y) 13) := by rw [at13]; exact write_s rfl _ (xAbs n y) (xKind (n + 4) y) (xPut n y)
theorem xCd (n : Nat) (y : Nat → HF) : CdS (Phi.fn (ΦG (n + 7) y) 16) := by rw [at16]; exact cd_s rfl _ (xIs n y)
theorem xNew (n : Nat) (y : Nat → HF) : NewS (Phi.fn (ΦG (n + 1) y) 26) := by rw [at26]; exact new_s rfl _
theorem xCwd (n : Nat) (y : Nat → HF) : CwdS (Phi.fn (ΦG (n + 2) y) 11) := by rw [at11]; exact cwd_s rfl _ (xNone n y)
theorem xRemove (n : Nat) (y : Nat → HF) : RemoveS (Phi.fn (ΦG (n + 6) y) 15) := by rw [at15]; exact remove_s rfl _ (xAbs n y) (xKind (n + 4) y) (xJoin (n + 1) y) (xHp (n + 3) y) (xWi (n + 4) y)
theorem xFewL (n : Nat) (y : Nat → HF) : FewL (Phi.fn (ΦG (n + 1) y) 8) := by rw [at8]; exact few_l rfl _
theorem xRunR (n : Nat) (y : Nat → HF) : RunR (Phi.fn (ΦG (n + 8) y) 7) := by rw [at7]; exact run_r rfl _ (xNew (n + 6) y) (xFewL (n + 6) y) (xWrite (n + 1) y) (xMake (n + 1) y) (xRemove (n + 1) y) (xCd n y)
theorem xTells (n : Nat) (y : Nat → HF) : TellsS (Phi.fn (ΦG (n + 8) y) 18) := by rw [at18]; exact tells_s rfl _ (xNew (n + 6) y) (xMake (n + 1) y) (xWrite (n + 1) y) (xCd n y) (xRead n y) (xCwd (n + 5) y)
theorem xWalkN (n : Nat) (y : Nat → HF) (j : Nat) (Y : HF) : WalkN (Phi.fn (Phi.up (ΦG (n + 3) y) j Y) 9) j Y := by
  rw [ΦG_up, at9]
  exact walkN_s rfl _ (xNone n _) (xKeys n _) j Y (by rw [ΦG_yl]; show Bool.rec (y j) Y (Nat.beq j j) = Y; rw [Nat.beq_refl])
theorem xTwo (n : Nat) (y : Nat → HF) : TwoS (Phi.fn (ΦG (n + 1) y) 32) := by rw [at32]; exact two_s rfl _
theorem xTold (n : Nat) (y : Nat → HF) : ToldS (Phi.fn (ΦG (n + 2) y) 31) := by rw [at31]; exact told_s rfl _ (xTwo n y)
theorem xBytes (n : Nat) (y : Nat → HF) : BytesS (Phi.fn (ΦG (n + 4) y) 10) := by rw [at10]; exact bytes_s rfl _ (xNone (n + 2) y) (xTold (n + 1) y) (xTwo (n + 2) y) fun j Y => xWalkN n y j Y
theorem xEqB (n : Nat) (y : Nat → HF) : EqBS (Phi.fn (ΦG (n + 1) y) 17) := by rw [at17]; exact eqB_s rfl _
theorem xKindE (n : Nat) (y : Nat → HF) : KindES (Phi.fn (ΦG (n + 6) y) 19) := by rw [at19]; exact kindE_s rfl _ (xAbs n y) (xKind (n + 4) y)
theorem xTake (n : Nat) (y : Nat → HF) : TakeS (Phi.fn (ΦG (n + 1) y) 44) := by rw [at44]; exact take_s rfl _
theorem xNum (n : Nat) (y : Nat → HF) : NumS (Phi.fn (ΦG (n + 2) y) 43) := by rw [at43]; exact num_s rfl _ (xTake n y)
theorem xText (n : Nat) (y : Nat → HF) : TextS (Phi.fn (ΦG (n + 3) y) 42) := by rw [at42]; exact text_s rfl _ (xNum n y) (xTake (n + 1) y)
theorem xAbsF (n : Nat) (y : Nat → HF) : AbsF (Phi.fn (ΦG (n + 5) y) 12) := by rw [at12]; exact abs_f rfl _ (xNone (n + 3) y) (xKind (n + 3) y) (xHp (n + 2) y) (xNamed n y) (xSplit (n + 1) y) (xPar (n + 1) y) (xJoin n y)
theorem xParse (n : Nat) (y : Nat → HF) : ParseS (Phi.fn (ΦG (n + 8) y) 21) := by rw [at21]; exact parse_s rfl _ (xNew (n + 6) y) (xText (n + 4) y) (xNum (n + 5) y) (xTake (n + 6) y) (xAbsF (n + 2) y) (xKind (n + 6) y) (xPut (n + 2) y) (xCd n y) (xBytes (n + 3) y) (xEqB (n + 6) y)
theorem xTakeN (n : Nat) (y : Nat → HF) : TakeN (Phi.fn (ΦG (n + 1) y) 44) := by rw [at44]; exact take_n rfl _
theorem xNumN (n : Nat) (y : Nat → HF) : NumN (Phi.fn (ΦG (n + 2) y) 43) := by rw [at43]; exact num_n rfl _ (xTakeN n y)
theorem xTextN (n : Nat) (y : Nat → HF) : TextN (Phi.fn (ΦG (n + 3) y) 42) := by rw [at42]; exact text_n rfl _ (xNumN n y) (xTakeN (n + 1) y)
theorem xParseN (n : Nat) (y : Nat → HF) : ParseN (Phi.fn (ΦG (n + 4) y) 21) := by rw [at21]; exact parse_n rfl _ (xNew (n + 2) y) (xTextN n y) (xNumN (n + 1) y)
theorem xClone (n : Nat) (y : Nat → HF) : CloneS (Phi.fn (ΦG (n + 1) y) 57) := by rw [at57]; exact clone_s
theorem xCopy (n : Nat) (y : Nat → HF) : CopyS (Phi.fn (ΦG (n + 2) y) 25) := by rw [at25]; exact copy_s rfl _ (xNone n y) (xClone n y)
theorem xLib (n : Nat) (y : Nat → HF) : LibS (Phi.fn (ΦG (n + 2) y) 54) := by rw [at54]; exact lib54_s rfl _ _ (at77 n y)
theorem xWithL (n : Nat) (y : Nat → HF) : WithL (Phi.fn (ΦG (n + 1) y) 40) := by rw [at40]; exact wi_l
theorem xList (n : Nat) (y : Nat → HF) : ListS (Phi.fn (ΦG (n + 7) y) 55) := by rw [at55]; exact list_s rfl _ (xIs n y) (xWithL (n + 5) y)
theorem xIdxS (n : Nat) (y : Nat → HF) : IdxS (Phi.fn (ΦG (n + 1) y) 78) := by rw [at78]; exact idxS_s rfl _
theorem xCont (n : Nat) (y : Nat → HF) : ContS (Phi.fn (ΦG (n + 2) y) 56) := by rw [at56]; exact cont_s rfl _ (xIdxS n y)
theorem xWhole (n : Nat) (y : Nat → HF) : WholeS (Phi.fn (ΦG (n + 8) y) 24) := by rw [at24]; exact whole_s rfl _ (xLib (n + 5) y) (xKindE (n + 1) y) (xList n y) (xCont (n + 5) y) (xUsed (n + 3) y) (xCwd (n + 5) y) fun j Y => xWalkN (n + 4) y j Y
theorem xWLawS (n : Nat) (y : Nat → HF) : WLawS (Phi.fn (ΦG (n + 9) y) 5) := by rw [at5]; exact wlaw_s rfl _ (xRunR n y) (xBytes (n + 4) y) (xParse n y) (xWhole n y) (xEqB (n + 7) y) (xCopy (n + 6) y) (xCd (n + 1) y) (xMake (n + 2) y) (xTells n y)
theorem xWLawN (n : Nat) (y : Nat → HF) : WLawN (Phi.fn (ΦG (n + 9) y) 5) := by rw [at5]; exact wlaw_n rfl _ (xRunR n y) (xBytes (n + 4) y) (xParse n y) (xWhole n y) (xEqB (n + 7) y) (xCopy (n + 6) y) (xCd (n + 1) y) (xMake (n + 2) y) (xTells n y) (xParseN (n + 4) y)
end Go.Proofs.YtjoakhpdajlhiaaDoor.V2.S
namespace Go.Proofs.YtjoakhpdajlhiaaDoor.V2.S
open Go
set_option linter.unusedVariables false
set_option maxRecDepth 100000
open Go.RowKit
def kE : KV := fun v _ => .ok v ⟨0, .leaf⟩
theorem finish {w : World} (hs : 3 ≤ w.heap.size) {os : List AObj} {rs : List (Option (Nat × (Nat × Nat)))} (hl : os.length ≤ 900000) (hlen : rs.length = os.length) (hsh : ∀ o ∈ os, o.isSh = true)
    (h : ∀ (i c : Nat) (d : Nat × Nat) (o : AObj), rs[i]? = some (some (c, d)) → os[i]? = some o → c < w.heap.size ∧ ∀ ρ, OR ρ d o w.heap[c]?) {f : Nat} {l : List FV} {vs : List Value} (hv : VRs (rL (rF rs)) (αL l) vs)
    (hrun : Phi.fn (ΦG 41 y0L) f l ⟨3 + os.length, sF os⟩ kE = .ok (.b true) ⟨0, .leaf⟩) : Calls Tryd.prog f vs.toArray w fun e w' => e = .returned (.bool true) ∧ Below w.heap.size w w' := by
  have hΦ : PhiOk (ΦG 41 y0L) (Gam.grow std 1000000 tEL Sp.none (.of gL) 41) := PhiG_ok tQL_ok 41 bQL_ok fun j l σ k => Sm.bad
  have hσ : αH ⟨3 + os.length, sF os⟩ = hL (memF os) := by
    have := αβH (hL (memF os))
    rw [show 3 + os.length = (hL (memF os)).next by show _ = os.length + 1 + 1 + 1; omega]
    exact this
  obtain ⟨x, σ', h1, h2⟩ := hΦ.fn f l ⟨3 + os.length, sF os⟩ kE (by rw [hrun]; exact fun h => by cases h)
  rw [hrun] at h2
  rw [hσ] at h1
  cases h2
  have hh := hrF hs hl hlen hsh h
  refine ((gamL_ok.fn f (αL l) (hL (memF os)) (by rw [h1])).2 (rL (rF rs)) w vs (fun y hy => absurd hy List.not_mem_nil) (rF_glob rs) hh hv).mono fun e W' ⟨u, ρ', e1, e2, e3, e4⟩ => ?_
  rw [h1] at e2 e3 e4
  subst e1
  refine ⟨by rw [show u = .bool true from e4], Below.ofStp (by show os.length + 1 + 1 + 1 ≤ _; omega) hh (fun o ho => AObj.isSh_ro (memF_sh hsh o ho)) e3⟩
theorem packI_bI : ∀ bs : List UInt8, packI (bI bs) = some (pack bs)
  | [] => rfl
  | b :: bs => by
    have hb : b.toNat < 256 := b.toNat_lt
    show (bif Nat.blt b.toNat 256 then (packI (bI bs)).map fun c => b.toNat + 256 * c else none) = _
    rw [show Nat.blt b.toNat 256 = true by rw [Nat.blt_eq]; exact hb, cond_true, packI_bI bs]; rfl
theorem filesWholeM (w : World) (hs : 3 ≤ w.heap.size) {v1 v2 : Value} {l : List Ac} {bs : Bs} (h1 : RowV w v1 4 l.length (aAs l)) (hm : ∀ a ∈ l, a.m ≤ 65535) (hB : BSl w v2 bs) : Calls Tryd.prog 5 #[v1, v2] w fun e w' => e = .returned (.bool true) ∧ Below w.heap.size w w' := by
  have hA : ∀ b2, RowA (sF [.cells (aAs l) 25 .ro, .ints .u8 (bI b2) 5 .ro]) (3 + 2) (fvF v1 3 4 l.length) l := fun b2 => rowA_of (os := [.cells (aAs l) 25 .ro, .ints .u8 (bI b2) 5 .ro]) (i := 0) (by show 2 ≤ _; omega) h1 rfl
  have hb : ∀ b2, Am (sF [.cells (aAs l) 25 .ro, .ints .u8 (bI b2) 5 .ro]) 4 (.bs (pack b2) 5 .ro) := fun b2 => by
    have ha := sF_am (os := [.cells (aAs l) 25 .ro, .ints .u8 (bI b2) 5 .ro]) (by show 2 ≤ _; omega) (i := 1) rfl
    rw [show βO (.ints .u8 (bI b2) 5 .ro) = .bs (pack b2) 5 .ro by simp only [βO, packI_bI]] at ha
    exact ha
  have sh : ∀ b2, ∀ o ∈ [AObj.cells (aAs l) 25 .ro, .ints .u8 (bI b2) 5 .ro], o.isSh = true := fun b2 o ho => by
    simp only [List.mem_cons, List.not_mem_nil, or_false] at ho
    rcases ho with rfl | rfl <;> rfl
  rcases hB with ⟨rfl, rfl⟩ | ⟨b, off, cc, rfl, hc, hb2, hcell⟩ | ⟨q, rfl, rfl⟩
  · have hA1 := rowA_of (os := [.cells (aAs l) 25 .ro]) (i := 0) (by show 1 ≤ _; omega) h1 rfl
    refine finish hs (os := [.cells (aAs l) 25 .ro]) (rs := [reF v1 4]) (by show 1 ≤ _; omega) rfl (fun o ho => ?_) (fun i c d o hi ho => ?_) (l := [fvF v1 3 4 l.length, .o .sl]) (vs := [v1, .slice none 0 0]) ⟨_, _, rfl, h1.vr rfl, _, _, rfl, rfl, rfl⟩ ?_
    · simp only [List.mem_cons, List.not_mem_nil, or_false] at ho
      subst ho; rfl
    · match i with
      | 0 => cases ho; exact h1.or c d (Option.some.inj hi)
      | i + 1 => cases hi
    · exact xWLawN 32 y0L hA1 hm kE _ (by show 3 + 1 + _ ≤ _; decide) (fun n' m' _ _ _ => rfl)
  · refine finish hs (os := [.cells (aAs l) 25 .ro, .ints .u8 (bI (bs.take 2000)) 5 .ro]) (rs := [reF v1 4, some (b, (off, off + cc))]) (by show 2 ≤ _; omega) rfl (sh _) (fun i c d o hi ho => ?_) (l := [fvF v1 3 4 l.length, .sl 4 0 bs.length bs.length false 1]) (vs := [v1, .slice (some ⟨b, off, none⟩) bs.length cc]) ⟨_, _, rfl, h1.vr rfl, _, _, rfl, ?_, rfl⟩ ?_
    · match i with
      | 0 => cases ho; exact h1.or c d (Option.some.inj hi)
      | 1 =>
        cases ho; cases hi
        have hl2 : (bs.take 2000).length ≤ bs.length := by rw [List.length_take]; omega
        exact ⟨hb2, fun ρ => or_ro (by rw [bI_length]; omega) fun i hi => by
          rw [bI_length] at hi
          have h3 := hcell i (by omega)
          rw [h3, bI_getD]
          unfold YtjoakhpdajlhiaaDoor.at8
          rw [List.getD_eq_getElem?_getD, List.getD_eq_getElem?_getD, List.getElem?_take_of_lt (by rw [List.length_take] at hi; omega)]⟩
      | i + 2 => cases hi
    · show VR _ (.sl 4 0 bs.length bs.length false 1) _
      unfold VR
      exact .inl ⟨b, (off, off + cc), off, cc, rfl, rfl, fun _ => by simp, Nat.le_refl _, hc, (fun h => by cases h), by show off + cc * 1 ≤ off + cc; omega⟩
    · exact xWLawS 32 y0L (hA _) hm (hb _) (by show 4 < 3 + 2; decide) (by rw [List.length_take]; omega) kE _ (by show 3 + 2 + _ ≤ _; decide) (fun n' m' _ _ _ => rfl)
  · refine finish hs (os := [.cells (aAs l) 25 .ro, .ints .u8 (bI []) 5 .ro]) (rs := [reF v1 4, some (0, (0, 0))]) (by show 2 ≤ _; omega) rfl (sh _) (fun i c d o hi ho => ?_) (l := [fvF v1 3 4 l.length, .sl 4 0 0 0 false 1]) (vs := [v1, .slice (some q) 0 0]) ⟨_, _, rfl, h1.vr rfl, _, _, rfl, ?_, rfl⟩ ?_
    · match i with
      | 0 => cases ho; exact h1.or c d (Option.some.inj hi)
      | 1 => cases ho; cases hi; exact ⟨by omega, fun ρ => or_ro (Nat.le_refl _) fun i hi => absurd hi (Nat.not_lt_zero _)⟩
      | i + 2 => cases hi
    · show VR _ (.sl 4 0 0 0 false 1) _
      unfold VR
      exact .inr ⟨rfl, rfl, rfl, ⟨_, rfl⟩, q, rfl⟩
    · exact xWLawS 32 y0L (hA []) hm (hb []) (by show 4 < 3 + 2; decide) rfl kE _ (by show 3 + 2 + _ ≤ _; decide) (fun n' m' _ _ _ => rfl)
end Go.Proofs.YtjoakhpdajlhiaaDoor.V2.S
