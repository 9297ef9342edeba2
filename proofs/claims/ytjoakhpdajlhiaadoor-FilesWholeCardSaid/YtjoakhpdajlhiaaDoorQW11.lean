/- Part 11 of the proof: texts of the proof. -/
import Derived.Test.YtjoakhpdajlhiaaDoorQW10
namespace Go.Proofs.YtjoakhpdajlhiaaDoor.V2
open Go
open Go.RowKit Go.Maps Go.Sort
theorem srtO_of {ρ : Ren} {σ : AH} {W : World} (hr : HR ρ σ W) {os : List (List UInt8)} (h : (srtO σ os).1 = true) {f : FuncId} {vs : Array Value}
    (hC : Calls Tryd.prog f vs W fun e w' => ∃ (v : Value) (ss : List (List UInt8)), e = .returned v ∧ ss.Perm os ∧
      w'.ownsRow W.heap.size 9 1 v ss.length ((ss.mergeSort (fun x y => decide (x ≤ y))).map encStr) ∧ (v = .slice none 0 0 ↔ ss = []) ∧ Below W.heap.size W w') :
    Calls Tryd.prog f vs W fun e W' => ∃ v ρ', e = .returned v ∧ HR ρ' (srtO σ os).2.2 W' ∧ Stp σ.next ρ σ W ρ' (srtO σ os).2.2 W' ∧ VR ρ' (srtO σ os).2.1 v := by
  unfold srtO at h ⊢
  have hso := sortS_perm os
  cases hS : sortS os with
  | nil =>
    rw [hS] at hso
    refine hC.mono ?_
    rintro e W' ⟨v, ss, rfl, g1, g2, g3, g4⟩
    have : ss = [] := by have := (g1.trans hso.symm).length_eq; simpa using this
    refine ⟨v, ρ, rfl, hr.below g4, .below (Nat.le_refl _) g4, ?_⟩
    unfold VR
    exact g3.2 this
  | cons x t =>
    rw [hS] at h
    simp only [Bool.and_eq_true, Nat.ble_eq, Nat.blt_eq] at h
    obtain ⟨⟨⟨h1, h2⟩, h3⟩, h4⟩ := h
    rw [← hS] at h1
    obtain ⟨i1, i2⟩ := risS_sort h1
    refine hC.mono ?_
    rintro e W' ⟨v, ss, rfl, g1, g2, g3, g4⟩
    have e1 : ss.mergeSort (fun x y => decide (x ≤ y)) = x :: t := by
      rw [← hS, ← i2]
      exact mergeSort_of_perm g1
    have e2 : ss.length = (x :: t).length := by rw [← hS, hso.length_eq, g1.length_eq]
    rw [e1, e2] at g2
    obtain ⟨ρ', k1, k2, k3⟩ := adopt_strs hr g4 h4 (by simp) g2
    exact ⟨v, ρ', rfl, k1, k2, k3⟩
def wiS (dir : List UInt8) (ks : List (List UInt8)) : Bool := Nat.ble dir.length 1000000 && ks.all fun x => !x.isEmpty && (!decide (parB x = dir) || Nat.ble (joinB dir []).length x.length)
noncomputable def wiO (σ : AH) (dir : List UInt8) (ks : List (List UInt8)) : Out := bif wiS dir ks && (risS (sortS ks) && shS ks && Nat.ble ks.length 1000000) then srtO σ (outS dir ks) else bad σ
noncomputable def wiM (σ : AH) (dir : List UInt8) (m : Nat) : Out := match σ.get m with
  | some (.map l) => match keysS l with
    | some ks => wiO σ dir ks
    | none => bad σ
  | _ => bad σ
noncomputable def wiA (args : List AV) (σ : AH) : Out := match args with
  | [.ptr b o, .str dir] => match (σ.get b).bind fun ob => ob.at o with
    | some (.map m) => wiM σ dir m
    | _ => bad σ
  | _ => bad σ
noncomputable def wnF (g : FuncId → List AV → AH → Out) (f : FuncId) (args : List AV) (σ : AH) : Out := bif Nat.beq f 40 then wiA args σ else g f args σ
theorem wnF_ok {Y : List Yl} {g : FuncId → List AV → AH → Out} (hg : FnOk Tryd.prog 3 g Y) : FnOk Tryd.prog 3 (wnF g) Y := by
  intro f args σ h
  unfold wnF at h ⊢
  cases hf : Nat.beq f 40
  case false => rw [hf] at h; rw [cond_false] at h ⊢; exact hg f args σ h
  rw [hf] at h
  simp only [cond_true] at h ⊢
  have e := Nat.eq_of_beq_eq_true hf
  subst e
  refine ⟨⟨_, Tryd.func40, by kernel_rfl, by kernel_rfl⟩, fun ρ W vs _ hG hr hvs => ?_⟩
  unfold wiA at h ⊢
  split at h
  case h_2 => cases h
  rename_i b o dir
  split at h
  case h_2 => cases h
  rename_i m hm
  obtain ⟨ob, hob, hat⟩ := Option.bind_eq_some_iff.1 hm
  obtain ⟨v, mm, rfl, hv, u, mmm, rfl, hu, hmm⟩ := hvs
  have hmm : mmm = [] := hmm
  subst hmm
  unfold VR at hv hu
  subst hu
  obtain ⟨c, d, hc, rfl⟩ := hv
  obtain ⟨_, hcl, ob', ho', hO⟩ := hr.dom b c d hc
  rw [hob] at ho'
  cases ho'
  have hcy : ob.cellsy = true := by cases ob <;> first | rfl | (exact absurd hat (by simp [AObj.at]))
  have hpos : 0 < ob.len := by
    cases ob <;> simp only [AObj.at] at hat
    · cases hat
    · exact Nat.lt_of_le_of_lt (Nat.zero_le _) (List.getElem?_eq_some_iff.1 hat).1
    · obtain ⟨_, h5, _⟩ := Option.map_eq_some_iff.1 hat; exact Nat.lt_of_le_of_lt (Nat.zero_le _) (List.getElem?_eq_some_iff.1 h5).1
    · cases hat
    · cases hat
  obtain ⟨cs, el, fr, hx, _, _, _, hall⟩ := (hO.1 hcy).2 fun _ => hpos
  obtain ⟨u, hu, huv⟩ := hall o _ hat
  unfold VR at huv
  obtain ⟨c2, d2, hc2, rfl⟩ := huv
  have hcell : W.cell? ⟨c, o + d.1, none⟩ = some (.map (some c2)) := by simp [World.cell?, hx, hu]
  obtain ⟨_, _, ob2, ho2, hO2⟩ := hr.dom m c2 d2 hc2
  unfold wiM at h ⊢
  split at h
  case h_2 => cases h
  rename_i l hl
  rw [hl] at ho2
  cases ho2
  cases hk : keysS l <;> simp only [hk] at h ⊢
  · cases h
  rename_i ks
  unfold wiO at h ⊢
  cases hb : wiS dir ks && (risS (sortS ks) && shS ks && Nat.ble ks.length 1000000) <;> rw [hb] at h
  · cases h
  rw [cond_true] at h ⊢
  simp only [Bool.and_eq_true, Nat.ble_eq] at hb
  obtain ⟨hw, ⟨h1, h2⟩, h3⟩ := hb
  obtain ⟨i1, _⟩ := risS_sort h1
  obtain ⟨D, j1, j2, j3⟩ := own_of (hO2.2 l rfl) hk i1 h2 h3
  unfold wiS at hw
  rw [Bool.and_eq_true, Nat.ble_eq] at hw
  refine srtO_of hr h ((within94 c (o + d.1) c2 ks.length D dir W hcl hcell j1 (by rw [j3]; exact h3) hw.1 fun x hx => ?_).mono ?_)
  · have hx := j2.subset hx
    have a1 := List.all_eq_true.1 hw.2 x hx
    have a2 := List.all_eq_true.1 h2 x hx
    rw [Nat.ble_eq] at a2
    rw [Bool.and_eq_true, Bool.or_eq_true, Nat.ble_eq] at a1
    refine ⟨fun e => (by rw [e] at a1; exact absurd a1.1 (by simp)), a2, fun e => ?_⟩
    rcases a1.2 with h | h
    · rw [decide_eq_true e] at h; cases h
    · exact h
  · rintro e W' ⟨v, ss, rfl, g1, g2, g3, g4⟩
    exact ⟨v, ss, rfl, g1.trans ((j2.filter _).map _), g2, g3, g4⟩
noncomputable section
def pkK (l : List (List UInt8)) (k : List Nat → FR) : FR := List.rec (motive := fun _ => (List Nat → FR) → FR) (fun k => k []) (fun x _ ih k => fN (pack x) fun c => ih fun r => k (c :: r)) l k
theorem pkK_eq : ∀ (l : List (List UInt8)) (k : List Nat → FR), pkK l k = k (l.map pack)
  | [], _ => rfl
  | x :: l, k => by
    show (fN (pack x) fun c => pkK l fun r => k (c :: r)) = _
    rw [fN_eq, pkK_eq l]; rfl
theorem unp_packs (l : List (List UInt8)) : (l.map pack).map unp = l := by
  rw [List.map_map]
  conv => rhs; rw [← List.map_id l]
  exact List.map_congr_left fun x _ => unp_pack x
def wiOQ (cs : List Nat) (d : Nat) (σ : FH) (k : KV) : FR := gB (wiS (unp d) (cs.map unp)) (shK cs (gB (Nat.ble cs.length 1000000) (srtK cs fun r => risK r (pkK (outS (unp d) (cs.map unp)) fun os => srtQ os σ k))))
def wiMQ (σ : FH) (d m : Nat) (k : KV) : FR := gM σ m (kMp fun l => keysK l fun cs => wiOQ cs d σ k)
def wiQ (l : List FV) (σ : FH) (k : KV) : FR := k2L l fun x y => kP (fun b o => kS (fun d => gM σ b (kCe fun l => nthK l o (kM fun m => wiMQ σ d m k))) y) x
theorem wiOQ_sm (cs : List Nat) (d : Nat) (σ : FH) (k : KV) : Sm (wiOQ cs d σ k) k (wiO (αH σ) (unp d) (cs.map unp)) := by
  intro h
  unfold wiOQ at h ⊢
  rw [gB_eq] at h ⊢
  cases hw : wiS (unp d) (cs.map unp) <;> rw [hw] at h
  · exact absurd rfl h
  rw [cond_true] at h ⊢
  obtain ⟨h1, h2⟩ := shK_cases h
  rw [h2] at h ⊢
  rw [gB_eq] at h ⊢
  cases hl : Nat.ble cs.length 1000000 <;> rw [hl] at h
  · exact absurd rfl h
  rw [cond_true] at h ⊢
  obtain ⟨r, h3, h4⟩ := srtK_eq cs fun r => risK r (pkK (outS (unp d) (cs.map unp)) fun os => srtQ os σ k)
  rw [h4] at h ⊢
  obtain ⟨h5, h6⟩ := risK_cases h
  rw [h6] at h ⊢
  rw [pkK_eq] at h ⊢
  obtain ⟨v, σ', h7, h8⟩ := srtQ_sm _ σ k h
  refine ⟨v, σ', ?_, h8⟩
  unfold wiO
  rw [hw, ← h3, h5, h1, List.length_map, hl]
  rw [unp_packs] at h7
  exact h7
theorem wiQ_sm (l : List FV) (σ : FH) (k : KV) : Sm (wiQ l σ k) k (wiA (αL l) (αH σ)) := by
  intro h
  unfold wiQ at h ⊢
  obtain ⟨x, y, rfl, h1⟩ := k2L_cases h
  rw [h1] at h ⊢
  obtain ⟨b, o, rfl, h6⟩ := kP_cases h
  rw [h6] at h ⊢
  obtain ⟨d, rfl, h5⟩ := kS_cases h
  rw [h5] at h ⊢
  obtain ⟨ob, _, h7, h8⟩ := gM_cases h
  rw [h8] at h ⊢
  obtain ⟨l, e, t, rfl, h9⟩ := kCe_cases h
  rw [h9] at h ⊢
  rw [nthK_eq] at h ⊢
  cases hl : l[o]? <;> rw [hl] at h
  · exact absurd rfl h
  rename_i v
  have h : kM (fun m => wiMQ σ d m k) v ≠ .bad := h
  show ∃ w σ', _ ∧ kM (fun m => wiMQ σ d m k) v = k w σ'
  obtain ⟨m, rfl, h10⟩ := kM_cases h
  rw [h10] at h ⊢
  unfold wiMQ at h ⊢
  obtain ⟨ob2, _, g3, g4⟩ := gM_cases h
  rw [g4] at h ⊢
  obtain ⟨l2, rfl, g5⟩ := kMp_cases h
  rw [g5] at h ⊢
  obtain ⟨cs, g6, g7⟩ := keysK_cases h
  rw [g7] at h ⊢
  obtain ⟨v, σ', g8, g9⟩ := wiOQ_sm cs d σ k h
  refine ⟨v, σ', ?_, g9⟩
  rw [← g8]
  simp only [αL, αV, wiA, h7, Option.bind_some, αO, AObj.at, αL_map, List.getElem?_map, hl, Option.map_some, wiM, g3, g6]
end
end Go.Proofs.YtjoakhpdajlhiaaDoor.V2
namespace Go.Proofs.YtjoakhpdajlhiaaDoor.V2.S
open Go
def insB (x : Bs) : List Bs → List Bs
  | [] => [x]
  | y :: l => if y < x then y :: insB x l else x :: y :: l
def sortB : List Bs → List Bs
  | [] => []
  | x :: l => insB x (sortB l)
def insE (x : En) : List En → List En
  | [] => [x]
  | y :: l => if y.path < x.path then y :: insE x l else x :: y :: l
def sortE : List En → List En
  | [] => []
  | x :: l => insE x (sortE l)
theorem insE_map (x : En) : ∀ l : List En, (insE x l).map En.path = insB x.path (l.map En.path)
  | [] => rfl
  | y :: l => by
    unfold insE
    rw [List.map_cons, insB]
    split
    · rw [List.map_cons, insE_map x l]
    · rfl
theorem sortE_map : ∀ l : List En, (sortE l).map En.path = sortB (l.map En.path)
  | [] => rfl
  | x :: l => by rw [sortE, insE_map, sortE_map l]; rfl
theorem insE_perm (x : En) : ∀ l : List En, (insE x l).Perm (x :: l)
  | [] => .refl _
  | y :: l => by
    unfold insE
    split
    · exact (List.Perm.cons y (insE_perm x l)).trans (List.Perm.swap x y l)
    · exact .refl _
theorem sortE_perm : ∀ l : List En, (sortE l).Perm l
  | [] => .refl _
  | x :: l => (insE_perm x (sortE l)).trans (List.Perm.cons x (sortE_perm l))
theorem sortE_len (l : List En) : (sortE l).length = l.length := (sortE_perm l).length_eq
theorem sizesG_perm {l l' : List En} (h : l.Perm l') : sizesG l = sizesG l' := by
  induction h with
  | nil => rfl
  | cons x _ ih => simp only [sizesG, ih]
  | swap x y l => simp only [sizesG]; omega
  | trans _ _ h1 h2 => exact h1.trans h2
theorem look_mem : ∀ {L : List En} {e : En}, (L.map En.path).Nodup → e ∈ L → lookM En.path e.path L = some e
  | [], e, _, h => absurd h List.not_mem_nil
  | b :: L, e, hn, h => by
    rw [List.map_cons, List.nodup_cons] at hn
    unfold lookM
    rcases List.mem_cons.1 h with h | h
    · subst h; rw [if_pos rfl]
    · rw [if_neg, look_mem hn.2 h]
      intro hb
      exact hn.1 (by rw [hb]; exact List.mem_map_of_mem h)
theorem sortE_at {L : List En} {i : Nat} {e : En} (hn : (L.map En.path).Nodup) (h : (sortE L)[i]? = some e) : lookM En.path e.path L = some e := look_mem hn ((sortE_perm L).mem_iff.1 (List.mem_of_getElem? h))
theorem sortB_at {L : List En} {i : Nat} {e : En} (h : (sortE L)[i]? = some e) : (sortB (L.map En.path))[i]? = some e.path := by rw [← sortE_map, List.getElem?_map, h]; rfl
theorem sortB_len (L : List En) : (sortB (L.map En.path)).length = L.length := by rw [← sortE_map, List.length_map, sortE_len]
theorem sizesG_take : ∀ {l : List En} {i : Nat} {e : En}, l[i]? = some e → sizesG (l.take (i + 1)) = sizesG (l.take i) + (e.path.length + e.data.length)
  | [], i, e, h => by simp at h
  | b :: l, 0, e, h => by
    simp at h; subst h
    simp [sizesG]
  | b :: l, i + 1, e, h => by
    have h : l[i]? = some e := by simpa using h
    have := sizesG_take h
    simp only [List.take_succ_cons, sizesG, this]; omega
theorem sizesG_le_take : ∀ (l : List En) (i : Nat), sizesG (l.take i) ≤ sizesG l
  | [], i => by simp [sizesG]
  | b :: l, 0 => by simp [sizesG]
  | b :: l, i + 1 => by
    have := sizesG_le_take l i
    simp only [List.take_succ_cons, sizesG]; omega
end Go.Proofs.YtjoakhpdajlhiaaDoor.V2.S
namespace Go.Proofs.YtjoakhpdajlhiaaDoor.V2.S
open Go
set_option maxRecDepth 100000
set_option maxHeartbeats 4000000
set_option linter.unusedVariables false
attribute [local irreducible] fN fO nM gM pM Phi.fn Phi.yl Phi.up mp bl bpart bapp top1 pack
def KeysS (Φ : Phi) : Prop := ∀ {mb : Nat} {L : List En} {n : Nat} {m : T FObj}, Am m mb (.map (L.map fun a => (.s (pack (En.path a)), entV a))) → mb < n → (L.map En.path).Nodup → L.length ≤ 1000 → (∀ e ∈ L, e.path.length ≤ 1000000) → ∀ (k : KV) (P : FR), n + 2 ≤ 1000000 →
  (∀ v n' m', n ≤ n' → n' ≤ n + 2 → Kp n m m' → (L = [] → v = .o .sl) → (L ≠ [] → ∃ b, v = .sl b 0 L.length L.length false 1 ∧ n ≤ b ∧ b < n' ∧ Am m' b (.cells (vsL (sortB (L.map En.path))) 9 .more)) → k v ⟨n', m'⟩ = P) → Phi.fn Φ 30 [.m mb] ⟨n, m⟩ (fun v σ => Phi.fn Φ 29 [v] σ k) = P
def WalkS (H : HF) (y : Nat) (Y : HF) : Prop := ∀ {tb mb : Nat} {t : Tr} {n : Nat} {m : T FObj} (c : Nat) (xs : List Nat) (I : Nat → T FObj → Prop), TreeAt m tb mb 65 t → tb < n → mb < n → WfT t → (∀ x ∈ xs, x < n) → (∀ x ∈ xs, tb ≠ x) → (∀ x ∈ xs, mb ≠ x) → (∀ i n1 m1 m2, n ≤ n1 → Kp n1 m1 m2 → I i m1 → I i m2) →
  (∀ i e n1 m1 (k : KV) (P : FR), (sortE t.L)[i]? = some e → n ≤ n1 → n1 + c ≤ 1000000 → Kq xs n m m1 → I i m1 → (∀ n2 m2, n1 ≤ n2 → n2 ≤ n1 + c → Kq xs n1 m1 m2 → I (i + 1) m2 → k (.b true) ⟨n2, m2⟩ = P) → Y [entV e] ⟨n1, m1⟩ k = P) →
  ∀ (k : KV) (P : FR), n + 2 + c * t.L.length ≤ 1000000 → I 0 m → (∀ n' m', n ≤ n' → n' ≤ n + 2 + c * t.L.length → Kq xs n m m' → I t.L.length m' → k (.tup []) ⟨n', m'⟩ = P) → H [.p tb 0, .y y] ⟨n, m⟩ k = P
theorem walk_s {O : Oz} (hO : O = zO) (Φ : Phi) (H1 : NoneS (Phi.fn Φ 28)) (H2 : KeysS Φ) (y : Nat) (Y : HF) (hy : Phi.yl Φ y = Y) : WalkS (p9 O Φ) y Y := fun {tb mb t n m} c xs I hT htb hmb hW hx1 hx2 hx3 hI hY k P hn h0 hf => by
  have hT1 := hT.s
  have hT2 := hT.m
  have hwl := hW.len
  have hpw : ∀ e ∈ t.L, e.path.length ≤ 1000000 := fun e he => by have := (hW.pl e he).1; omega
  by_cases hL : t.L = []
  · have hl0 : t.L.length = 0 := by rw [hL]; rfl
    rw [hl0] at hf hn
    repeat' ((conv => lhs; whnf); first | ((with_reducible refine atFn ?_); first | refine H1 (hT.kp kQ htb hmb) _ _ ?_ | (refine H2 hT2 hmb hW.nd (by omega) hpw _ _ (by omega) ?_; rintro v1 n1 m1 h1 g1 k1 q0 q1; obtain rfl := q0 hL)) | ((with_reducible refine fa0 hO ?_)) | ((with_reducible refine atLd ?_); refine ldC hO aQ (by rfl) ?_) | ((with_reducible refine lvN hO ?_)))
    all_goals (conv => lhs; whnf)
    all_goals first
      | exact hf _ _ (by omega) (by omega) qQ h0
      | (refine lpI hO (fun t e n' m' => t = 0 ∧ n' = n1 ∧ m' = m1 ∧ e = eof [(15, .n .i64 0)]) ?_ ?_ _ 0 _ _ _ (by omega) ⟨rfl, rfl, rfl, rfl⟩
         · rintro t e n' m' ⟨_, rfl, _⟩; omega
         · rintro t e n' m' ih ⟨rfl, rfl, rfl, rfl⟩ hih
           repeat' ((conv => lhs; whnf); first | ((with_reducible refine ltF hO (by omega) ?_)))
           all_goals (conv => lhs; whnf)
           all_goals first
             | exact hf _ _ (by omega) (by omega) (Kq.of kQ _) (hI 0 n m _ (Nat.le_refl _) kQ h0))
  · 
    repeat' ((conv => lhs; whnf); first | ((with_reducible refine atFn ?_); first | refine H1 (hT.kp kQ htb hmb) _ _ ?_ | (refine H2 hT2 hmb hW.nd (by omega) hpw _ _ (by omega) ?_; rintro v1 n1 m1 h1 g1 k1 q0 q1; obtain ⟨b, rfl, q1, q2, q3⟩ := q1 hL)) | ((with_reducible refine fa0 hO ?_)) | ((with_reducible refine atLd ?_); refine ldC hO aQ (by rfl) ?_) | ((with_reducible refine lvS hO ?_)))
    all_goals (conv => lhs; whnf)
    all_goals first
      | exact absurd rfl hL
      | (refine lpI hO (fun q e n' m' => ∃ i, i ≤ t.L.length ∧ q = t.L.length - i ∧ n1 ≤ n' ∧ n' ≤ n1 + c * i ∧ Kq xs n m m' ∧ Kq xs n1 m1 m' ∧ I i m' ∧ e = eof [(15, .n .i64 i)]) ?_ ?_ _ t.L.length _ _ _ (by omega) ⟨0, Nat.zero_le _, by omega, Nat.le_refl _, by omega, Kq.of kQ _, Kq.refl _ _ _, hI 0 n m _ (Nat.le_refl _) kQ h0, rfl⟩
         · rintro q e n' m' ⟨i, _, _, h, _⟩; omega
         · rintro q e n' m' ih ⟨i, z1, rfl, z2, z3, z4, z5, z6, rfl⟩ hih
           have hT' := hT.kq z4 htb hmb hx2 hx3
           have hT1' := hT'.s
           have hT2' := hT'.m
           have hb' : Am m' b (.cells (vsL (sortB (t.L.map En.path))) 9 .more) := z5 _ _ q2 (fun x hx => by have := hx1 x hx; omega) q3
           clear hT1 hT2
           rcases Nat.lt_or_ge i t.L.length with hlt | hge
           · obtain ⟨e1, he⟩ : ∃ e1, (sortE t.L)[i]? = some e1 := ⟨_, List.getElem?_eq_getElem (by rw [sortE_len]; omega)⟩
             have hle := sortE_at hW.nd he
             have hci : c * (i + 1) ≤ c * t.L.length := Nat.mul_le_mul_left c (by omega)
             have hcs : c * (i + 1) = c * i + c := Nat.mul_succ c i
             repeat' ((conv => lhs; whnf); first | ((rw [hy]; refine hY _ _ _ _ _ _ he (by omega) (by omega) z4 z6 (fun n5 m5 h5 g5 k5 q5 => ?_))) | ((with_reducible refine fa0 hO ?_)) | ((with_reducible refine atLd ?_); first | refine ldC hO aQ (vsL_at (sortB_at he)) ?_ | refine ldC hO aQ (by rfl) ?_) | ((with_reducible refine ltT hO (by omega) ?_)) | ((with_reducible refine adI hO (by omega) ?_)) | ((with_reducible refine ix01 hO (by omega) ?_)) | ((with_reducible refine atLk ?_); (refine lkS1 hO aQ (fun a hla => ?_) (fun hla => absurd hla (by rw [hle]; simp)); obtain rfl : e1 = a := by rw [hle] at hla; exact Option.some.inj hla)))
             all_goals (conv => lhs; whnf)
             all_goals first
               | exact hih (t.L.length - (i + 1)) _ _ _ (by omega) ⟨i + 1, by omega, rfl, by omega, by omega, z4.trans k5 (by omega), z5.trans k5 (by omega), q5, rfl⟩
           · obtain rfl : i = t.L.length := by omega
             repeat' ((conv => lhs; whnf); first | ((with_reducible refine ltF hO (by omega) ?_)))
             all_goals (conv => lhs; whnf)
             all_goals first
               | exact hf _ _ (by omega) (by omega) z4 z6)
end Go.Proofs.YtjoakhpdajlhiaaDoor.V2.S
namespace Go.Proofs.YtjoakhpdajlhiaaDoor.V2.S
open Go
set_option maxRecDepth 100000
set_option maxHeartbeats 4000000
set_option linter.unusedVariables false
attribute [local irreducible] fN fO nM gM pM Phi.fn mp bl bpart bapp top1 pack
theorem ltC_pack (a b : Bs) (t s : FR) : ltC (pack a) (pack b) t s = if a < b then t else s := by
  rw [ltC_eq, unp_pack, unp_pack]
  by_cases h : a < b
  · rw [if_pos h, decide_eq_true h]; rfl
  · rw [if_neg h, decide_eq_false h]; rfl
theorem insK_pack (x : Bs) : ∀ (l : List Bs) (k : List Nat → FR), insK (pack x) (l.map pack) k = k ((insB x l).map pack)
  | [], k => rfl
  | y :: l, k => by
    show ltC (pack y) (pack x) (insK (pack x) (l.map pack) fun r => k (pack y :: r)) (k (pack x :: pack y :: l.map pack)) = _
    rw [ltC_pack, insK_pack x l, insB]
    by_cases h : y < x
    · rw [if_pos h, if_pos h]; rfl
    · rw [if_neg h, if_neg h]; rfl
theorem srtK_pack : ∀ (l : List Bs) (k : List Nat → FR), srtK (l.map pack) k = k ((sortB l).map pack)
  | [], k => rfl
  | x :: l, k => by
    show srtK (l.map pack) (fun r => insK (pack x) r k) = _
    rw [srtK_pack l, insK_pack]; rfl
theorem shK_pack : ∀ (l : List Bs) (s : FR), (∀ x ∈ l, x.length ≤ 1000000) → shK (l.map pack) s = s
  | [], s, _ => rfl
  | x :: l, s, h => by
    show gB (Nat.ble (bl (pack x)) 1000000) (shK (l.map pack) s) = s
    rw [bl_pack, ble_t (h x List.mem_cons_self), shK_pack l s fun y hy => h y (List.mem_cons_of_mem _ hy)]; rfl
theorem txK_pack : ∀ (l : List Bs) (k : List FV → FR), txK (l.map pack) k = k (vsL l)
  | [], k => rfl
  | x :: l, k => by
    show txK (l.map pack) (fun r => k (.s (pack x) :: r)) = _
    rw [txK_pack l]; rfl
theorem keysK_pack : ∀ (L : List En) (k : List Nat → FR), keysK (L.map fun a => (.s (pack (En.path a)), entV a)) k = k ((L.map En.path).map pack)
  | [], k => rfl
  | e :: L, k => by
    show keysK (L.map fun a => (.s (pack (En.path a)), entV a)) (fun r => k (pack e.path :: r)) = _
    rw [keysK_pack L]; rfl
theorem lt_of_not {a b : Bs} (h : ¬ b < a) (hne : a ≠ b) : a < b := by
  rcases Std.lt_trichotomy a b with h1 | h1 | h1
  · exact h1
  · exact absurd h1 hne
  · exact absurd h1 h
theorem insB_mem {x z : Bs} : ∀ {l : List Bs}, z ∈ insB x l → z = x ∨ z ∈ l
  | [], h => .inl (by simpa [insB] using h)
  | y :: l, h => by
    unfold insB at h
    split at h
    · rcases List.mem_cons.1 h with h | h
      · exact .inr (h ▸ List.mem_cons_self)
      · rcases insB_mem h with h | h
        · exact .inl h
        · exact .inr (List.mem_cons_of_mem _ h)
    · rcases List.mem_cons.1 h with h | h
      · exact .inl h
      · exact .inr h
theorem insB_pw {x : Bs} : ∀ {l : List Bs}, l.Pairwise (· < ·) → x ∉ l → (insB x l).Pairwise (· < ·)
  | [], _, _ => by simp [insB]
  | y :: l, h, hx => by
    have h1 := List.pairwise_cons.1 h
    unfold insB
    split
    · rename_i hlt
      refine List.pairwise_cons.2 ⟨fun z hz => ?_, insB_pw h1.2 fun hm => hx (List.mem_cons_of_mem _ hm)⟩
      rcases insB_mem hz with rfl | hz
      · exact hlt
      · exact h1.1 z hz
    · rename_i hlt
      have hxy : x < y := lt_of_not hlt fun e => hx (e ▸ List.mem_cons_self)
      refine List.pairwise_cons.2 ⟨fun z hz => ?_, h⟩
      rcases List.mem_cons.1 hz with rfl | hz
      · exact hxy
      · exact List.lt_trans hxy (h1.1 z hz)
theorem sortB_mem {z : Bs} : ∀ {l : List Bs}, z ∈ sortB l → z ∈ l
  | [], h => h
  | x :: l, h => by
    rcases insB_mem (show z ∈ insB x (sortB l) from h) with h | h
    · exact h ▸ List.mem_cons_self
    · exact List.mem_cons_of_mem _ (sortB_mem h)
theorem sortB_pw : ∀ {l : List Bs}, l.Nodup → (sortB l).Pairwise (· < ·)
  | [], _ => List.Pairwise.nil
  | x :: l, h => by
    have h1 := List.nodup_cons.1 h
    exact insB_pw (sortB_pw h1.2) fun hm => h1.1 (sortB_mem hm)
theorem risK_pack : ∀ {l : List Bs} (s : FR), l.Pairwise (· < ·) → risK (l.map pack) s = s
  | [], s, _ => rfl
  | [x], s, _ => rfl
  | x :: y :: l, s, h => by
    have h1 := List.pairwise_cons.1 h
    show ltC (pack x) (pack y) (risK ((y :: l).map pack) s) .bad = s
    rw [ltC_pack, if_pos (h1.1 y List.mem_cons_self), risK_pack s h1.2]
end Go.Proofs.YtjoakhpdajlhiaaDoor.V2.S
namespace Go.Proofs.YtjoakhpdajlhiaaDoor.V2.S
open Go
set_option maxRecDepth 100000
set_option maxHeartbeats 4000000
set_option linter.unusedVariables false
attribute [local irreducible] fN fO nM gM pM Phi.fn Phi.yl Phi.up mp bl bpart bapp top1 pack
theorem srtQ_pack {L : List En} {n : Nat} {m : T FObj} {k : KV} (hnd : (L.map En.path).Nodup) (hl : L.length ≤ 1000) (hp : ∀ e ∈ L, e.path.length ≤ 1000000) (hn : n < 1000000) :
    srtQ ((L.map En.path).map pack) ⟨n, m⟩ k = if L = [] then k (.o .sl) ⟨n, m⟩ else k (.sl n 0 L.length L.length false 1) ⟨n + 1, mp m n (.cells (vsL (sortB (L.map En.path))) 9 .more)⟩ := by
  have hlen := sortB_len L
  show shK ((L.map En.path).map pack) (srtK ((L.map En.path).map pack) fun r => List.rec (motive := fun _ => FR) (k (.o .sl) ⟨n, m⟩) (fun _ _ _ => risK r (lnK r fun q => gB (Nat.ble q 1000000) (txK r fun l => nM ⟨n, m⟩ (.cells l 9 .more) fun b σ => k (.sl b 0 q q false 1) σ))) r) = _
  rw [shK_pack _ _ fun x hx => by obtain ⟨e, he, rfl⟩ := List.mem_map.1 hx; exact hp e he, srtK_pack]
  cases hs : sortB (L.map En.path) with
  | nil =>
    have : L = [] := by rw [hs] at hlen; exact List.length_eq_zero_iff.1 hlen.symm
    rw [if_pos this]; rfl
  | cons x r =>
    have : L ≠ [] := fun h => by subst h; rw [hs] at hlen; cases hlen
    rw [if_neg this]
    show risK ((x :: r).map pack) (lnK ((x :: r).map pack) fun q => gB (Nat.ble q 1000000) (txK ((x :: r).map pack) fun l => nM ⟨n, m⟩ (.cells l 9 .more) fun b σ => k (.sl b 0 q q false 1) σ)) = _
    rw [risK_pack _ (hs ▸ sortB_pw hnd), lnK_eq, List.length_map, ← hs, hlen, ble_t (by omega), txK_pack]
    show (nM ⟨n, m⟩ (.cells (vsL (sortB (L.map En.path))) 9 .more) fun b σ => k (.sl b 0 L.length L.length false 1) σ) = _
    rw [nM_mp hn]
theorem keys_s {O : Oz} (hO : O = zO) (Φ Φ1 : Phi) (H30 : Phi.fn Φ 30 = p30 O Φ1) (H29 : Phi.fn Φ 29 = srQ) : KeysS Φ := fun {mb L n m} ha hb hnd hl hp k P hn hf => by
  have key : ∀ (b : Nat) (n' : Nat) (m' : T FObj) (e : TypeId) (tl : Tl), n ≤ n' → n' ≤ n + 1 → Kp n m m' → Am m' b (.cells [.m mb] e tl) → Am m' mb (.map (L.map fun a => (.s (pack (En.path a)), entV a))) → srQ [.fn (.func 65) [] [.p b 0]] ⟨n', m'⟩ k = P := fun b n' m' e tl h1 h2 hk hb2 hm2 => by
    show (gM ⟨n', m'⟩ b (kCe fun l => nthK l 0 (kM fun q => srMQ ⟨n', m'⟩ q k))) = P
    rw [gM_am hb2]
    show gM ⟨n', m'⟩ mb (kMp fun l => keysK l fun cs => srtQ cs ⟨n', m'⟩ k) = P
    rw [gM_am hm2]
    show keysK (L.map fun a => (.s (pack (En.path a)), entV a)) (fun cs => srtQ cs ⟨n', m'⟩ k) = P
    rw [keysK_pack, srtQ_pack hnd hl hp (by omega)]
    split
    · rename_i h0; exact hf _ _ _ h1 (by omega) hk (fun _ => rfl) (fun h => absurd h0 h)
    · rename_i h0; exact hf _ _ _ (by omega) (by omega) kQ (fun h => absurd h h0) (fun _ => ⟨n', rfl, h1, by omega, am_same (by omega)⟩)
  rw [H30]
  repeat' ((conv => lhs; whnf); first | ((with_reducible refine fa0 hO ?_)) | ((with_reducible refine faN hO ?_)) | ((with_reducible refine atLd ?_); first | refine ldC hO aQ (by rfl) ?_ | refine ldB hO aQ (by omega) ?_ | refine ldI hO aQ (by rfl) ?_ | refine uld hO ?_) | (((with_reducible refine lsS hO ?_); try simp only [List.length_cons, List.length_nil, Nat.zero_add])) | ((with_reducible refine lvS hO ?_)) | ((with_reducible refine lvN hO ?_)) | ((with_reducible refine ltT hO (by omega) ?_)) | ((with_reducible refine ltF hO (by omega) ?_)) | ((with_reducible refine ltB hO (fun h => ?_) (fun h => ?_))) | ((with_reducible refine leT hO (by omega) ?_)) | ((with_reducible refine leF hO (by omega) ?_)) | ((with_reducible refine leB hO (fun h => ?_) (fun h => ?_))) | ((with_reducible refine gtT hO (by omega) ?_)) | ((with_reducible refine gtF hO (by omega) ?_)) | ((with_reducible refine gtB hO (fun h => ?_) (fun h => ?_))) | ((with_reducible refine geT hO (by omega) ?_)) | ((with_reducible refine geF hO (by omega) ?_)) | ((with_reducible refine geB hO (fun h => ?_) (fun h => ?_))) | ((with_reducible refine eqT hO (by omega) ?_)) | ((with_reducible refine eqF hO (by omega) ?_)) | ((with_reducible refine eqB hO (fun h => ?_) (fun h => ?_))) | ((with_reducible refine neT hO (by omega) ?_)) | ((with_reducible refine neF hO (by omega) ?_)) | ((with_reducible refine neB hO (fun h => ?_) (fun h => ?_))) | ((with_reducible refine eqST hO (by first | rfl | assumption) ?_)) | ((with_reducible refine eqSF hO (by first | assumption | decide) ?_)) | ((with_reducible refine eqSB hO (fun h => ?_) (fun h => ?_))) | ((with_reducible refine neSF hO (by first | rfl | assumption) ?_)) | ((with_reducible refine neST hO (by first | assumption | decide) ?_)) | ((with_reducible refine neSB hO (fun h => ?_) (fun h => ?_))) | ((with_reducible refine adI hO (by omega) ?_)) | ((with_reducible refine adS hO (by first | omega | (simp only [List.length_cons, List.length_nil, List.length_append]; omega)) ?_)) | ((with_reducible refine sbI hO (by omega) (by omega) ?_)) | ((with_reducible refine sbZ hO (by omega) (by omega) ?_)) | ((with_reducible refine rmI hO (by omega) ?_)) | ((with_reducible refine quI hO (by omega) (by omega) ?_)) | ((with_reducible refine mtI hO (by omega) ?_)) | ((with_reducible refine cvI hO (by omega) ?_)) | ((with_reducible refine cvB hO (by omega) ?_)) | ((with_reducible refine mnI hO ?_)) | ((with_reducible refine mxI hO ?_)) | ((with_reducible refine ix01 hO (by omega) ?_)) | ((with_reducible refine ix0 hO (by omega) ?_)) | ((with_reducible refine ix1 hO (by omega) ?_)) | ((with_reducible refine ixN hO (by omega) ?_)) | ((with_reducible refine txS hO (by first | omega | decide) ?_)) | ((with_reducible refine ssH hO (by omega) ?_)) | ((with_reducible refine ssL hO (by omega) ?_)) | ((with_reducible refine ssB hO (by omega) (by omega) ?_)) | ((with_reducible refine svH hO (by omega) ?_)) | ((with_reducible refine svL hO (by omega) ?_)) | ((with_reducible refine svB hO (by omega) (by omega) ?_)) | ((with_reducible refine atSt ?_); first | refine stC hO aQ (by kernel_rfl) (fun _ _ _ => rfl) (fun _ => rfl) ?_ | refine ust hO ?_) | ((with_reducible refine alO hO (by omega) ?_)) | ((with_reducible refine atBx ?_); first | refine bxS hO (by omega) ?_ | refine bxSl hO (by omega) ?_ | refine bxI hO (by omega) ?_ | refine bxA hO (by omega) (by simp only [αL, αV, AObj.of, allInt, βO, βL, βV, unp_pack]) ?_ | refine ubx hO ?_) | ((with_reducible refine atLk ?_); first | refine lkS hO aQ (fun a hla => ?_) (fun hla => ?_) | refine lkS1 hO aQ (fun a hla => ?_) (fun hla => ?_)) | ((with_reducible refine atMu ?_); first | refine muS hO aQ (by rfl) (by rfl) ?_) | ((with_reducible refine atMd ?_); first | refine mdS hO aQ ?_) | ((with_reducible refine sBS hO (by omega) ?_)) | ((with_reducible refine rcE hO (by kernel_rfl) rfl ?_)) | ((with_reducible first | refine umt hO ?_ | refine uqu hO ?_ | refine urm hO ?_ | refine uan hO ?_ | refine uro hO ?_ | refine uxr hO ?_ | refine uhl hO ?_ | refine uhr hO ?_ | refine uad hO ?_ | refine usb hO ?_ | refine ult hO ?_ | refine ule hO ?_ | refine ugt hO ?_ | refine uge hO ?_ | refine ueq hO ?_ | refine une hO ?_ | refine ucv hO ?_ | refine uia hO ?_ | refine usv hO ?_ | refine ubu hO ?_ | refine uap hO ?_ | refine ubs hO ?_ | refine umm hO ?_ | refine upq hO ?_ | refine unq hO ?_ | refine uln hO ?_)) | (with_reducible refine (fN_eq _ _).trans ?_) | (with_reducible refine (nM_mp (by omega)).trans ?_) | (with_reducible refine pM_mp.trans ?_) | (refine gM_amP aQ ?_) | (with_reducible refine (fO_eq _ _).trans ?_) | (((with_reducible refine atB ?_); first | refine brecBT (by omega) ?_ | refine brecBF (by omega) ?_ | refine brecB (fun h => ?_) (fun h => ?_) | refine brecT (by assumption) ?_ | refine brecF (by assumption) ?_ | refine brec (fun h => ?_) (fun h => ?_))))
  all_goals (conv => lhs; whnf)
  all_goals first
    | (refine atFn ?_; rw [H29]; exact key _ _ _ _ _ (by omega) (by omega) kQ aQ aQ)
end Go.Proofs.YtjoakhpdajlhiaaDoor.V2.S
namespace Go.Proofs.YtjoakhpdajlhiaaDoor.V2.S
open Go
set_option maxRecDepth 100000
set_option maxHeartbeats 4000000
set_option linter.unusedVariables false
attribute [local irreducible] fN fO nM gM pM Phi.fn mp bl bpart bapp top1 pack
theorem hasSuf_spec {d : Bs} (h : hasSuf d [47] = true) : d = d.take (d.length - 1) ++ [47] := by
  unfold hasSuf at h
  rw [Bool.and_eq_true, decide_eq_true_iff, decide_eq_true_iff] at h
  have h2 : d.drop (d.length - 1) = [47] := h.2
  rw [← h2, List.take_append_drop]
theorem pre_of {x d : Bs} (hx : x.head? = some 47) (hd : parG x = d) : (joinG d []).length ≤ x.length ∧ x.take (joinG d []).length = joinG d [] := by
  have hxl : 1 ≤ x.length := by
    cases x with
    | nil => cases hx
    | cons c l => exact Nat.succ_le_succ (Nat.zero_le _)
  have hle := lastS_le x
  have hdl : d.length ≤ x.length := by rw [← hd]; exact parG_le x
  have hdt : x.take d.length = d := by
    rw [← hd]; unfold parG
    rw [List.length_take, List.take_eq_take_iff]; omega
  cases hs : hasSuf d [47] with
  | true =>
    have hj : joinG d [] = d := by
      unfold joinG trimG
      rw [if_pos hs, List.append_nil]; exact (hasSuf_spec hs).symm
    rw [hj]; exact ⟨hdl, hdt⟩
  | false =>
    have hj : joinG d [] = d ++ [47] := by
      unfold joinG trimG
      rw [if_neg (by rw [hs]; simp), List.append_nil]
    by_cases h0 : lastS x - 1 ≤ 1
    · exfalso
      have : d = [47] := by
        rw [← hd]; unfold parG
        rw [Nat.max_eq_right h0]
        cases x with
        | nil => cases hx
        | cons c l => simp at hx; subst hx; rfl
      rw [this] at hs; exact absurd hs (by decide)
    · have hdl2 : d.length = lastS x - 1 := by
        rw [← hd]; unfold parG
        rw [List.length_take]; omega
      obtain ⟨h1, _⟩ := lastS_pos (l := x) (by omega)
      rw [hj, List.length_append, List.length_singleton]
      refine ⟨by omega, ?_⟩
      rw [List.take_add_one, hdt, hdl2, h1]; rfl
def outG (d : Bs) (l : List Bs) : List Bs := (l.filter fun x => decide (parG x = d)).map fun x => x.drop (joinG d []).length
theorem outG_nd {d : Bs} : ∀ {l : List Bs}, l.Nodup → (∀ x ∈ l, x.head? = some 47) → (outG d l).Nodup := fun {l} hn hh => by
  unfold outG
  refine List.Pairwise.map _ (fun x y h => h) ?_ |> fun h => h
  exact (hn.filter _).imp_of_mem fun {x y} hx hy hne e => hne (by
    obtain ⟨hx1, hx2⟩ := List.mem_filter.1 hx
    obtain ⟨hy1, hy2⟩ := List.mem_filter.1 hy
    have e1 := (pre_of (hh x hx1) (of_decide_eq_true hx2)).2
    have e2 := (pre_of (hh y hy1) (of_decide_eq_true hy2)).2
    rw [← List.take_append_drop (joinG d []).length x, ← List.take_append_drop (joinG d []).length y, e1, e2, e])
end Go.Proofs.YtjoakhpdajlhiaaDoor.V2.S
namespace Go.Proofs.YtjoakhpdajlhiaaDoor.V2.S
open Go
set_option maxRecDepth 100000
set_option maxHeartbeats 4000000
set_option linter.unusedVariables false
attribute [local irreducible] fN fO nM gM pM Phi.fn mp bl bpart bapp top1 pack
theorem insB_len (x : Bs) : ∀ l : List Bs, (insB x l).length = l.length + 1
  | [] => rfl
  | y :: l => by
    unfold insB
    split
    · rw [List.length_cons, insB_len x l]; rfl
    · rfl
theorem sortB_length : ∀ l : List Bs, (sortB l).length = l.length
  | [] => rfl
  | x :: l => by rw [sortB, insB_len, sortB_length l]; rfl
theorem srtQ_bs {L : List Bs} {n : Nat} {m : T FObj} {k : KV} (hnd : L.Nodup) (hl : L.length ≤ 1000) (hp : ∀ e ∈ L, e.length ≤ 1000000) (hn : n < 1000000) :
    srtQ (L.map pack) ⟨n, m⟩ k = if L = [] then k (.o .sl) ⟨n, m⟩ else k (.sl n 0 L.length L.length false 1) ⟨n + 1, mp m n (.cells (vsL (sortB L)) 9 .more)⟩ := by
  have hlen := sortB_length L
  show shK (L.map pack) (srtK (L.map pack) fun r => List.rec (motive := fun _ => FR) (k (.o .sl) ⟨n, m⟩) (fun _ _ _ => risK r (lnK r fun q => gB (Nat.ble q 1000000) (txK r fun l => nM ⟨n, m⟩ (.cells l 9 .more) fun b σ => k (.sl b 0 q q false 1) σ))) r) = _
  rw [shK_pack _ _ hp, srtK_pack]
  cases hs : sortB L with
  | nil =>
    have : L = [] := by rw [hs] at hlen; exact List.length_eq_zero_iff.1 hlen.symm
    rw [if_pos this]; rfl
  | cons x r =>
    have : L ≠ [] := fun h => by subst h; cases hs
    rw [if_neg this]
    show risK ((x :: r).map pack) (lnK ((x :: r).map pack) fun q => gB (Nat.ble q 1000000) (txK ((x :: r).map pack) fun l => nM ⟨n, m⟩ (.cells l 9 .more) fun b σ => k (.sl b 0 q q false 1) σ)) = _
    rw [risK_pack _ (hs ▸ sortB_pw hnd), lnK_eq, List.length_map, ← hs, hlen, ble_t (by omega), txK_pack]
    show (nM ⟨n, m⟩ (.cells (vsL (sortB L)) 9 .more) fun b σ => k (.sl b 0 L.length L.length false 1) σ) = _
    rw [nM_mp hn]
theorem outS_out (d : Bs) (l : List Bs) : outS d l = outG d l := by
  unfold outS outG
  have e1 : (fun x : Bs => decide (parB x = d)) = fun x => decide (parG x = d) := funext fun x => by rw [show parB x = parG x from par_eq x]
  rw [e1, show joinB d [] = joinG d [] from join_eq d []]
theorem out_none {t : Tr} {d : Bs} : outG d (t.L.map En.path) = [] ↔ withinB t d = false := by
  unfold outG withinB
  rw [List.map_eq_nil_iff, List.filter_eq_nil_iff, List.any_eq_false]
  constructor
  · intro h e he; exact h e.path (List.mem_map.2 ⟨e, he, rfl⟩)
  · intro h x hx
    obtain ⟨e, he, rfl⟩ := List.mem_map.1 hx
    exact h e he
theorem wi_s : WithinS wiQ := fun {tb mb t n m} hT htb hmb hW d hdl k P hn hf => by
  show (gM ⟨n, m⟩ tb (kCe fun l => nthK l 0 (kM fun q => wiMQ ⟨n, m⟩ (pack d) q k))) = P
  rw [gM_am hT.s]
  show gM ⟨n, m⟩ mb (kMp fun l => keysK l fun cs => wiOQ cs (pack d) ⟨n, m⟩ k) = P
  rw [gM_am hT.m]
  show keysK (t.L.map fun a => (.s (pack (En.path a)), entV a)) (fun cs => wiOQ cs (pack d) ⟨n, m⟩ k) = P
  rw [keysK_pack]
  have hpl : ∀ x ∈ t.L.map En.path, x.head? = some 47 ∧ x.length ≤ 256 := fun x hx => by
    obtain ⟨e, he, rfl⟩ := List.mem_map.1 hx
    exact ⟨hW.hd e he, (hW.pl e he).1⟩
  have hnd := outG_nd (d := d) hW.nd fun x hx => (hpl x hx).1
  have hol : (outG d (t.L.map En.path)).length ≤ 128 := by
    unfold outG
    rw [List.length_map]
    exact Nat.le_trans (List.length_filter_le _ _) (by rw [List.length_map]; exact hW.len)
  have hop : ∀ x ∈ outG d (t.L.map En.path), x.length ≤ 1000000 := fun x hx => by
    unfold outG at hx
    obtain ⟨y, hy, rfl⟩ := List.mem_map.1 hx
    have := (hpl y (List.mem_filter.1 hy).1).2
    rw [List.length_drop]; omega
  have hu : ((t.L.map En.path).map pack).map unp = t.L.map En.path := unp_packs _
  have hwi : wiS d (t.L.map En.path) = true := by
    unfold wiS
    rw [Bool.and_eq_true]
    refine ⟨ble_t (by omega), List.all_eq_true.2 fun x hx => ?_⟩
    obtain ⟨h1, h2⟩ := hpl x hx
    have hne : x.isEmpty = false := by
      cases x with
      | nil => cases h1
      | cons c l => rfl
    rw [hne]
    show (true && (!decide (parB x = d) || Nat.ble (joinB d []).length x.length)) = true
    rw [Bool.true_and]
    by_cases hp : parB x = d
    · rw [decide_eq_true hp, show joinB d [] = joinG d [] from join_eq d [], ble_t (pre_of h1 ((par_eq x).symm.trans hp)).1]; rfl
    · rw [decide_eq_false hp]; rfl
  have hsp := sortB_pw hW.nd
  show gB (wiS (unp (pack d)) (((t.L.map En.path).map pack).map unp)) (shK ((t.L.map En.path).map pack) (gB (Nat.ble ((t.L.map En.path).map pack).length 1000000) (srtK ((t.L.map En.path).map pack) fun r => risK r (pkK (outS (unp (pack d)) (((t.L.map En.path).map pack).map unp)) fun os => srtQ os ⟨n, m⟩ k)))) = P
  rw [unp_pack, hu, hwi, shK_pack _ _ fun x hx => by have := (hpl x hx).2; omega, List.length_map, List.length_map, ble_t (by have := hW.len; omega), srtK_pack, risK_pack _ hsp, pkK_eq, outS_out, srtQ_bs hnd (by omega) hop (by omega)]
  show (if outG d (t.L.map En.path) = [] then k (.o .sl) ⟨n, m⟩ else _) = P
  split
  · rename_i h0; exact hf _ _ _ (by omega) (by omega) (Kp.refl _ _) (fun _ => rfl) (fun h => by rw [out_none.1 h0] at h; cases h)
  · rename_i h0
    exact hf _ _ _ (by omega) (by omega) kQ (fun h => absurd (out_none.2 h) h0) (fun _ => ⟨n, _, List.length_pos_iff.2 h0, by omega, rfl⟩)
end Go.Proofs.YtjoakhpdajlhiaaDoor.V2.S
namespace Go.Proofs.YtjoakhpdajlhiaaDoor.V2.S
open Go
set_option linter.unusedVariables false
noncomputable section
def p10 (O : Oz) : Phi → HF := fnQ (aLet fun v1 => (aEnd (cWr X2 (.o .sl) (cLet (oCallS 28 [(rdV v1)]) fun v2 => (cSeq (cCond (rdV v2) (cWr X2 (.o .sl) cRet) cSkip) (cLet (o1 ncF (rdV v1)) fun v3 => (cLet (o1 (O.fa 1) (rdV v3)) fun v4 => (cLet (m1 O.ld (rdV v4)) fun v5 => (cLet (o1 ncF (rdV v1)) fun v6 => (cLet (o1 (O.fa 0) (rdV v6)) fun v7 => (cLet (m1 O.ld (rdV v7)) fun v8 => (cLet (n0Z O.al (.cells [.o .sl] 33 .exact)) fun v9 => (cLet (oCallS 31 [(rdV v5)]) fun v10 => (cRz O.rc (m1 O.ld (rdV v7)) v8 (cLet (m1 O.ml (rdV v8)) fun v11 => (cLet (oCallS 32 [(rdV v11)]) fun v12 => (cLet (n2 (O.ap 5 false 1) (rdV v10) (rdV v12)) fun v13 => (cLet (n2 (O.st 1) (rdV v9) (rdV v13)) fun v14 => (cLet (nL (mfG (.func 9) 1) [(rdV v1)]) fun v15 => (cSeq (cBlk 0 (cSeq (cRf (rdV v15) [X22] (cLetW (n0Z O.al (.cells [.s (pack []), .b false, .s (pack [])] 32 .exact)) X4 fun v16 => (cDo (n2 (O.st 3) (rdV v16) R22) cSkip)) (cSeq (cBlk 1 (cWr X5 (.n .i64 2) (cLet (o1 (O.fa 1) R4) fun v17 => (cLet (m1 O.ld (rdV v17)) fun v18 => (cSeq (cCond (rdV v18) (cWr X5 (.n .i64 1) cSkip) cSkip) (cLet (m1 O.ld (rdV v9)) fun v19 => (cLet (oV R5) fun v20 => (cLet (o1 (O.cv .u8) (rdV v20)) fun v21 => (cLet (nL (O.bs 5 1 1) [(rdV v21)]) fun v22 => (cLet (o1 (O.fa 0) R4) fun v23 => (cLet (m1 O.ld (rdV v23)) fun v24 => (cLet (n2 (O.ap 5 false 1) (rdV v19) (rdV v22)) fun v25 => (cRz O.rc (m1 O.ld (rdV v23)) v24 (cLet (oCallS 31 [(rdV v24)]) fun v26 => (cLet (n2 (O.ap 5 false 1) (rdV v25) (rdV v26)) fun v27 => (cLet (n2 (O.st 1) (rdV v9) (rdV v27)) fun v28 => (cLet (o1 (O.fa 1) R4) fun v29 => (cLet (m1 O.ld (rdV v29)) fun v30 => (cLet (o1 notF (rdV v30)) fun v31 => (cSeq (cCond (rdV v31) (cLet (m1 O.ld (rdV v9)) fun v32 => (cLet (o1 (O.fa 2) R4) fun v33 => (cLet (m1 O.ld (rdV v33)) fun v34 => (cLet (oCallS 31 [(rdV v34)]) fun v35 => (cRz O.rc (m1 O.ld (rdV v9)) v32 (cLet (n2 (O.ap 5 false 1) (rdV v32) (rdV v35)) fun v36 => (cLet (n2 (O.st 1) (rdV v9) (rdV v36)) fun v37 => cSkip))))))) cSkip) cSkip)))))))))))))))))))) cSkip)) cSkip)) (cLet (m1 O.ld (rdV v9)) fun v38 => (cWr X2 v38 cRet)))))))))))))))))))) [vT R2]))
theorem k10 : QeOk ⟨10, eZ Tryd.f10, p10 zO⟩ := qz 43 1 [2, 4, 5, 22] Tryd.func10 (by kernel_rfl) (by kernel_rfl)
def p17 (O : Oz) : Phi → HF := fnQ (aLet fun v1 => (aLet fun v2 => (aEnd (cWr X4 (.b false) (cLet (o1 O.lv (rdV v1)) fun v3 => (cLet (o1 O.lv (rdV v2)) fun v4 => (cLet (o2 O.ne (rdV v3) (rdV v4)) fun v5 => (cSeq (cCond (rdV v5) (cWr X4 (.b false) cRet) cSkip) (cLet (o1 O.lv (rdV v1)) fun v6 => (cWr X13 (.n .i64 0) (cSeq (cBlk 0 (O.lp 1000000 (cLet (o2 O.lt R13 (rdV v6)) fun v7 => (cSeq (cCond (rdV v7) cSkip (cExit 0)) (cSeq (cBlk 1 (cLet (oV R13) fun v8 => (cLet (o2 (O.ix 1) (rdV v1) (rdV v8)) fun v9 => (cLet (m1 O.ld (rdV v9)) fun v10 => (cLet (o2 (O.ix 1) (rdV v2) (rdV v8)) fun v11 => (cLet (m1 O.ld (rdV v11)) fun v12 => (cLet (o2 O.ne (rdV v10) (rdV v12)) fun v13 => (cSeq (cCond (rdV v13) (cWr X4 (.b false) cRet) cSkip) cSkip)))))))) (cLet (o2 O.ad R13 (rdV (.n .i64 1))) fun v14 => (cWr X13 v14 cSkip))))))) (cWr X4 (.b true) cRet))))))))) [vT R4])))
theorem k17 : QeOk ⟨17, eZ Tryd.f17, p17 zO⟩ := qz 26 2 [4, 13] Tryd.func17 (by kernel_rfl) (by kernel_rfl)
def p31 (O : Oz) : Phi → HF := fnQ (aLet fun v1 => (aEnd (cWr X2 (.o .sl) (cLet (o1 O.ls (rdV v1)) fun v2 => (cLet (oCallS 32 [(rdV v2)]) fun v3 => (cLet (n2 (O.ap 5 true 1) (rdV v3) (rdV v1)) fun v4 => (cWr X2 v4 cRet))))) [vT R2]))
theorem k31 : QeOk ⟨31, eZ Tryd.f31, p31 zO⟩ := qz 8 1 [2] Tryd.func31 (by kernel_rfl) (by kernel_rfl)
def p32 (O : Oz) : Phi → HF := fnQ (aLet fun v1 => (aEnd (cWr X2 (.o .sl) (cLet (o2 O.hr (rdV v1) (rdV (.n .u64 8))) fun v2 => (cLet (o1 (O.cv .u8) (rdV v2)) fun v3 => (cLet (o1 (O.cv .u8) (rdV v1)) fun v4 => (cLet (nL (O.bs 5 1 2) [(rdV v3), (rdV v4)]) fun v5 => (cWr X2 v5 cRet)))))) [vT R2]))
theorem k32 : QeOk ⟨32, eZ Tryd.f32, p32 zO⟩ := qz 9 1 [2] Tryd.func32 (by kernel_rfl) (by kernel_rfl)
end
end Go.Proofs.YtjoakhpdajlhiaaDoor.V2.S
namespace Go.Proofs.YtjoakhpdajlhiaaDoor.V2.S
open Go
set_option linter.unusedVariables false
noncomputable section
def p5 (O : Oz) : Phi → HF := fnQ (aLet fun v1 => (aLet fun v2 => (aEnd (cWr X4 (.b false) (cLet (oCallS 7 [(rdV v1)]) fun v3 => (cLet (oCallS 10 [(rdV v3)]) fun v4 => (cLet (oCallS 21 [(rdV v4)]) fun v5 => (cLet (o1 (exG 0) (rdV v5)) fun v6 => (cLet (o1 (exG 1) (rdV v5)) fun v7 => (cLet (oCallS 24 [(rdV v3)]) fun v8 => (cLet (o1 notF (rdV v8)) fun v9 => (cLet (oG false (rdV v9) (oV (rdV v7))) fun v10 => (cLet (oG false (rdV v9) (o2 O.ne (rdV v10) (rdV (.n .i64 0)))) fun v11 => (cLet (o3 pkF (rdV v9) (rdV (.b true)) (rdV v11)) fun v12 => (cLet (oG false (rdV v12) (oV (rdV v6))) fun v13 => (cLet (oG false (rdV v12) (oCallS 10 [(rdV v13)])) fun v14 => (cLet (oG false (rdV v12) (oV (rdV v4))) fun v15 => (cLet (oG false (rdV v12) (oCallS 17 [(rdV v14), (rdV v15)])) fun v16 => (cLet (oG false (rdV v12) (o1 notF (rdV v16))) fun v17 => (cLet (o3 pkF (rdV v12) (rdV (.b true)) (rdV v17)) fun v18 => (cSeq (cCond (rdV v18) (cWr X4 (.b false) cRet) cSkip) (cLet (oCallS 25 [(rdV v3)]) fun v19 => (cLet (oCallS 16 [(rdV v19), (rdV (.s (pack [47])))]) fun v20 => (cLet (oCallS 14 [(rdV v19), (rdV (.s (pack [99, 111, 112, 121, 32, 111, 102, 32, 97, 108, 108])))]) fun v21 => (cLet (oCallS 10 [(rdV v3)]) fun v22 => (cLet (oCallS 17 [(rdV v22), (rdV v4)]) fun v23 => (cLet (o1 notF (rdV v23)) fun v24 => (cLet (oG false (rdV v24) (oV (rdV v6))) fun v25 => (cLet (oG false (rdV v24) (oCallS 25 [(rdV v25)])) fun v26 => (cLet (oG false (rdV v24) (oCallS 10 [(rdV v26)])) fun v27 => (cLet (oG false (rdV v24) (oV (rdV v4))) fun v28 => (cLet (oG false (rdV v24) (oCallS 17 [(rdV v27), (rdV v28)])) fun v29 => (cLet (oG false (rdV v24) (o1 notF (rdV v29))) fun v30 => (cLet (o3 pkF (rdV v24) (rdV (.b true)) (rdV v30)) fun v31 => (cSeq (cCond (rdV v31) (cWr X4 (.b false) cRet) cSkip) (cLet (o1 O.lv (rdV v2)) fun v32 => (cLet (nL (O.pq .minI) [(rdV v32), (rdV (.n .i64 2000))]) fun v33 => (cLet (oVz O.sv 1 (rdV v2) none (some (rdV v33)) none) fun v34 => (cLet (oCallS 21 [(rdV v34)]) fun v35 => (cLet (o1 (exG 0) (rdV v35)) fun v36 => (cLet (o1 (exG 1) (rdV v35)) fun v37 => (cLet (o2 O.ne (rdV v37) (rdV (.n .i64 0))) fun v38 => (cSeq (cCond (rdV v38) (cLet (o2 (eqQ1 false .ptr) (rdV v36) (rdV (.o .ptr))) fun v39 => (cLet (oG true (rdV v39) (oV (rdV v37))) fun v40 => (cLet (oG true (rdV v39) (o2 O.eq (rdV v40) (rdV (.n .i64 4)))) fun v41 => (cLet (oG true (rdV v39) (oV (rdV v41))) fun v42 => (cLet (oG false (rdV v42) (oV (rdV v37))) fun v43 => (cLet (oG false (rdV v42) (o2 O.eq (rdV v43) (rdV (.n .i64 5)))) fun v44 => (cLet (oG true (rdV v39) (o3 pkF (rdV v42) (rdV (.b true)) (rdV v44))) fun v45 => (cLet (o3 pkF (rdV v39) (rdV v45) (rdV (.b false))) fun v46 => (cLet (oG true (rdV v46) (oCallS 18 [])) fun v47 => (cLet (o3 pkF (rdV v46) (rdV v47) (rdV (.b false))) fun v48 => (cWr X4 v48 cRet))))))))))) cSkip) (cLet (oCallS 24 [(rdV v36)]) fun v49 => (cLet (oG true (rdV v49) (oV (rdV v36))) fun v50 => (cLet (oG true (rdV v49) (oCallS 10 [(rdV v50)])) fun v51 => (cLet (oG true (rdV v49) (oV (rdV v34))) fun v52 => (cLet (oG true (rdV v49) (oCallS 17 [(rdV v51), (rdV v52)])) fun v53 => (cLet (o3 pkF (rdV v49) (rdV v53) (rdV (.b false))) fun v54 => (cLet (oG true (rdV v54) (oCallS 18 [])) fun v55 => (cLet (o3 pkF (rdV v54) (rdV v55) (rdV (.b false))) fun v56 => (cWr X4 v56 cRet))))))))))))))))))))))))))))))))))))))))))))))))) [vT R4])))
theorem k5 : QeOk ⟨5, eZ Tryd.f5, p5 zO⟩ := qz 90 2 [4] Tryd.func5 (by kernel_rfl) (by kernel_rfl)
def p21 (O : Oz) : Phi → HF := fnQ (aLet fun v1 => (aEnd (cWr X2 (.o .ptr) (cWr X3 (.n .i64 0) (cLet (nL (O.bu [.o .sl, .b false] [.nilsl, (.bool false)] [(0, 1)]) [(rdV v1)]) fun v2 => (cLet (n1 (O.bx 79) (rdV v2)) fun v3 => (cLet (oCallS 26 []) fun v4 => (cLet (oCallS 42 [(rdV v3)]) fun v5 => (cWr X7 (.n .i64 0) (cLet (oCallS 43 [(rdV v3)]) fun v6 => (cWr X21 (.n .i64 0) (cSeq (cBlk 0 (O.lp 1000000 (cLet (o2 O.lt R21 (rdV v6)) fun v7 => (cSeq (cCond (rdV v7) cSkip (cExit 0)) (cSeq (cBlk 1 (cLet (oCallS 44 [(rdV v3), (rdV (.n .i64 1))]) fun v8 => (cLet (o2 (O.ix 1) (rdV v8) (rdV (.n .i64 0))) fun v9 => (cLet (m1 O.ld (rdV v9)) fun v10 => (cLet (o1 (O.cv .i64) (rdV v10)) fun v11 => (cLet (oCallS 42 [(rdV v3)]) fun v12 => (cWr X10 (.s (pack [])) (cLet (o2 O.eq (rdV v11) (rdV (.n .i64 2))) fun v13 => (cSeq (cCond (rdV v13) (cLet (oCallS 42 [(rdV v3)]) fun v14 => (cWr X10 v14 cSkip)) cSkip) (cLet (o1 ncF (rdV v3)) fun v15 => (cLet (o1 (O.fa 1) (rdV v15)) fun v16 => (cLet (m1 O.ld (rdV v16)) fun v17 => (cSeq (cCond (rdV v17) (cExit 0) cSkip) (cLet (oCallS 12 [(rdV v4), (rdV v12)]) fun v18 => (cLet (o1 (exG 0) (rdV v18)) fun v19 => (cLet (o1 (exG 1) (rdV v18)) fun v20 => (cLet (o2 O.ne (rdV v20) (rdV (.n .i64 0))) fun v21 => (cLet (oG false (rdV v21) (oV (rdV v19))) fun v22 => (cLet (oG false (rdV v21) (oV (rdV v12))) fun v23 => (cLet (oG false (rdV v21) (o2 O.ne (rdV v22) (rdV v23))) fun v24 => (cLet (o3 pkF (rdV v21) (rdV (.b true)) (rdV v24)) fun v25 => (cLet (oG false (rdV v25) (oV (rdV v4))) fun v26 => (cLet (oG false (rdV v25) (oV (rdV v19))) fun v27 => (cLet (oG false (rdV v25) (oCallS 35 [(rdV v26), (rdV v27)])) fun v28 => (cLet (oG false (rdV v25) (o2 O.ne (rdV v28) (rdV (.n .i64 0)))) fun v29 => (cLet (o3 pkF (rdV v25) (rdV (.b true)) (rdV v29)) fun v30 => (cLet (oG false (rdV v30) (oV (rdV v11))) fun v31 => (cLet (oG false (rdV v30) (o2 O.ne (rdV v31) (rdV (.n .i64 1)))) fun v32 => (cLet (oG false (rdV v30) (oV (rdV v32))) fun v33 => (cLet (oG true (rdV v33) (oV (rdV v11))) fun v34 => (cLet (oG true (rdV v33) (o2 O.ne (rdV v34) (rdV (.n .i64 2)))) fun v35 => (cLet (oG false (rdV v30) (o3 pkF (rdV v33) (rdV v35) (rdV (.b false)))) fun v36 => (cLet (o3 pkF (rdV v30) (rdV (.b true)) (rdV v36)) fun v37 => (cLet (oG false (rdV v37) (oV (rdV v4))) fun v38 => (cLet (oG false (rdV v37) (oV (rdV v19))) fun v39 => (cLet (oG false (rdV v37) (oV (rdV v11))) fun v40 => (cLet (oG false (rdV v37) (o2 O.eq (rdV v40) (rdV (.n .i64 1)))) fun v41 => (cLet (oG false (rdV v37) (oV R10)) fun v42 => (cLet (oG false (rdV v37) (nL (O.bu [.s (pack []), .b false, .s (pack [])] [(.str []), (.bool false), (.str [])] [(0, 1), (1, 1), (2, 1)]) [(rdV v39), (rdV v41), (rdV v42)])) fun v43 => (cLet (oG false (rdV v37) (oCallS 39 [(rdV v38), (rdV v43)])) fun v44 => (cLet (oG false (rdV v37) (o2 O.ne (rdV v44) (rdV (.n .i64 0)))) fun v45 => (cLet (o3 pkF (rdV v37) (rdV (.b true)) (rdV v45)) fun v46 => (cSeq (cCond (rdV v46) (cWr X7 (.n .i64 5) cSkip) cSkip) cSkip))))))))))))))))))))))))))))))))))))))))))) (cLet (o2 O.ad R21 (rdV (.n .i64 1))) fun v47 => (cWr X21 v47 cSkip))))))) (cSeq (cBlk 2 (cLet (o1 ncF (rdV v3)) fun v48 => (cLet (o1 (O.fa 1) (rdV v48)) fun v49 => (cLet (m1 O.ld (rdV v49)) fun v50 => (cSeq (cCond (rdV v50) (cWr X2 (.o .ptr) (cWr X3 (.n .i64 4) cRet)) (cLet (oV R7) fun v51 => (cLet (o2 O.ne (rdV v51) (rdV (.n .i64 0))) fun v52 => (cLet (oG false (rdV v52) (oV (rdV v4))) fun v53 => (cLet (oG false (rdV v52) (oV (rdV v5))) fun v54 => (cLet (oG false (rdV v52) (oCallS 16 [(rdV v53), (rdV v54)])) fun v55 => (cLet (oG false (rdV v52) (o2 O.ne (rdV v55) (rdV (.n .i64 0)))) fun v56 => (cLet (o3 pkF (rdV v52) (rdV (.b true)) (rdV v56)) fun v57 => (cLet (oG false (rdV v57) (oV (rdV v4))) fun v58 => (cLet (oG false (rdV v57) (oCallS 10 [(rdV v58)])) fun v59 => (cLet (oG false (rdV v57) (oV (rdV v1))) fun v60 => (cLet (oG false (rdV v57) (oCallS 17 [(rdV v59), (rdV v60)])) fun v61 => (cLet (oG false (rdV v57) (o1 notF (rdV v61))) fun v62 => (cLet (o3 pkF (rdV v57) (rdV (.b true)) (rdV v62)) fun v63 => (cSeq (cCond (rdV v63) (cWr X2 (.o .ptr) (cWr X3 (.n .i64 5) cRet)) cSkip) cSkip))))))))))))))) cSkip))))) (cWr X2 v4 (cWr X3 (.n .i64 0) cRet))))))))))))) [vT R2, vT R3]))
theorem k21 : QeOk ⟨21, eZ Tryd.f21, p21 zO⟩ := qz 98 1 [2, 3, 7, 10, 21] Tryd.func21 (by kernel_rfl) (by kernel_rfl)
def p24 (O : Oz) : Phi → HF := fnQ (aLet fun v1 => (aEnd (cLet (n1 (O.bx 26) (rdV v1)) fun v2 => (cLetW (n0Z O.al (.cells [.b false] 4 .exact)) X2 fun v3 => (cLet (n0Z O.al (.ints .i64 [Int.ofNat 0] 3 .exact)) fun v4 => (cLet (n0Z O.al (.ints .i64 [Int.ofNat 0] 3 .exact)) fun v5 => (cLet (n0Z O.al (.cells [.s (pack [])] 9 .exact)) fun v6 => (cDo (n2 (O.st 1) (rdV v4) (rdV (.n .i64 0))) (cDo (n2 (O.st 1) (rdV v5) (rdV (.n .i64 0))) (cDo (n2 (O.st 1) (rdV v6) (rdV (.s (pack [])))) (cLet (m1 O.ld (rdV v2)) fun v7 => (cLet (nL (mfG (.func 9) 1) [(rdV v7)]) fun v8 => (cSeq (cBlk 0 (cSeq (cRf (rdV v8) [X18] (cLetW (n0Z O.al (.cells [.s (pack []), .b false, .s (pack [])] 32 .exact)) X6 fun v9 => (cDo (n2 (O.st 3) (rdV v9) R18) cSkip)) (cSeq (cBlk 1 (cLet (o1 (O.fa 0) R6) fun v10 => (cLet (m1 O.ld (rdV v10)) fun v11 => (cLet (oCallS 54 [(rdV v11), (rdV (.n .u8 47))]) fun v12 => (cLet (o2 O.lt (rdV v12) (rdV (.n .i64 0))) fun v13 => (cLet (oG false (rdV v13) (o1 (O.fa 0) R6)) fun v14 => (cLet (oG false (rdV v13) (m1 O.ld (rdV v14))) fun v15 => (cLet (oG false (rdV v13) (m1 O.ld (rdV v6))) fun v16 => (cLet (oG false (rdV v13) (o2 O.le (rdV v15) (rdV v16))) fun v17 => (cLet (o3 pkF (rdV v13) (rdV (.b true)) (rdV v17)) fun v18 => (cLet (oG false (rdV v18) (o1 (O.fa 0) R6)) fun v19 => (cLet (oG false (rdV v18) (m1 O.ld (rdV v19))) fun v20 => (cLet (oG false (rdV v18) (o1 O.ls (rdV v20))) fun v21 => (cLet (oG false (rdV v18) (o2 O.gt (rdV v21) (rdV (.n .i64 256)))) fun v22 => (cLet (o3 pkF (rdV v18) (rdV (.b true)) (rdV v22)) fun v23 => (cLet (oG false (rdV v23) (o1 (O.fa 2) R6)) fun v24 => (cLet (oG false (rdV v23) (m1 O.ld (rdV v24))) fun v25 => (cLet (oG false (rdV v23) (o1 O.ls (rdV v25))) fun v26 => (cLet (oG false (rdV v23) (o2 O.gt (rdV v26) (rdV (.n .i64 8192)))) fun v27 => (cLet (o3 pkF (rdV v23) (rdV (.b true)) (rdV v27)) fun v28 => (cLet (oG false (rdV v28) (o1 (O.fa 1) R6)) fun v29 => (cLet (oG false (rdV v28) (m1 O.ld (rdV v29))) fun v30 => (cLet (oG false (rdV v28) (oV (rdV v30))) fun v31 => (cLet (oG true (rdV v31) (o1 (O.fa 2) R6)) fun v32 => (cLet (oG true (rdV v31) (m1 O.ld (rdV v32))) fun v33 => (cLet (oG true (rdV v31) (o2 O.ne (rdV v33) (rdV (.s (pack []))))) fun v34 => (cLet (oG false (rdV v28) (o3 pkF (rdV v31) (rdV v34) (rdV (.b false)))) fun v35 => (cLet (o3 pkF (rdV v28) (rdV (.b true)) (rdV v35)) fun v36 => (cSeq (cCond (rdV v36) (cDo (n2 (O.st 1) (rdV v3) (rdV (.b false))) cRet) cSkip) (cLet (m1 O.ld (rdV v2)) fun v37 => (cLet (o1 (O.fa 0) R6) fun v38 => (cLet (m1 O.ld (rdV v38)) fun v39 => (cLet (nL (O.pq .maxI) [(rdV v12), (rdV (.n .i64 1))]) fun v40 => (cLet (oSz O.ss (rdV v39) none (some (rdV v40))) fun v41 => (cLet (oCallS 19 [(rdV v37), (rdV v41)]) fun v42 => (cLet (o1 (exG 0) (rdV v42)) fun v43 => (cLet (o1 (exG 1) (rdV v42)) fun v44 => (cLet (m1 O.ld (rdV v2)) fun v45 => (cLet (o1 (O.fa 0) R6) fun v46 => (cLet (m1 O.ld (rdV v46)) fun v47 => (cLet (nL (O.pq .maxI) [(rdV v12), (rdV (.n .i64 1))]) fun v48 => (cLet (oSz O.ss (rdV v47) none (some (rdV v48))) fun v49 => (cLet (oCallS 55 [(rdV v45), (rdV v49)]) fun v50 => (cLet (o1 (exG 0) (rdV v50)) fun v51 => (cLet (o1 (exG 1) (rdV v50)) fun v52 => (cLet (o2 O.ne (rdV v44) (rdV (.n .i64 0))) fun v53 => (cLet (oG false (rdV v53) (oV (rdV v43))) fun v54 => (cLet (oG false (rdV v53) (o2 O.ne (rdV v54) (rdV (.n .i64 1)))) fun v55 => (cLet (o3 pkF (rdV v53) (rdV (.b true)) (rdV v55)) fun v56 => (cLet (oG false (rdV v56) (oV (rdV v52))) fun v57 => (cLet (oG false (rdV v56) (o2 O.ne (rdV v57) (rdV (.n .i64 0)))) fun v58 => (cLet (o3 pkF (rdV v56) (rdV (.b true)) (rdV v58)) fun v59 => (cLet (oG false (rdV v59) (oV (rdV v51))) fun v60 => (cLet (oG false (rdV v59) (o1 (O.fa 0) R6)) fun v61 => (cLet (oG false (rdV v59) (m1 O.ld (rdV v61))) fun v62 => (cLet (oG false (rdV v59) (oV (rdV v12))) fun v63 => (cLet (oG false (rdV v59) (o2 O.ad (rdV v63) (rdV (.n .i64 1)))) fun v64 => (cLet (oG false (rdV v59) (oSz O.ss (rdV v62) (some (rdV v64)) none)) fun v65 => (cLet (oG false (rdV v59) (oCallS 56 [(rdV v60), (rdV v65)])) fun v66 => (cLet (oG false (rdV v59) (o1 notF (rdV v66))) fun v67 => (cLet (o3 pkF (rdV v59) (rdV (.b true)) (rdV v67)) fun v68 => (cSeq (cCond (rdV v68) (cDo (n2 (O.st 1) (rdV v3) (rdV (.b false))) cRet) cSkip) (cLet (m1 O.ld (rdV v4)) fun v69 => (cLet (o2 O.ad (rdV v69) (rdV (.n .i64 1))) fun v70 => (cLet (m1 O.ld (rdV v5)) fun v71 => (cLet (o1 (O.fa 0) R6) fun v72 => (cLet (m1 O.ld (rdV v72)) fun v73 => (cLet (o1 O.ls (rdV v73)) fun v74 => (cLet (o2 O.ad (rdV v71) (rdV v74)) fun v75 => (cLet (o1 (O.fa 2) R6) fun v76 => (cLet (m1 O.ld (rdV v76)) fun v77 => (cLet (o1 O.ls (rdV v77)) fun v78 => (cLet (o2 O.ad (rdV v75) (rdV v78)) fun v79 => (cLet (o1 (O.fa 0) R6) fun v80 => (cLet (m1 O.ld (rdV v80)) fun v81 => (cLet (n2 (O.st 1) (rdV v4) (rdV v70)) fun v82 => (cRz O.rc (m1 O.ld (rdV v5)) v71 (cRz O.rc (m1 O.ld (rdV v72)) v73 (cRz O.rc (m1 O.ld (rdV v76)) v77 (cRz O.rc (m1 O.ld (rdV v80)) v81 (cLet (n2 (O.st 1) (rdV v5) (rdV v79)) fun v83 => (cRz O.rc (m1 O.ld (rdV v80)) v81 (cLet (n2 (O.st 1) (rdV v6) (rdV v81)) fun v84 => cSkip))))))))))))))))))))))))))))))))))))))))))))))))))))))))))))))))))))))))))))))))))) cSkip)) cSkip)) (cLet (m1 O.ld (rdV v2)) fun v85 => (cLet (oCallS 52 [(rdV v85)]) fun v86 => (cLet (o1 (exG 0) (rdV v86)) fun v87 => (cLet (o1 (exG 1) (rdV v86)) fun v88 => (cLet (m1 O.ld (rdV v2)) fun v89 => (cLet (m1 O.ld (rdV v2)) fun v90 => (cLet (oCallS 11 [(rdV v90)]) fun v91 => (cRz O.rc (m1 O.ld (rdV v2)) v89 (cLet (oCallS 19 [(rdV v89), (rdV v91)]) fun v92 => (cLet (o1 (exG 0) (rdV v92)) fun v93 => (cLet (o1 (exG 1) (rdV v92)) fun v94 => (cLet (m1 O.ld (rdV v4)) fun v95 => (cLet (o2 O.eq (rdV v95) (rdV v87)) fun v96 => (cLet (oG true (rdV v96) (m1 O.ld (rdV v5))) fun v97 => (cLet (oG true (rdV v96) (oV (rdV v88))) fun v98 => (cLet (oG true (rdV v96) (o2 O.eq (rdV v97) (rdV v98))) fun v99 => (cLet (o3 pkF (rdV v96) (rdV v99) (rdV (.b false))) fun v100 => (cLet (oG true (rdV v100) (m1 O.ld (rdV v4))) fun v101 => (cLet (oG true (rdV v100) (o2 O.le (rdV v101) (rdV (.n .i64 128)))) fun v102 => (cLet (o3 pkF (rdV v100) (rdV v102) (rdV (.b false))) fun v103 => (cLet (oG true (rdV v103) (m1 O.ld (rdV v5))) fun v104 => (cLet (oG true (rdV v103) (o2 O.le (rdV v104) (rdV (.n .i64 32768)))) fun v105 => (cLet (o3 pkF (rdV v103) (rdV v105) (rdV (.b false))) fun v106 => (cLet (oG true (rdV v106) (oV (rdV v94))) fun v107 => (cLet (oG true (rdV v106) (o2 O.eq (rdV v107) (rdV (.n .i64 0)))) fun v108 => (cLet (o3 pkF (rdV v106) (rdV v108) (rdV (.b false))) fun v109 => (cLet (oG true (rdV v109) (oV (rdV v93))) fun v110 => (cLet (oG true (rdV v109) (o2 O.eq (rdV v110) (rdV (.n .i64 1)))) fun v111 => (cLet (o3 pkF (rdV v109) (rdV v111) (rdV (.b false))) fun v112 => (cDo (n2 (O.st 1) (rdV v3) (rdV v112)) cRet))))))))))))))))))))))))))))))))))))))))) [vC R2]))
theorem k24 : QeOk ⟨24, eZ Tryd.f24, p24 zO⟩ := qz 140 1 [2, 6, 18] Tryd.func24 (by kernel_rfl) (by kernel_rfl)
def p25 (O : Oz) : Phi → HF := fnQ (aLet fun v1 => (aEnd (cWr X2 (.o .ptr) (cLet (oCallS 28 [(rdV v1)]) fun v2 => (cSeq (cCond (rdV v2) (cWr X2 (.o .ptr) cRet) cSkip) (cLet (o1 ncF (rdV v1)) fun v3 => (cLet (o1 (O.fa 0) (rdV v3)) fun v4 => (cLet (m1 O.ld (rdV v4)) fun v5 => (cLet (o1 ncF (rdV v1)) fun v6 => (cLet (o1 (O.fa 1) (rdV v6)) fun v7 => (cLet (m1 O.ld (rdV v7)) fun v8 => (cLet (oCallS 57 [(rdV v5)]) fun v9 => (cRz O.rc (m1 O.ld (rdV v7)) v8 (cLet (nL (O.bu [.o .map, .s (pack [])] [.nilmap, (.str [])] [(0, 1), (1, 1)]) [(rdV v9), (rdV v8)]) fun v10 => (cLet (n1 (O.bx 65) (rdV v10)) fun v11 => (cWr X2 v11 cRet)))))))))))))) [vT R2]))
theorem k25 : QeOk ⟨25, eZ Tryd.f25, p25 zO⟩ := qz 16 1 [2] Tryd.func25 (by kernel_rfl) (by kernel_rfl)
def p42 (O : Oz) : Phi → HF := fnQ (aLet fun v1 => (aEnd (cWr X2 (.s (pack [])) (cLet (oCallS 43 [(rdV v1)]) fun v2 => (cLet (oCallS 44 [(rdV v1), (rdV v2)]) fun v3 => (cLet (m1 O.bS (rdV v3)) fun v4 => (cWr X2 v4 cRet))))) [vT R2]))
theorem k42 : QeOk ⟨42, eZ Tryd.f42, p42 zO⟩ := qz 8 1 [2] Tryd.func42 (by kernel_rfl) (by kernel_rfl)
def p43 (O : Oz) : Phi → HF := fnQ (aLet fun v1 => (aEnd (cWr X2 (.n .i64 0) (cLet (oCallS 44 [(rdV v1), (rdV (.n .i64 2))]) fun v2 => (cLet (o2 (O.ix 1) (rdV v2) (rdV (.n .i64 0))) fun v3 => (cLet (m1 O.ld (rdV v3)) fun v4 => (cLet (o1 (O.cv .i64) (rdV v4)) fun v5 => (cLet (o2 O.hl (rdV v5) (rdV (.n .u64 8))) fun v6 => (cLet (o2 (O.ix 1) (rdV v2) (rdV (.n .i64 1))) fun v7 => (cLet (m1 O.ld (rdV v7)) fun v8 => (cLet (o1 (O.cv .i64) (rdV v8)) fun v9 => (cLet (o2 O.ro (rdV v6) (rdV v9)) fun v10 => (cWr X2 v10 cRet))))))))))) [vT R2]))
theorem k43 : QeOk ⟨43, eZ Tryd.f43, p43 zO⟩ := qz 16 1 [2] Tryd.func43 (by kernel_rfl) (by kernel_rfl)
def p44 (O : Oz) : Phi → HF := fnQ (aLet fun v1 => (aLet fun v2 => (aEnd (cWr X4 (.o .sl) (cLet (o1 ncF (rdV v1)) fun v3 => (cLet (o1 (O.fa 1) (rdV v3)) fun v4 => (cLet (m1 O.ld (rdV v4)) fun v5 => (cLet (oG false (rdV v5) (oV (rdV v2))) fun v6 => (cLet (oG false (rdV v5) (oV (rdV v1))) fun v7 => (cLet (oG false (rdV v5) (o1 ncF (rdV v7))) fun v8 => (cLet (oG false (rdV v5) (o1 (O.fa 0) (rdV v8))) fun v9 => (cLet (oG false (rdV v5) (m1 O.ld (rdV v9))) fun v10 => (cLet (oG false (rdV v5) (o1 O.lv (rdV v10))) fun v11 => (cLet (oG false (rdV v5) (o2 O.gt (rdV v6) (rdV v11))) fun v12 => (cLet (o3 pkF (rdV v5) (rdV (.b true)) (rdV v12)) fun v13 => (cLet (o1 ncF (rdV v1)) fun v14 => (cLet (o1 (O.fa 1) (rdV v14)) fun v15 => (cDo (n2 (O.st 1) (rdV v15) (rdV v13)) (cLet (o1 ncF (rdV v1)) fun v16 => (cLet (o1 (O.fa 1) (rdV v16)) fun v17 => (cLet (m1 O.ld (rdV v17)) fun v18 => (cSeq (cCond (rdV v18) (cLet (nL (O.pq .minI) [(rdV v2), (rdV (.n .i64 2))]) fun v19 => (cLet (nL (O.nq (.makeSl 5 1 [(.int .u8 0)])) [(rdV v19), (rdV v19)]) fun v20 => (cWr X4 v20 cRet))) cSkip) (cLet (o1 ncF (rdV v1)) fun v21 => (cLet (o1 (O.fa 0) (rdV v21)) fun v22 => (cLet (m1 O.ld (rdV v22)) fun v23 => (cLet (oVz O.sv 1 (rdV v23) none (some (rdV v2)) none) fun v24 => (cLet (o1 ncF (rdV v1)) fun v25 => (cLet (o1 (O.fa 0) (rdV v25)) fun v26 => (cLet (m1 O.ld (rdV v26)) fun v27 => (cLet (oVz O.sv 1 (rdV v27) (some (rdV v2)) none none) fun v28 => (cLet (o1 ncF (rdV v1)) fun v29 => (cLet (o1 (O.fa 0) (rdV v29)) fun v30 => (cDo (n2 (O.st 1) (rdV v30) (rdV v28)) (cWr X4 v24 cRet))))))))))))))))))))))))))))))) [vT R4])))
theorem k44 : QeOk ⟨44, eZ Tryd.f44, p44 zO⟩ := qz 45 2 [4] Tryd.func44 (by kernel_rfl) (by kernel_rfl)
def p54 (O : Oz) : Phi → HF := fnQ (aLet fun v1 => (aLet fun v2 => (aEnd (cWr X4 (.n .i64 0) (cLet (oCallS 77 [(rdV v1), (rdV v2)]) fun v3 => (cWr X4 v3 cRet))) [vT R4])))
theorem k54 : QeOk ⟨54, eZ Tryd.f54, p54 zO⟩ := qz 8 2 [4] Tryd.func54 (by kernel_rfl) (by kernel_rfl)
def p55 (O : Oz) : Phi → HF := fnQ (aLet fun v1 => (aLet fun v2 => (aEnd (cWr X4 (.o .sl) (cWr X5 (.n .i64 0) (cLet (oCallS 41 [(rdV v1), (rdV v2), (rdV (.n .i64 1))]) fun v3 => (cLet (o1 (exG 0) (rdV v3)) fun v4 => (cLet (o1 (exG 1) (rdV v3)) fun v5 => (cLet (o2 O.ne (rdV v5) (rdV (.n .i64 0))) fun v6 => (cSeq (cCond (rdV v6) (cWr X4 (.o .sl) (cWr X5 v5 cRet)) cSkip) (cLet (oCallS 40 [(rdV v1), (rdV v4)]) fun v7 => (cWr X4 v7 (cWr X5 (.n .i64 0) cRet)))))))))) [vT R4, vT R5])))
theorem k55 : QeOk ⟨55, eZ Tryd.f55, p55 zO⟩ := qz 20 2 [4, 5] Tryd.func55 (by kernel_rfl) (by kernel_rfl)
def p56 (O : Oz) : Phi → HF := fnQ (aLet fun v1 => (aLet fun v2 => (aEnd (cWr X4 (.b false) (cLet (oCallS 78 [(rdV v1), (rdV v2)]) fun v3 => (cLet (o2 O.ge (rdV v3) (rdV (.n .i64 0))) fun v4 => (cWr X4 v4 cRet)))) [vT R4])))
theorem k56 : QeOk ⟨56, eZ Tryd.f56, p56 zO⟩ := qz 9 2 [4] Tryd.func56 (by kernel_rfl) (by kernel_rfl)
def p78 (O : Oz) : Phi → HF := fnQ (aLet fun v1 => (aLet fun v2 => (aEnd (cWr X4 (.n .i64 0) (cLet (o1 O.lv (rdV v1)) fun v3 => (cWr X8 (.n .i64 0) (cSeq (cBlk 0 (O.lp 1000000 (cLet (o2 O.lt R8 (rdV v3)) fun v4 => (cSeq (cCond (rdV v4) cSkip (cExit 0)) (cSeq (cBlk 1 (cLet (oV R8) fun v5 => (cLet (o2 (O.ix 1) (rdV v1) (rdV v5)) fun v6 => (cLet (m1 O.ld (rdV v6)) fun v7 => (cLet (o2 O.eq (rdV v2) (rdV v7)) fun v8 => (cSeq (cCond (rdV v8) (cWr X4 v5 cRet) cSkip) cSkip)))))) (cLet (o2 O.ad R8 (rdV (.n .i64 1))) fun v9 => (cWr X8 v9 cSkip))))))) (cWr X4 (.z .i64 0) cRet))))) [vT R4])))
theorem k78 : QeOk ⟨78, eZ Tryd.f78, p78 zO⟩ := qz 19 2 [4, 8] Tryd.func78 (by kernel_rfl) (by kernel_rfl)
end
end Go.Proofs.YtjoakhpdajlhiaaDoor.V2.S
namespace Go.Proofs.YtjoakhpdajlhiaaDoor.V2.S
open Go
set_option maxRecDepth 100000
set_option linter.unusedVariables false
theorem bare_fn (Φ : Phi) (f : Nat) : Phi.fn (Phi.bare Φ) f = Phi.fn Φ f := by cases Φ <;> rfl
section
variable {O : Oz} (hO : O = zO) {P : FR} {c : FV → FR} {k : KV} {n : Nat} {m : T FObj}
include hO
theorem hr8 {a : Nat} (hc : c (.n .i64 (a / 256)) = P) : O.hr (.n .i64 a) (.n .u64 8) c = P := by
  subst hO
  show (Bool.rec (gI .shr .i64 (Int.ofNat a) (Int.ofNat 8) c) (fN (Nat.shiftRight a 8) fun r => c (.n .i64 r)) (Nat.ble 8 (bitsF .i64)) : FR) = P
  rw [show Nat.ble 8 (bitsF .i64) = true from rfl, fN_eq, show Nat.shiftRight a 8 = a / 256 from Nat.shiftRight_eq_div_pow a 8]
  exact hc
theorem cvW {k : IntKind} {a : Nat} (hc : c (.n .u8 (a % 256)) = P) : O.cv .u8 (.n k a) c = P := by
  subst hO
  show (fN a fun m => Bool.rec (sW .u8 (Int.ofNat m) c) (c (.n .u8 m)) (Nat.ble m (lim .u8)) : FR) = P
  rw [fN_eq]
  by_cases h : a ≤ 255
  · rw [show Nat.ble a (lim .u8) = true from ble_t h]
    rw [Nat.mod_eq_of_lt (by omega)] at hc; exact hc
  · rw [show Nat.ble a (lim .u8) = false from ble_f (by show 255 < a; omega)]
    show vI .u8 (wr .u8 (Int.ofNat a)) c = P
    rw [show wr .u8 (Int.ofNat a) = Int.ofNat (a % 256) by show ((a : Nat) : Int) % 256 = ((a % 256 : Nat) : Int); omega]
    show (fN (a % 256) fun m => c (.n .u8 m)) = P
    rw [fN_eq]; exact hc
theorem bs1 {a : Nat} {e : TypeId} (ha : a < 256) (hn : n < 1000000) (h : k (.sl n 0 1 1 true 1) ⟨n + 1, mp m n (.bs (pack [UInt8.ofNat a]) e .exact)⟩ = P) : O.bs e 1 1 [.n .u8 a] ⟨n, m⟩ k = P := by
  subst hO
  show (ofQ [.n .u8 a] e .exact fun o => nM ⟨n, m⟩ o fun b σ => k (.sl b 0 1 1 true 1) σ) = P
  have e2 : βO (.ints .u8 [Int.ofNat a] e .exact) = .bs (pack [UInt8.ofNat a]) e .exact := by
    have : packI [Int.ofNat a] = some (pack [UInt8.ofNat a]) := by
      simp only [packI, Nat.blt_eq, ha, cond_true, Option.map_some, pack, show Nat.blt a 256 = true by rw [Nat.blt_eq]; exact ha, show (UInt8.ofNat a).toNat = a by rw [UInt8.toNat_ofNat']; omega]
    simp only [βO, this]
  show (fO (βO (.ints .u8 [Int.ofNat a] e .exact)) fun o => nM ⟨n, m⟩ o fun b σ => k (.sl b 0 1 1 true 1) σ) = P
  rw [e2, fO_eq, nM_mp hn]; exact h
theorem bs2 {a b : Nat} {e : TypeId} (ha : a < 256) (hb : b < 256) (hn : n < 1000000) (h : k (.sl n 0 2 2 true 1) ⟨n + 1, mp m n (.bs (pack [UInt8.ofNat a, UInt8.ofNat b]) e .exact)⟩ = P) : O.bs e 1 2 [.n .u8 a, .n .u8 b] ⟨n, m⟩ k = P := by
  subst hO
  show (ofQ [.n .u8 a, .n .u8 b] e .exact fun o => nM ⟨n, m⟩ o fun b σ => k (.sl b 0 2 2 true 1) σ) = P
  have e2 : βO (.ints .u8 [Int.ofNat a, Int.ofNat b] e .exact) = .bs (pack [UInt8.ofNat a, UInt8.ofNat b]) e .exact := by
    have : packI [Int.ofNat a, Int.ofNat b] = some (pack [UInt8.ofNat a, UInt8.ofNat b]) := by
      simp only [packI, cond_true, Option.map_some, pack, show Nat.blt a 256 = true by rw [Nat.blt_eq]; exact ha, show Nat.blt b 256 = true by rw [Nat.blt_eq]; exact hb, show (UInt8.ofNat a).toNat = a by rw [UInt8.toNat_ofNat']; omega, show (UInt8.ofNat b).toNat = b by rw [UInt8.toNat_ofNat']; omega]
    simp only [βO, this]
  show (fO (βO (.ints .u8 [Int.ofNat a, Int.ofNat b] e .exact)) fun o => nM ⟨n, m⟩ o fun b σ => k (.sl b 0 2 2 true 1) σ) = P
  rw [e2, fO_eq, nM_mp hn]; exact h
theorem apXS {e el : TypeId} {tl : Tl} {l l' : Bs} {b o L Kk : Nat} (ha : Am m b (.bs (pack l) el tl)) (hl : o + L ≤ l.length) (hK : Kk = L) (hp : 0 < l'.length) (hb : L + l'.length ≤ 1000000000000) (hn : n < 1000000)
    (h : k (.sl n 0 (L + l'.length) (L + l'.length) false 1) ⟨n + 1, mp m n (.bs (pack ((l.drop o).take L ++ l')) e .more)⟩ = P) : O.ap e true 1 (.sl b o L Kk true 1) (.s (pack l')) ⟨n, m⟩ k = P := by
  subst hO hK
  obtain ⟨q, hq⟩ : ∃ q, l'.length = q + 1 := ⟨l'.length - 1, by omega⟩
  show (gT (Nat.beq 1 1) (fN (bl (pack l')) fun mm => apR e 1 (.sl b o Kk Kk true 1) mm (.bs (pack l')) ⟨n, m⟩ k)) = P
  rw [gTt (b := Nat.beq 1 1) rfl, fN_eq, bl_pack, hq]
  refine apR_ ?_
  rw [rowQs, rowSb ha hl, fN_eq, show Nat.add Kk (Nat.succ q) = Kk + (q + 1) from rfl, gTt (ble_t (show Kk + (q + 1) ≤ 1000000000000 by omega)), baBx ha (by omega)]
  show (fN (bapp (pack ((l.drop o).take Kk)) (pack l')) fun s => nM ⟨n, m⟩ (.bs s e .more) fun b σ => k (.sl b 0 (Kk + (q + 1)) (Kk + (q + 1)) false 1) σ) = P
  rw [fN_eq, bappP, nM_mp hn, ← hq]; exact h
theorem mlS {α : Type} {b : Nat} {l : List α} {g : α → FV × FV} (ha : Am m b (.map (l.map g))) (h : c (.n .i64 l.length) = P) : O.ml (.m b) ⟨n, m⟩ c = P := by
  subst hO
  show gM ⟨n, m⟩ b (kMp fun l => lenK l 0 fun n => c (.n .i64 n)) = P
  rw [gM_am ha]
  show (lenK (l.map g) 0 fun n => c (.n .i64 n)) = P
  rw [lenK_eq, Nat.zero_add, List.length_map]; exact h
end
end Go.Proofs.YtjoakhpdajlhiaaDoor.V2.S
namespace Go.Proofs.YtjoakhpdajlhiaaDoor.V2.S
open Go
set_option maxRecDepth 100000
set_option maxHeartbeats 4000000
set_option linter.unusedVariables false
attribute [local irreducible] fN fO nM gM pM Phi.fn mp bl bpart bapp top1 pack
theorem leSF {O : Oz} (hO : O = zO) {P : FR} {c : FV → FR} {a b : Bs} (h : b < a) (hc : c (.b false) = P) : O.le (.s (pack a)) (.s (pack b)) c = P := by
  subst hO
  show gS .leq (pack a) (pack b) c = P
  unfold gS
  rw [unp_pack, unp_pack]
  show gB true (c (.b (Op.bytesLess a b || (a == b)))) = P
  rw [bytesLess_eq, decide_eq_false (List.lt_asymm h), beq_false_of_ne (fun e : a = b => by subst e; exact List.lt_irrefl _ h)]
  exact hc
def CloneS (H : HF) : Prop := ∀ {mb n : Nat} {m : T FObj} {L : List (FV × FV)}, Am m mb (.map L) → mb < n → ∀ (k : KV) (P : FR), n + 1 ≤ 1000000 → (∀ m', Kp n m m' → Am m' n (.map L) → k (.m n) ⟨n + 1, m'⟩ = P) → H [.m mb] ⟨n, m⟩ k = P
theorem clone_s : CloneS cmQ := fun {mb n m L} ha hb k P hn hf => by
  show (gM ⟨n, m⟩ mb (kMp fun l => nM ⟨n, m⟩ (.map l) fun b σ => k (.m b) σ)) = P
  rw [gM_am ha]
  show (nM ⟨n, m⟩ (.map L) fun b σ => k (.m b) σ) = P
  rw [nM_mp (by omega)]
  exact hf _ kQ (am_same (by omega))
def CopyS (H : HF) : Prop := ∀ {tb mb : Nat} {t : Tr} {n : Nat} {m : T FObj}, TreeAt m tb mb 65 t → tb < n → mb < n → RetX 2 [] H [.p tb 0] n m (fun v n' m' => ∃ tb2 mb2, v = .p tb2 0 ∧ tb2 ≠ mb2 ∧ n ≤ tb2 ∧ tb2 < n' ∧ n ≤ mb2 ∧ mb2 < n' ∧ TreeAt m' tb2 mb2 65 t)
theorem copy_s {O : Oz} (hO : O = zO) (Φ : Phi) (HN : NoneS (Phi.fn Φ 28)) (HC : CloneS (Phi.fn Φ 57)) : CopyS (p25 O Φ) := fun {tb mb t n m} hT htb hmb k P hn hf => by
  have hT1 := hT.s
  have hT2 := hT.m
  repeat' ((conv => lhs; whnf); first | ((with_reducible refine atFn ?_); first | refine HN (hT.kp kQ htb hmb) _ _ ?_ | (refine HC hT2 (by omega) _ _ (by omega) (fun m1 k1 a1 => ?_))) | ((with_reducible refine fa0 hO ?_)) | ((with_reducible refine atLd ?_); refine ldC hO aQ (by rfl) ?_) | ((with_reducible refine atBx ?_); refine bxA hO (by omega) (by simp only [αL, αV, AObj.of, allInt, βO, βL, βV, unp_pack]) ?_) | ((with_reducible refine rcE hO (by kernel_rfl) rfl ?_)) | ((with_reducible first | refine umt hO ?_ | refine uqu hO ?_ | refine urm hO ?_ | refine uan hO ?_ | refine uro hO ?_ | refine uxr hO ?_ | refine uhl hO ?_ | refine uhr hO ?_ | refine uad hO ?_ | refine usb hO ?_ | refine ult hO ?_ | refine ule hO ?_ | refine ugt hO ?_ | refine uge hO ?_ | refine ueq hO ?_ | refine une hO ?_ | refine ucv hO ?_ | refine uia hO ?_ | refine usv hO ?_ | refine ubu hO ?_ | refine uap hO ?_ | refine ubs hO ?_ | refine umm hO ?_ | refine upq hO ?_ | refine unq hO ?_ | refine uln hO ?_)))
  all_goals (conv => lhs; whnf)
  all_goals first
    | exact hf _ _ _ (by omega) (by omega) qQ ⟨n + 1, n, rfl, by omega, by omega, by omega, by omega, by omega, am_same (by omega), aQ⟩
def LibS (H : HF) : Prop := ∀ (l : Bs), l.length ≤ 900000 → ∀ (n : Nat) (m : T FObj) (i : Nat), lastS l = i + 1 → Ret0 H [.s (pack l), .n .u8 47] n m (.n .i64 i)
theorem lib54_s {O : Oz} (hO : O = zO) (Φ Φ1 : Phi) (H : Phi.fn Φ 77 = p77 O Φ1) : LibS (p54 O Φ) := fun l hl n m i hi k P hf => by
  repeat' ((conv => lhs; whnf); first | ((with_reducible refine atFn ?_); (rw [H]; refine lib_s hO Φ1 l hl (fun j hj => ?_) (fun h0 => absurd h0 (by omega)); obtain rfl : i = j := by omega)))
  all_goals (conv => lhs; whnf)
  all_goals first
    | exact hf
def WithL (H : HF) : Prop := ∀ {tb mb : Nat} {t : Tr} {n : Nat} {m : T FObj}, TreeAt m tb mb 65 t → tb < n → mb < n → WfT t → ∀ (d : Bs), d.length ≤ 900000 → outG d (t.L.map En.path) ≠ [] → ∀ (k : KV) (P : FR), n + 2 ≤ 1000000 → (∀ m', Kp n m m' → Am m' n (.cells (vsL (sortB (outG d (t.L.map En.path)))) 9 .more) → k (.sl n 0 (outG d (t.L.map En.path)).length (outG d (t.L.map En.path)).length false 1) ⟨n + 1, m'⟩ = P) → H [.p tb 0, .s (pack d)] ⟨n, m⟩ k = P
theorem wi_l : WithL wiQ := fun {tb mb t n m} hT htb hmb hW d hdl hne k P hn hf => by
  show (gM ⟨n, m⟩ tb (kCe fun l => nthK l 0 (kM fun q => wiMQ ⟨n, m⟩ (pack d) q k))) = P
  rw [gM_am hT.s]
  show gM ⟨n, m⟩ mb (kMp fun l => keysK l fun cs => wiOQ cs (pack d) ⟨n, m⟩ k) = P
  rw [gM_am hT.m]
  show keysK (t.L.map fun a => (.s (pack (En.path a)), entV a)) (fun cs => wiOQ cs (pack d) ⟨n, m⟩ k) = P
  rw [keysK_pack]
  have hpl : ∀ x ∈ t.L.map En.path, x.head? = some 47 ∧ x.length ≤ 256 := fun x hx => by
    obtain ⟨e, he, rfl⟩ := List.mem_map.1 hx
    exact ⟨hW.hd e he, (hW.pl e he).1⟩
  have hnd := outG_nd (d := d) hW.nd fun x hx => (hpl x hx).1
  have hol : (outG d (t.L.map En.path)).length ≤ 128 := by
    unfold outG
    rw [List.length_map]
    exact Nat.le_trans (List.length_filter_le _ _) (by rw [List.length_map]; exact hW.len)
  have hop : ∀ x ∈ outG d (t.L.map En.path), x.length ≤ 1000000 := fun x hx => by
    unfold outG at hx
    obtain ⟨y, hy, rfl⟩ := List.mem_map.1 hx
    have := (hpl y (List.mem_filter.1 hy).1).2
    rw [List.length_drop]; omega
  have hu : ((t.L.map En.path).map pack).map unp = t.L.map En.path := unp_packs _
  have hwi : wiS d (t.L.map En.path) = true := by
    unfold wiS
    rw [Bool.and_eq_true]
    refine ⟨ble_t (by omega), List.all_eq_true.2 fun x hx => ?_⟩
    obtain ⟨h1, h2⟩ := hpl x hx
    have hne : x.isEmpty = false := by
      cases x with
      | nil => cases h1
      | cons c l => rfl
    rw [hne]
    show (true && (!decide (parB x = d) || Nat.ble (joinB d []).length x.length)) = true
    rw [Bool.true_and]
    by_cases hp : parB x = d
    · rw [decide_eq_true hp, show joinB d [] = joinG d [] from join_eq d [], ble_t (pre_of h1 ((par_eq x).symm.trans hp)).1]; rfl
    · rw [decide_eq_false hp]; rfl
  have hsp := sortB_pw hW.nd
  show gB (wiS (unp (pack d)) (((t.L.map En.path).map pack).map unp)) (shK ((t.L.map En.path).map pack) (gB (Nat.ble ((t.L.map En.path).map pack).length 1000000) (srtK ((t.L.map En.path).map pack) fun r => risK r (pkK (outS (unp (pack d)) (((t.L.map En.path).map pack).map unp)) fun os => srtQ os ⟨n, m⟩ k)))) = P
  rw [unp_pack, hu, hwi, shK_pack _ _ fun x hx => by have := (hpl x hx).2; omega, List.length_map, List.length_map, ble_t (by have := hW.len; omega), srtK_pack, risK_pack _ hsp, pkK_eq, outS_out, srtQ_bs hnd (by omega) hop (by omega)]
  show (if outG d (t.L.map En.path) = [] then k (.o .sl) ⟨n, m⟩ else _) = P
  rw [if_neg hne]
  exact hf _ kQ (am_same (by omega))
def ListS (H : HF) : Prop := ∀ {tb mb : Nat} {t : Tr} {n : Nat} {m : T FObj}, TreeAt m tb mb 65 t → tb < n → mb < n → WfT t → ∀ (d : Bs), d.length ≤ 900000 → isG t d 1 = (d, 0) → outG d (t.L.map En.path) ≠ [] → ∀ (k : KV) (P : FR), n + 603 ≤ 1000000 → (∀ b n' m', n ≤ b → b < n' → n' ≤ n + 603 → Kp n m m' → Am m' b (.cells (vsL (sortB (outG d (t.L.map En.path)))) 9 .more) → k (.tup [.sl b 0 (outG d (t.L.map En.path)).length (outG d (t.L.map En.path)).length false 1, .n .i64 0]) ⟨n', m'⟩ = P) → H [.p tb 0, .s (pack d)] ⟨n, m⟩ k = P
theorem list_s {O : Oz} (hO : O = zO) (Φ : Phi) (HI : IsS (Phi.fn Φ 41)) (HW : WithL (Phi.fn Φ 40)) : ListS (p55 O Φ) := fun {tb mb t n m} hT htb hmb hW d hd his hne k P hn hf => by
  repeat' ((conv => lhs; whnf); first | ((with_reducible refine atFn ?_); first | (refine HI hT htb hmb hW d 1 hd _ _ (by omega) (fun n1 m1 h1 g1 k1 => ?_); rw [his]) | (refine HW (hT.kp k1 htb hmb) (by omega) (by omega) hW d hd hne _ _ (by omega) (fun m2 k2 a2 => ?_))) | ((with_reducible refine neF hO (by omega) ?_)))
  all_goals (conv => lhs; whnf)
  all_goals first
    | exact hf _ _ _ (by omega) (by omega) (by omega) kQ (by assumption)
def IdxS (H : HF) : Prop := ∀ {b L n : Nat} {m : T FObj} {x : Bool} {tl : Tl} {l : List Bs}, Am m b (.cells (vsL l) 9 tl) → L = l.length → L ≤ 1000 → ∀ (s : Bs), s ∈ l → ∀ (k : KV) (P : FR), (∀ i, k (.n .i64 i) ⟨n, m⟩ = P) → H [.sl b 0 L L x 1, .s (pack s)] ⟨n, m⟩ k = P
theorem idxS_s {O : Oz} (hO : O = zO) (Φ : Phi) : IdxS (p78 O Φ) := fun {b L n m x tl l} ha hL hL2 s hs k P hf => by
  repeat' ((conv => lhs; whnf); first | ((with_reducible refine lvS hO ?_)))
  all_goals (conv => lhs; whnf)
  refine lpI hO (fun q e n' m' => ∃ i, i ≤ L ∧ q = L - i ∧ n' = n ∧ m' = m ∧ (∀ j, j < i → l[j]? ≠ some s) ∧ e = eof [(4, .n .i64 0), (8, .n .i64 i)]) ?_ ?_ _ L _ _ _ (by omega) ⟨0, by omega, by omega, rfl, rfl, fun j hj => absurd hj (Nat.not_lt_zero _), rfl⟩
  · rintro q e n' m' ⟨i, _, _, h, _⟩; omega
  · rintro q e n' m' ih ⟨i, hi, rfl, rfl, rfl, hj, rfl⟩ hih
    rcases Nat.lt_or_ge i L with hlt | hge
    · obtain ⟨y, hy⟩ : ∃ y, l[i]? = some y := ⟨_, List.getElem?_eq_getElem (by omega)⟩
      repeat' ((conv => lhs; whnf); first | ((with_reducible refine atLd ?_); refine ldC hO ha (vsL_at hy) ?_) | ((with_reducible refine ltT hO (by omega) ?_)) | ((with_reducible refine eqSB hO (fun h => ?_) (fun h => ?_))) | ((with_reducible refine adI hO (by omega) ?_)) | ((with_reducible refine ix01 hO (by omega) ?_)))
      all_goals (conv => lhs; whnf)
      all_goals first
        | exact hf _
        | exact hih (L - (i + 1)) _ _ _ (by omega) ⟨i + 1, by omega, rfl, rfl, rfl, fun j hj2 => by
            rcases Nat.lt_or_ge j i with h2 | h2
            · exact hj j h2
            · rw [show j = i by omega, hy]; exact fun e => by cases e; exact absurd rfl (by assumption), rfl⟩
    · exfalso
      obtain ⟨j, h1⟩ := List.getElem?_of_mem hs
      have h2 := (List.getElem?_eq_some_iff.1 h1).1
      exact hj j (by omega) h1
def ContS (H : HF) : Prop := ∀ {b L n : Nat} {m : T FObj} {x : Bool} {tl : Tl} {l : List Bs}, Am m b (.cells (vsL l) 9 tl) → L = l.length → L ≤ 1000 → ∀ (s : Bs), s ∈ l → Ret0 H [.sl b 0 L L x 1, .s (pack s)] n m (.b true)
theorem cont_s {O : Oz} (hO : O = zO) (Φ : Phi) (H : IdxS (Phi.fn Φ 78)) : ContS (p56 O Φ) := fun {b L n m x tl l} ha hL hL2 s hs k P hf => by
  repeat' ((conv => lhs; whnf); first | ((with_reducible refine atFn ?_); (refine H ha hL hL2 s hs _ _ (fun i => ?_))) | ((with_reducible refine geT hO (by omega) ?_)))
  all_goals (conv => lhs; whnf)
  all_goals first
    | exact hf
end Go.Proofs.YtjoakhpdajlhiaaDoor.V2.S
namespace Go.Proofs.YtjoakhpdajlhiaaDoor.V2.S
open Go
set_option maxRecDepth 100000
set_option linter.unusedVariables false
theorem top_pack : ∀ a : Nat, top1 a = pack (List.replicate a 0)
  | 0 => by rw [top1_eq]; rfl
  | a + 1 => by
    have := top_pack a
    rw [top1_eq] at this
    rw [top1_eq, List.replicate_succ]
    show _ = (0 : UInt8).toNat + 256 * pack (List.replicate a 0)
    rw [← this, Nat.pow_succ]
    show _ = 0 + _
    omega
section
variable {O : Oz} (hO : O = zO) {P : FR} {c : FV → FR} {k : KV} {n : Nat} {m : T FObj}
include hO
theorem hl8 {a : Nat} (ha : a ≤ 255) (hc : c (.n .i64 (a * 256)) = P) : O.hl (.n .i64 a) (.n .u64 8) c = P := by
  subst hO
  show (Bool.rec (gI .shl .i64 (Int.ofNat a) (Int.ofNat 8) c) (wN .i64 (Nat.shiftLeft a 8) c) (Nat.ble 8 (bitsF .i64)) : FR) = P
  rw [show Nat.ble 8 (bitsF .i64) = true from rfl, show Nat.shiftLeft a 8 = a * 256 from Nat.shiftLeft_eq a 8]
  show (fN (a * 256) fun m => Bool.rec (sW .i64 (Int.ofNat m) c) (c (.n .i64 m)) (Nat.ble m (lim .i64)) : FR) = P
  rw [fN_eq, show Nat.ble (a * 256) (lim .i64) = true from ble_t (show a * 256 ≤ 9223372036854775807 by omega)]; exact hc
theorem roB {a b : Nat} (ha : a ≤ 255) (hb : b ≤ 255) (hc : c (.n .i64 (a * 256 + b)) = P) : O.ro (.n .i64 (a * 256)) (.n .i64 b) c = P := by
  subst hO
  show gK .i64 .i64 (Bool.rec (gI .or .i64 (Int.ofNat (a * 256)) (Int.ofNat b) c) (Bool.rec (gI .or .i64 (Int.ofNat (a * 256)) (Int.ofNat b) c) (fN (Nat.lor (a * 256) b) fun r => c (.n .i64 r)) (Nat.ble b (lim .i64))) (Nat.ble (a * 256) (lim .i64)) : FR) = P
  rw [show Nat.ble (a * 256) (lim .i64) = true from ble_t (show a * 256 ≤ 9223372036854775807 by omega), show Nat.ble b (lim .i64) = true from ble_t (show b ≤ 9223372036854775807 by omega)]
  have e : Nat.lor (a * 256) b = a * 256 + b := by
    have := (Nat.shiftLeft_add_eq_or_of_lt (i := 8) (b := b) (by omega) a).symm
    rw [Nat.shiftLeft_eq] at this
    exact this
  show (fN (Nat.lor (a * 256) b) fun r => c (.n .i64 r)) = P
  rw [fN_eq, e]; exact hc
theorem hl0 (hc : c (.n .i64 0) = P) : O.hl (.n .i64 0) (.n .u64 8) c = P := hl8 hO (a := 0) (by decide) hc
theorem ro0 (hc : c (.n .i64 0) = P) : O.ro (.n .i64 0) (.n .i64 0) c = P := roB hO (a := 0) (b := 0) (by decide) (by decide) hc
theorem mkB {a : Nat} {e : TypeId} (ha : a ≤ 1000000) (hn : n < 1000000) (h : k (.sl n 0 a a true 1) ⟨n + 1, mp m n (.bs (pack (List.replicate a 0)) e .exact)⟩ = P) : O.nq (.makeSl e 1 [.int .u8 0]) [.n .i64 a, .n .i64 a] ⟨n, m⟩ k = P := by
  subst hO
  show gT (Nat.ble a a) (gT (Nat.ble a 1000000) (fN (top1 a) fun z => nM ⟨n, m⟩ (.bs z e .exact) fun b σ => k (.sl b 0 a a true 1) σ)) = P
  rw [gTt (ble_t (Nat.le_refl a)), gTt (ble_t ha), fN_eq, nM_mp hn, top_pack]; exact h
theorem bSP {b o L Kk : Nat} {x : Bool} {l : Bs} {e : TypeId} {t : Tl} (ha : Am m b (.bs (pack l) e t)) (hl : o + L ≤ l.length) (h : c (.s (pack ((l.drop o).take L))) = P) : O.bS (.sl b o L Kk x 1) ⟨n, m⟩ c = P := by
  subst hO
  show (rowQ false 1 ⟨n, m⟩ (.sl b o L Kk x 1) fun _ R => kR (fun s => c (.s s)) (fun l => List.rec (motive := fun _ => FR) (c (.s 1)) (fun _ _ _ => .bad) l) (fun _ _ => slV (lstep std (αH ⟨n, m⟩) .sl2str [αV (.sl b o L Kk x 1)]) c) R) = P
  rw [rowQs, rowSb ha hl]; exact h
end
end Go.Proofs.YtjoakhpdajlhiaaDoor.V2.S
namespace Go.Proofs.YtjoakhpdajlhiaaDoor.V2.S
open Go
set_option maxRecDepth 100000
set_option maxHeartbeats 4000000
set_option linter.unusedVariables false
attribute [local irreducible] fN fO nM gM pM Phi.fn mp bl bpart bapp top1 pack
def RdS (m : T FObj) (rb Bb o R : Nat) (s : Bool) : Prop := ∃ K x, R ≤ K ∧ Am m rb (.cells [.sl Bb o R K x 1, .b s] 79 .exact)
def TakeS (H : HF) : Prop := ∀ {rb Bb o R many n : Nat} {s : Bool} {l : Bs} {e : TypeId} {tl : Tl} {m : T FObj}, RdS m rb Bb o R s → Am m Bb (.bs (pack l) e tl) → rb < n → Bb < n → rb ≠ Bb → o + R = l.length → l.length ≤ 900000 → many ≤ 900000 → ∀ (k : KV) (P : FR), n + 1 ≤ 1000000 →
  (s = true ∨ R < many → ∀ m', Kq [rb] n m m' → RdS m' rb Bb o R true → Am m' n (.bs (pack (List.replicate (min many 2) 0)) 5 .exact) → k (.sl n 0 (min many 2) (min many 2) true 1) ⟨n + 1, m'⟩ = P) →
  (s = false → many ≤ R → ∀ m' K x, Kq [rb] n m m' → RdS m' rb Bb (o + many) (R - many) false → k (.sl Bb o many K x 1) ⟨n, m'⟩ = P) → H [.p rb 0, .n .i64 many] ⟨n, m⟩ k = P
theorem take_s {O : Oz} (hO : O = zO) (Φ : Phi) : TakeS (p44 O Φ) := fun {rb Bb o R many n s l e tl m} hR ha hrb hBb hne hl hl9 hmany k P hn h1 h2 => by
  obtain ⟨K, x, hK, hr⟩ := hR
  cases s
  repeat' ((conv => lhs; whnf); first | ((with_reducible refine mkB hO (by omega) (by omega) ?_)) | ((with_reducible refine fa0 hO ?_)) | ((with_reducible refine atLd ?_); refine ldC hO aQ (by rfl) ?_) | ((with_reducible refine lvS hO ?_)) | ((with_reducible refine gtB hO (fun h => ?_) (fun h => ?_))) | ((with_reducible refine mnI hO ?_)) | ((with_reducible refine svH hO (by omega) ?_)) | ((with_reducible refine svL hO (by omega) ?_)) | ((with_reducible refine atSt ?_); refine stC hO aQ (by kernel_rfl) (fun _ _ _ => rfl) (fun _ => rfl) ?_))
  all_goals (conv => lhs; whnf)
  all_goals first
    | exact h1 (.inl rfl) _ qQ ⟨K, x, hK, aQ⟩ (am_same (by omega))
    | exact h1 (.inr (by omega)) _ qQ ⟨K, x, hK, aQ⟩ (am_same (by omega))
    | exact h2 rfl (by omega) _ _ _ qQ ⟨K - many, x, by omega, by rw [show o + many = o + many * 1 by omega]; repeat (first | assumption | exact am_same (by omega) | apply am_ne (by omega) (by omega) | apply kp_am (by assumption) (by omega) | apply Kq.am (by assumption) (by omega) (by simp only [List.mem_cons, List.not_mem_nil, or_false, forall_eq_or_imp, forall_eq, false_implies, implies_true, ne_eq, and_true]; omega))⟩
end Go.Proofs.YtjoakhpdajlhiaaDoor.V2.S
namespace Go.Proofs.YtjoakhpdajlhiaaDoor.V2.S
open Go
set_option maxRecDepth 100000
set_option maxHeartbeats 4000000
set_option linter.unusedVariables false
attribute [local irreducible] fN fO nM gM pM Phi.fn mp bl bpart bapp top1 pack
theorem bt_rep (k i : Nat) : bt (List.replicate k 0) i = 0 := by
  unfold bt
  rw [List.getD_eq_getElem?_getD, List.getElem?_replicate]
  split <;> rfl
theorem bt_le (l : Bs) (i : Nat) : bt l i ≤ 255 := by
  unfold bt
  have := (l.getD i 0).toNat_lt
  omega
def numV (l : Bs) (o : Nat) : Nat := bt l o * 256 + bt l (o + 1)
theorem numV_le (l : Bs) (o : Nat) : numV l o ≤ 65535 := by
  unfold numV
  have := bt_le l o
  have := bt_le l (o + 1)
  omega
theorem roN {O : Oz} (hO : O = zO) {P : FR} {c : FV → FR} {l : Bs} {o : Nat} (hc : c (.n .i64 (numV l o)) = P) : O.ro (.n .i64 (bt l o * 256)) (.n .i64 (bt l (o + 1))) c = P := roB hO (bt_le l o) (bt_le l (o + 1)) hc
attribute [local irreducible] numV
def NumS (H : HF) : Prop := ∀ {rb Bb o R n : Nat} {s : Bool} {l : Bs} {e : TypeId} {tl : Tl} {m : T FObj}, RdS m rb Bb o R s → Am m Bb (.bs (pack l) e tl) → rb < n → Bb < n → rb ≠ Bb → o + R = l.length → l.length ≤ 900000 → ∀ (k : KV) (P : FR), n + 1 ≤ 1000000 →
  (s = true ∨ R < 2 → ∀ n' m', n ≤ n' → n' ≤ n + 1 → Kq [rb] n m m' → RdS m' rb Bb o R true → k (.n .i64 0) ⟨n', m'⟩ = P) →
  (s = false → 2 ≤ R → ∀ m', Kq [rb] n m m' → RdS m' rb Bb (o + 2) (R - 2) false → k (.n .i64 (numV l o)) ⟨n, m'⟩ = P) → H [.p rb 0] ⟨n, m⟩ k = P
theorem num_s {O : Oz} (hO : O = zO) (Φ : Phi) (H : TakeS (Phi.fn Φ 44)) : NumS (p43 O Φ) := fun {rb Bb o R n s l e tl m} hR ha hrb hBb hne hl hl9 k P hn h1 h2 => by
  have hb0 := bt_le l o
  have hb1 := bt_le l (o + 1)
  repeat' ((conv => lhs; whnf); first | ((with_reducible refine hl0 hO ?_)) | ((with_reducible refine ro0 hO ?_)) | ((with_reducible refine hl8 hO (by omega) ?_)) | ((refine roN (l := l) (o := o) hO ?_)) | ((with_reducible refine atFn ?_); (refine H hR ha (by omega) (by omega) hne hl hl9 (by omega) _ _ (by omega) (fun hs m1 k1 r1 a1 => ?_) (fun hs hm m1 K1 x1 k1 r1 => ?_); rw [Nat.min_self])) | ((with_reducible refine atLd ?_); first | (refine ldB hO a1 (by rw [List.length_replicate]; decide) ?_; rw [bt_rep]) | (refine ldB hO aQ (by omega) ?_; first | rw [show o + 0 = o from rfl] | rw [show o + 1 * 1 = o + 1 from rfl] | skip)) | ((with_reducible refine cvI hO (by omega) ?_)) | ((with_reducible refine ix01 hO (by omega) ?_)) | ((with_reducible refine ix1 hO (by omega) ?_)))
  all_goals (conv => lhs; whnf)
  all_goals first
    | exact h1 (by assumption) _ _ (by omega) (by omega) qQ r1
    | exact h2 (by assumption) (by assumption) _ qQ r1
def TextS (H : HF) : Prop := ∀ {rb Bb o R n : Nat} {s : Bool} {l : Bs} {e : TypeId} {tl : Tl} {m : T FObj}, RdS m rb Bb o R s → Am m Bb (.bs (pack l) e tl) → rb < n → Bb < n → rb ≠ Bb → o + R = l.length → l.length ≤ 900000 → ∀ (k : KV) (P : FR), n + 2 ≤ 1000000 →
  (s = true ∨ R < 2 ∨ R - 2 < numV l o → ∀ z o' R' n' m', z.length ≤ 2 → o' + R' = l.length → n ≤ n' → n' ≤ n + 2 → Kq [rb] n m m' → RdS m' rb Bb o' R' true → k (.s (pack z)) ⟨n', m'⟩ = P) →
  (s = false → 2 ≤ R → numV l o ≤ R - 2 → ∀ m', Kq [rb] n m m' → RdS m' rb Bb (o + 2 + numV l o) (R - 2 - numV l o) false → k (.s (pack ((l.drop (o + 2)).take (numV l o)))) ⟨n, m'⟩ = P) → H [.p rb 0] ⟨n, m⟩ k = P
theorem text_s {O : Oz} (hO : O = zO) (Φ : Phi) (HN : NumS (Phi.fn Φ 43)) (H : TakeS (Phi.fn Φ 44)) : TextS (p42 O Φ) := fun {rb Bb o R n s l e tl m} hR ha hrb hBb hne hl hl9 k P hn h1 h2 => by
  have hnv := numV_le l o
  repeat' ((conv => lhs; whnf); first | (refine bSP hO aQ (by first | omega | (rw [List.length_replicate]; omega)) ?_) | ((with_reducible refine atFn ?_); first | refine HN hR ha (by omega) (by omega) hne hl hl9 _ _ (by omega) (fun hs n1 m1 h3 g3 k1 r1 => ?_) (fun hs hm m1 k1 r1 => ?_) | refine H r1 aQ (by omega) (by omega) hne (by omega) hl9 (by omega) _ _ (by omega) (fun hs2 m2 k2 r2 a2 => ?_) (fun hs2 hm2 m2 K2 x2 k2 r2 => ?_)))
  all_goals (conv => lhs; whnf)
  all_goals first
    | exact absurd hs2 (by decide)
    | exact h1 (hs.elim .inl fun h => .inr (.inl h)) _ o R _ _ (by rw [List.length_take, List.length_drop, List.length_replicate]; omega) (by omega) (by omega) (by omega) qQ (by assumption)
    | exact h1 (.inr (.inr (by rcases hs2 with h | h; cases h; exact h))) _ (o + 2) (R - 2) _ _ (by rw [List.length_take, List.length_drop, List.length_replicate]; omega) (by omega) (by omega) (by omega) qQ (by assumption)
    | exact h2 (by assumption) (by assumption) (by assumption) _ qQ (by assumption)
end Go.Proofs.YtjoakhpdajlhiaaDoor.V2.S
namespace Go.Proofs.YtjoakhpdajlhiaaDoor.V2.S
open Go
set_option maxRecDepth 100000
set_option maxHeartbeats 4000000
set_option linter.unusedVariables false
attribute [local irreducible] fN fO nM gM pM Phi.fn mp bl bpart bapp top1 pack
def FewL (H : HF) : Prop := ∀ {l : List Ac} {n : Nat} {m : T FObj} {v : FV}, RowA m n v l → (∀ a ∈ l, a.m ≤ 65535) → RetX 160 [] H [v] n m (fun v n' m' => ∃ o, FewOk o ∧ o.length = min l.length 40 ∧ o.map Ac.w = (l.take 40).map Ac.w ∧ ActsAt m' n n' v o)
def FewL1 (H : HF) : Prop := ∀ {l : List Ac} {b Kk n : Nat} {m : T FObj} {x : Bool} {e : TypeId} {tl : Tl}, Am m b (.cells (acs l) e tl) → b < n → (∀ a ∈ l, a.m ≤ 65535) → RetX 160 [] H [.sl b 0 l.length Kk x 4] n m (fun v n' m' => ∃ o, FewOk o ∧ o.length = min l.length 40 ∧ o.map Ac.w = (l.take 40).map Ac.w ∧ ActsAt m' n n' v o)
theorem few_l1 {O : Oz} (hO : O = zO) (Φ : Phi) : FewL1 (p8 O Φ) := fun {l b Kk n m x e0 tl} ha hb hm k P hn hf => by
  skip
  all_goals (conv => lhs; whnf)
  all_goals first
    | refine lpI hO (fun t e n' m' => ∃ i out v, i ≤ l.length ∧ i ≤ 40 ∧ t = 40 - i ∧ n ≤ n' ∧ n' ≤ n + 4 * i ∧ Kp n m m' ∧ out.length = i ∧ out.map Ac.w = (l.take i).map Ac.w ∧ FewOk out ∧ ActsAt m' n n' v out ∧ e = eof [(2, .o .sl), (3, v), (4, .n .i64 i)]) ?_ ?_ _ 40 _ _ _ (by omega) ⟨0, [], .o .sl, by omega, by omega, by omega, by omega, by omega, Kp.refl _ _, rfl, rfl, ⟨by decide, fun a ha => absurd ha List.not_mem_nil⟩, .inl ⟨rfl, rfl⟩, rfl⟩
  · rintro t e n' m' ⟨i, out, v, _, _, _, h, _⟩; exact h
  · rintro t e n' m' ih ⟨i, out, v, hi, hi4, rfl, g1, g2, hk, hol, how, hok, hat, rfl⟩ hih
    rcases Nat.lt_or_ge i l.length with hlt | hge
    · obtain ⟨a, hgi⟩ : ∃ a, l[i]? = some a := ⟨l[i], List.getElem?_eq_getElem hlt⟩
      have ham := hm a (List.mem_of_getElem? hgi)
      rcases Nat.lt_or_ge i 40 with hl4 | hg4
      · have fin : ∀ (d : Bs) (n2 : Nat) (m2 : T FObj) (v2 : FV), d.length ≤ 9000 → n ≤ n2 → n2 ≤ n + 4 * (i + 1) → Kp n m m2 → ActsAt m2 n n2 v2 (out ++ [⟨a.w, a.p.take (min a.p.length 300), d, a.m⟩]) → ih (eof [(2, .o .sl), (3, v2), (4, .n .i64 (i + 1))]) ⟨n2, m2⟩ = P := fun d n2 m2 v2 h1 h2 h3 h4 h5 =>
          hih (40 - (i + 1)) _ _ _ (by omega) ⟨i + 1, _, v2, by omega, by omega, rfl, h2, h3, h4, by rw [List.length_append, hol]; rfl, by rw [List.map_append, how, List.take_add_one, hgi, List.map_append]; rfl, ⟨by rw [List.length_append, hol]; exact hl4, fun y hy => by
            rcases List.mem_append.1 hy with hy | hy
            · exact hok.2 y hy
            · rw [List.mem_singleton.1 hy]; exact ⟨by show (a.p.take (min a.p.length 300)).length ≤ 300; rw [List.length_take]; omega, h1⟩⟩, h5, rfl⟩
        rcases hat with ⟨rfl, rfl⟩ | ⟨b1, K1, rfl, b2, b3, b4⟩
        all_goals
        repeat' ((conv => lhs; whnf); first | ((with_reducible refine fa0 hO ?_)) | ((with_reducible refine atLd ?_); refine ldC hO aQ (by rfl) ?_) | (((with_reducible refine lsS hO ?_); try simp only [List.length_cons, List.length_nil, Nat.zero_add])) | ((with_reducible refine lvS hO ?_)) | ((with_reducible refine ltT hO (by omega) ?_)) | ((with_reducible refine mnI hO ?_)) | ((with_reducible refine ix0 hO (by omega) ?_)) | ((with_reducible refine ssH hO (by omega) ?_)) | ((with_reducible refine atSt ?_); first | refine stAc hO aQ ?_ | refine stC hO aQ (by kernel_rfl) (fun _ _ _ => rfl) (fun _ => rfl) ?_) | ((with_reducible refine alO hO (by omega) ?_)) | ((with_reducible refine atLn ?_); refine lnAc hO aQ hgi ?_))
        all_goals (conv => lhs; whnf)
        all_goals first
          | refine lpI hO (fun t e n2 m2 => ∃ d, d.length ≤ 9000 ∧ t = 9000 - d.length ∧ n2 = n' + 1 ∧ Kp n' m' m2 ∧ Am m2 n' (.cells [wV a.w, .s (pack (a.p.take (min a.p.length 300))), .s (pack d), .n .u16 a.m] 25 .exact) ∧ e = eof [(2, .o .sl), (3, .o .sl), (4, .n .i64 i)]) ?_ ?_ _ (9000 - (a.d.take (min a.d.length 40)).length) _ _ _ (by omega) ⟨a.d.take (min a.d.length 40), by rw [List.length_take]; omega, by omega, rfl, kQ, am_same (by omega), rfl⟩
          | refine lpI hO (fun t e n2 m2 => ∃ d, d.length ≤ 9000 ∧ t = 9000 - d.length ∧ n2 = n' + 1 ∧ Kp n' m' m2 ∧ Am m2 n' (.cells [wV a.w, .s (pack (a.p.take (min a.p.length 300))), .s (pack d), .n .u16 a.m] 25 .exact) ∧ e = eof [(2, .o .sl), (3, .sl b1 0 out.length K1 false 4), (4, .n .i64 i)]) ?_ ?_ _ (9000 - (a.d.take (min a.d.length 40)).length) _ _ _ (by omega) ⟨a.d.take (min a.d.length 40), by rw [List.length_take]; omega, by omega, rfl, kQ, am_same (by omega), rfl⟩
        all_goals first
          | (rintro t e n' m' ⟨_, _, _, rfl, _⟩; omega)
          | (rintro t e n2 m2 ih2 ⟨d, q1, rfl, rfl, q3, q4, rfl⟩ hih2
             repeat' ((conv => lhs; whnf); first | ((with_reducible refine bsAc hO (by omega) ?_)) | ((with_reducible refine adS hO (by rw [List.length_take]; omega) ?_)) | ((with_reducible refine fa0 hO ?_)) | ((with_reducible refine atLd ?_); refine ldC hO aQ (by rfl) ?_) | (((with_reducible refine lsS hO ?_); try simp only [List.length_cons, List.length_nil, Nat.zero_add])) | ((with_reducible refine ltB hO (fun h => ?_) (fun h => ?_))) | ((with_reducible refine neSB hO (fun h => ?_) (fun h => ?_))) | ((with_reducible refine adI hO (by omega) ?_)) | ((with_reducible refine sbI hO (by omega) (by omega) ?_)) | ((with_reducible refine rmI hO (by omega) ?_)) | ((with_reducible refine cvI hO (by omega) ?_)) | ((with_reducible refine mnI hO ?_)) | ((with_reducible refine ssH hO (by omega) ?_)) | ((with_reducible refine atSt ?_); refine stC hO aQ (by rfl) (fun _ _ _ => rfl) (fun _ => rfl) ?_) | ((with_reducible refine atAp ?_); first | refine apAc hO aQ aQ (fun _ => rfl) (by omega) (by omega) (by rfl) ?_ | refine apAn hO aQ (by omega) ?_) | ((with_reducible refine atLn ?_); refine lnA4 (a := ⟨a.w, a.p.take (min a.p.length 300), d, a.m⟩) hO aQ (by rfl) ?_))
             all_goals (conv => lhs; whnf)
             all_goals first
               | exact hih2 (9000 - (d ++ d.take (min d.length (a.m % 9000 - d.length))).length) _ _ _ (by rw [List.length_append, List.length_take]; have := List.length_pos_iff.2 (by assumption : d ≠ []); omega) ⟨d ++ d.take (min d.length (a.m % 9000 - d.length)), by rw [List.length_append, List.length_take]; omega, rfl, rfl, kQ, am_same (by omega), rfl⟩
               | exact fin d _ _ _ q1 (by omega) (by omega) kQ (.inr ⟨_, _, by rfl, by omega, by omega, am_same (by omega)⟩)
               | exact fin d _ _ _ q1 (by omega) (by omega) kQ (.inr ⟨_, out.length + 1, by rw [List.length_append]; rfl, by omega, by omega, am_same (by omega)⟩))
      · skip
        repeat' ((conv => lhs; whnf); first | ((with_reducible refine lvS hO ?_)) | ((with_reducible refine ltT hO (by omega) ?_)) | ((with_reducible refine ltF hO (by omega) ?_)))
        all_goals (conv => lhs; whnf)
        all_goals first
          | exact hf _ _ _ (by omega) (by omega) (Kq.of kQ _) ⟨out, hok, by omega, by first | rw [how, show i = 40 by omega] | rw [how, List.take_of_length_le (by omega), List.take_of_length_le (by omega)], hat⟩
    · skip
      repeat' ((conv => lhs; whnf); first | ((with_reducible refine lvS hO ?_)) | ((with_reducible refine ltF hO (by omega) ?_)))
      all_goals (conv => lhs; whnf)
      all_goals first
        | exact hf _ _ _ (by omega) (by omega) (Kq.of kQ _) ⟨out, hok, by omega, by first | rw [how, show i = 40 by omega] | rw [how, List.take_of_length_le (by omega), List.take_of_length_le (by omega)], hat⟩
theorem few_l {O : Oz} (hO : O = zO) (Φ : Phi) : FewL (p8 O Φ) := fun {l n m v} hR hm => by
  rcases hR with ⟨rfl, rfl⟩ | ⟨b, Kk, x, e, tl, rfl, hb, ha⟩
  · exact fun k P hn hf => few_nil hO Φ n m k P (hf _ _ _ (Nat.le_refl _) (by omega) (Kq.refl _ _ _) ⟨[], ⟨by decide, fun a ha => absurd ha List.not_mem_nil⟩, rfl, rfl, .inl ⟨rfl, rfl⟩⟩)
  · exact few_l1 hO Φ ha hb hm
end Go.Proofs.YtjoakhpdajlhiaaDoor.V2.S
namespace Go.Proofs.YtjoakhpdajlhiaaDoor.V2.S
open Go
set_option maxRecDepth 100000
set_option maxHeartbeats 4000000
set_option linter.unusedVariables false
attribute [local irreducible] fN fO nM gM pM Phi.fn mp bl bpart bapp top1 pack
inductive Rc : Tr → Prop
  | new : Rc newG
  | write {t : Tr} (path data : Bs) (more : Bool) : Rc t → Rc (writeG t path data more).1
  | make {t : Tr} (path : Bs) : Rc t → Rc (makeG t path).1
  | remove {t : Tr} (path : Bs) : Rc t → Rc (removeG t path).1
  | cd {t : Tr} (path : Bs) : Rc t → Rc (cdG t path).1
def RunR (H : HF) : Prop := ∀ {l : List Ac} {n : Nat} {m : T FObj} {v : FV}, RowA m n v l → (∀ a ∈ l, a.m ≤ 65535) → RetX 40000 [] H [v] n m (fun v n' m' => ∃ tb mb t, v = .p tb 0 ∧ tb ≠ mb ∧ n ≤ tb ∧ tb < n' ∧ n ≤ mb ∧ mb < n' ∧ TreeAt m' tb mb 65 t ∧ WfT t ∧ Rc t)
theorem run_r {O : Oz} (hO : O = zO) (Φ : Phi) (HN : NewS (Phi.fn Φ 26)) (HF : FewL (Phi.fn Φ 8)) (HW : WriteS (Phi.fn Φ 13)) (HM : MakeS (Phi.fn Φ 14)) (HR : RemoveS (Phi.fn Φ 15)) (HC : CdS (Phi.fn Φ 16)) : RunR (p7 O Φ) := fun {l n m v0} hRA hm k P hn hf => by
  repeat' ((conv => lhs; whnf); first | ((with_reducible refine atFn ?_); first | (refine HN _ _ _ _ (by omega) (fun v1 n1 m1 h1 g1 k1 q1 => ?_); obtain ⟨tb, mb, rfl, htm, t1, t2, t3, t4, hT⟩ := q1; have k1p := Kq.kp k1) | (refine HF (hRA.kp k1p h1) hm _ _ (by omega) (fun v2 n2 m2 h2 g2 k2 q2 => ?_); obtain ⟨o, ho, hol0, how0, hat⟩ := q2; have k2p := Kq.kp k2; rcases hat with ⟨rfl, rfl⟩ | ⟨b1, K1, rfl, b2, b3, b4⟩)) | ((with_reducible refine lvS hO ?_)) | ((with_reducible refine lvN hO ?_)))
  all_goals (conv => lhs; whnf)
  all_goals first
    | refine lpI hO (fun q e n' m' => ∃ i t x y, i ≤ o.length ∧ q = o.length - i ∧ n2 ≤ n' ∧ n' ≤ n + 162 + 761 * i ∧ Kp n m m' ∧ Am m' b1 (.cells (acs o) 25 .more) ∧ TreeAt m' tb mb 65 t ∧ (WfT t ∧ Rc t) ∧ e = eof [(2, .o .ptr), (10, .n .i64 i), (16, x), (30, y)]) ?_ ?_ _ o.length _ _ _ (by have := ho.1; omega) ⟨0, newG, .o .top, .o .top, by omega, rfl, by omega, by omega, kQ, b4, hT.kp kQ (by assumption) (by assumption), ⟨newG_wf, .new⟩, rfl⟩
    | refine lpI hO (fun q e n' m' => q = 0 ∧ n' = n2 ∧ m' = m2 ∧ e = eof [(2, .o .ptr), (10, .n .i64 0)]) ?_ ?_ _ 0 _ _ _ (by omega) ⟨rfl, rfl, rfl, rfl⟩
  all_goals first
    | (rintro q e n' m' ⟨_, rfl, _⟩; omega; done)
    | (rintro q e n' m' ⟨i, t, x, y, _, _, h, _⟩; omega; done)
    | skip
  · rintro q e n' m' ih ⟨rfl, rfl, rfl, rfl⟩ hih
    repeat' ((conv => lhs; whnf); first | ((with_reducible refine ltF hO (by omega) ?_)))
    all_goals (conv => lhs; whnf)
    all_goals first
      | exact hf _ _ _ (by omega) (by omega) qQ ⟨tb, mb, newG, rfl, htm, by omega, by omega, by omega, by omega, hT.kp kQ (by assumption) (by assumption), newG_wf, .new⟩
  · have hol := ho.1
    rintro q e n' m' ih ⟨i, t, x9, y9, hi, rfl, g7, g8, hk, ham, hT, ⟨hW, hRc⟩, rfl⟩ hih
    have htb : tb < n' := by omega
    have hmb : mb < n' := by omega
    rcases Nat.lt_or_ge i o.length with hlt | hge
    · obtain ⟨⟨w, p, d, mm⟩, hgi⟩ : ∃ a, o[i]? = some a := ⟨o[i], List.getElem?_eq_getElem hlt⟩
      obtain ⟨hp, hd⟩ : p.length ≤ 300 ∧ d.length ≤ 9000 := ho.2 _ (List.mem_of_getElem? hgi)
      rcases w with x | x
      all_goals
        repeat' ((conv => lhs; whnf); first | ((with_reducible refine atFn ?_); first | refine HW (hT.kp kQ htb hmb) (by omega) (by omega) htm hW _ _ _ (by omega) (by omega) _ _ (by omega) (fun v5 n5 m5 h5 g5 k5 q5 => (fun k5l => ?_) (Kq.low (n := n) k5 (by omega) (by simp only [List.mem_cons, List.not_mem_nil, or_false, forall_eq]; omega))) | refine HM (hT.kp kQ htb hmb) (by omega) (by omega) htm hW _ (by omega) _ _ (by omega) (fun v5 n5 m5 h5 g5 k5 q5 => (fun k5l => ?_) (Kq.low (n := n) k5 (by omega) (by simp only [List.mem_cons, List.not_mem_nil, or_false, forall_eq]; omega))) | refine HR (hT.kp kQ htb hmb) (by omega) (by omega) htm hW _ (by omega) _ _ (by omega) (fun v5 n5 m5 h5 g5 k5 q5 => (fun k5l => ?_) (Kq.low (n := n) k5 (by omega) (by simp only [List.mem_cons, List.not_mem_nil, or_false, forall_eq]; omega))) | refine HC (hT.kp kQ htb hmb) (by omega) (by omega) hW _ (by omega) _ _ (by omega) (fun v5 n5 m5 h5 g5 k5 q5 => (fun k5l => ?_) (Kq.low (n := n) k5 (by omega) (by simp only [List.mem_cons, List.not_mem_nil, or_false, forall_eq]; omega)))) | ((with_reducible refine fa0 hO ?_)) | ((with_reducible refine atLd ?_); refine ldC hO aQ (by rfl) ?_) | ((with_reducible refine ltT hO (by omega) ?_)) | ((with_reducible refine eqT hO (by omega) ?_)) | ((with_reducible refine eqF hO (by omega) ?_)) | ((with_reducible refine eqB hO (fun h => ?_) (fun h => ?_))) | ((with_reducible refine adI hO (by omega) ?_)) | ((with_reducible refine ix0 hO (by omega) ?_)) | ((with_reducible refine atSt ?_); first | refine stAg (r := [.n .i64 x, .s (pack p), .s (pack d), .n .u16 mm]) hO aQ (by rfl) (by rfl) (fun _ => rfl) ?_ | refine stAg (r := [.z .i64 x, .s (pack p), .s (pack d), .n .u16 mm]) hO aQ (by rfl) (by rfl) (fun _ => rfl) ?_) | ((with_reducible refine alO hO (by omega) ?_)) | ((with_reducible refine atLn ?_); refine lnAc hO aQ hgi ?_) | ((with_reducible first | refine umt hO ?_ | refine uqu hO ?_ | refine urm hO ?_ | refine uan hO ?_ | refine uro hO ?_ | refine uxr hO ?_ | refine uhl hO ?_ | refine uhr hO ?_ | refine uad hO ?_ | refine usb hO ?_ | refine ult hO ?_ | refine ule hO ?_ | refine ugt hO ?_ | refine uge hO ?_ | refine ueq hO ?_ | refine une hO ?_ | refine ucv hO ?_ | refine uia hO ?_ | refine usv hO ?_ | refine ubu hO ?_ | refine uap hO ?_ | refine ubs hO ?_ | refine umm hO ?_ | refine upq hO ?_ | refine unq hO ?_ | refine uln hO ?_)))
        all_goals (conv => lhs; whnf)
      all_goals first
        | exact hih (o.length - (i + 1)) _ _ _ (by omega) ⟨i + 1, _, _, _, by omega, rfl, by omega, by omega, kQ, aQ, q5.2, by first | exact ⟨writeG_wf hW _ _ _, .write _ _ _ hRc⟩ | exact ⟨makeG_wf hW _, .make _ hRc⟩ | exact ⟨removeG_wf hW _, .remove _ hRc⟩, rfl⟩
        | exact hih (o.length - (i + 1)) _ _ _ (by omega) ⟨i + 1, _, _, _, by omega, rfl, by omega, by omega, kQ, aQ, q5.2 htm, ⟨cdG_wf hW _, .cd _ hRc⟩, rfl⟩
        | exact hih (o.length - (i + 1)) _ _ _ (by omega) ⟨i + 1, t, _, _, by omega, rfl, by omega, by omega, kQ, aQ, hT.kp kQ htb hmb, ⟨hW, hRc⟩, rfl⟩
    · skip
      repeat' ((conv => lhs; whnf); first | ((with_reducible refine ltF hO (by omega) ?_)))
      all_goals (conv => lhs; whnf)
      all_goals first
        | exact hf _ _ _ (by omega) (by omega) (Kq.of kQ _) ⟨tb, mb, t, rfl, htm, by omega, by omega, by omega, by omega, hT, hW, hRc⟩
end Go.Proofs.YtjoakhpdajlhiaaDoor.V2.S
