/- Part 12 of the proof: texts of the proof. -/
import Derived.Test.YtjoakhpdajlhiaaGreatDoorQY11
namespace Go.Proofs.YtjoakhpdajlhiaaGreatDoor.V2.S
open Go
set_option maxRecDepth 100000
set_option maxHeartbeats 4000000
set_option linter.unusedVariables false
attribute [local irreducible] fN fO nM gM pM Phi.fn mp bl Au Be Bh pack
theorem look_first {p : Bs} : ∀ {L : List En} {i : Nat} {e : En}, L[i]? = some e → e.path = p → (∀ j, j < i → ∀ x, L[j]? = some x → x.path ≠ p) → Av En.path p L = some e
  | [], i, e, h, _, _ => by simp at h
  | a :: L, 0, e, h, hp, _ => by
    simp at h; subst h
    unfold Av; rw [if_pos hp]
  | a :: L, i + 1, e, h, hp, hj => by
    unfold Av
    rw [if_neg (hj 0 (by omega) a rfl)]
    exact look_first (by simpa using h) hp fun j hj2 x hx => hj (j + 1) (by omega) x (by simpa using hx)
theorem look_no {p : Bs} {L : List En} (h : ∀ j, j < L.length → ∀ x, L[j]? = some x → x.path ≠ p) : Av En.path p L = none := look_out fun hm => by
  obtain ⟨x, h1, h2⟩ := List.mem_map.1 hm
  obtain ⟨j, h3⟩ := List.getElem?_of_mem h1
  exact h j (List.getElem?_eq_some_iff.1 h3).1 x h3 h2
def FindR (H : HF) : Prop := ∀ {rb nn n : Nat} {v : FV} {t : Tr} {m : T FObj}, RTree m rb nn v t → t.L.length ≤ 200 → ∀ (p : Bs) (k : KV) (P : FR), (∀ i e, t.L[i]? = some e → Dy t p = some e → k (.n .i64 i) ⟨n, m⟩ = P) → (Dy t p = none → k (.z .i64 0) ⟨n, m⟩ = P) → H [.p rb 0, .s (pack p)] ⟨n, m⟩ k = P
theorem find_r {O : Oz} (hO : O = zO) (Φ : Phi) : FindR (p46 O Φ) := fun {rb nn n v t m} hR hl p k P h1 h0 => by
  obtain ⟨hS, hRw⟩ := hR
  have hlen : t.L.length ≤ 200 := hl
  skip
  all_goals (conv => lhs; whnf)
  refine lpI hO (fun q e n' m' => ∃ i, i ≤ t.L.length ∧ q = t.L.length - i ∧ n' = n ∧ m' = m ∧ (∀ j, j < i → ∀ x, t.L[j]? = some x → x.path ≠ p) ∧ e = eof [(4, .n .i64 0), (5, .n .i64 i)]) ?_ ?_ _ t.L.length _ _ _ (by omega) ⟨0, by omega, by omega, rfl, rfl, fun j hj => absurd hj (Nat.not_lt_zero _), rfl⟩
  · rintro q e n' m' ⟨i, _, _, h, _⟩; omega
  · rintro q e n' m' ih ⟨i, hi, rfl, rfl, rfl, hj, rfl⟩ hih
    rcases Nat.lt_or_ge i t.L.length with hlt | hge
    · obtain ⟨y, hy⟩ : ∃ y, t.L[i]? = some y := ⟨_, List.getElem?_eq_getElem hlt⟩
      rcases hRw with ⟨h00, rfl⟩ | ⟨b, Kb, xb, eb, tlb, rfl, hbn, hbm⟩
      · rw [h00] at hlt; exact absurd hlt (Nat.not_lt_zero _)
      repeat' ((conv => lhs; whnf); first | ((with_reducible refine fa0 hO ?_)) | ((with_reducible refine faN hO ?_)) | ((with_reducible refine Br ?_); first | refine ldC hO hS (by rfl) ?_ | refine ldC hO hbm (In hy) ?_) | ((with_reducible refine lvS hO ?_)) | ((with_reducible refine ltT hO (by omega) ?_)) | ((with_reducible refine Ly hO (fun h => ?_) (fun h => ?_))) | ((with_reducible refine adI hO (by omega) ?_)) | ((with_reducible refine ix0 hO (by omega) ?_)))
      all_goals (conv => lhs; whnf)
      all_goals first
        | exact h1 _ _ hy (look_first hy (by assumption) hj)
        | exact hih (t.L.length - (i + 1)) _ _ _ (by omega) ⟨i + 1, by omega, rfl, rfl, rfl, fun j hj2 x hx => by
            rcases Nat.lt_or_ge j i with h2 | h2
            · exact hj j h2 x hx
            · rw [show j = i by omega, hy] at hx; cases hx; assumption, rfl⟩
    · have hno : Dy t p = none := look_no fun j hj2 x hx => hj j (by omega) x hx
      obtain rfl : i = t.L.length := by omega
      repeat' ((conv => lhs; whnf); first | ((refine lvE hO hRw ?_)) | ((with_reducible refine fa0 hO ?_)) | ((with_reducible refine Br ?_); refine ldC hO hS (by rfl) ?_) | ((with_reducible refine ltF hO (by omega) ?_)))
      all_goals (conv => lhs; whnf)
      all_goals first
        | exact h0 hno
def Ks (H : HF) : Prop := ∀ {rb nn n : Nat} {v : FV} {t : Tr} {m : T FObj}, RTree m rb nn v t → t.L.length ≤ 200 → ∀ p, Eq H [.p rb 0, .s (pack p)] n m (.n .i64 (Al t p))
theorem kind_r {O : Oz} (hO : O = zO) (Φ : Phi) (HF : FindR (Phi.fn Φ 46)) : Ks (p45 O Φ) := fun {rb nn n v t m} hR hl p k P hf => by
  obtain ⟨hS, hRw⟩ := hR
  have hlen : t.L.length ≤ 200 := hl
  repeat' ((conv => lhs; whnf); first | ((with_reducible refine A4 ?_); refine HF ⟨hS, hRw⟩ hlen p _ _ (fun i e hix hlk => ?_) (fun hlk => ?_)) | ((with_reducible refine fa0 hO ?_)) | ((with_reducible refine Br ?_); refine ldC hO hS (by rfl) ?_) | ((with_reducible refine ltF hO (by omega) ?_)) | ((with_reducible refine Ly hO (fun h => ?_) (fun h => ?_))) | ((with_reducible first | refine umt hO ?_ | refine uqu hO ?_ | refine urm hO ?_ | refine uan hO ?_ | refine uro hO ?_ | refine uxr hO ?_ | refine uhl hO ?_ | refine uhr hO ?_ | refine uad hO ?_ | refine usb hO ?_ | refine ult hO ?_ | refine ule hO ?_ | refine ugt hO ?_ | refine uge hO ?_ | refine ueq hO ?_ | refine une hO ?_ | refine ucv hO ?_ | refine uia hO ?_ | refine usv hO ?_ | refine ubu hO ?_ | refine uap hO ?_ | refine ubs hO ?_ | refine umm hO ?_ | refine upq hO ?_ | refine unq hO ?_ | refine uln hO ?_)))
  all_goals (conv => lhs; whnf)
  all_goals first
    | (rw [show Al t p = 1 by unfold Al; rw [if_pos (by assumption)]] at hf; exact hf)
    | (rw [show Al t p = 0 by unfold Al; rw [if_neg (by assumption), hlk]] at hf; exact hf)
    | (rcases hRw with ⟨h00, rfl⟩ | ⟨b, Kb, xb, eb, tlb, rfl, hbn, hbm⟩
       · rw [h00] at hix; cases hix
       · have hil := (List.getElem?_eq_some_iff.1 hix).1
         repeat' ((conv => lhs; whnf); first | ((with_reducible refine faN hO ?_)) | ((with_reducible refine Br ?_); refine ldC hO hbm (ens_at1 hix) ?_) | ((with_reducible refine ix0 hO (by omega) ?_)) | ((with_reducible refine atB ?_); refine brec (fun h => ?_) (fun h => ?_)))
         all_goals (conv => lhs; whnf)
         all_goals first
           | (rw [show Al t p = 1 by unfold Al; rw [if_neg (by assumption), hlk]; exact if_pos (by assumption)] at hf; exact hf)
           | (rw [show Al t p = 2 by unfold Al; rw [if_neg (by assumption), hlk]; exact if_neg (by simp [*])] at hf; exact hf))
def NamedR (H : HF) : Prop := ∀ (s : Bs) (n : Nat) (m : T FObj), s.length ≤ 900000 → Eq H [.s (pack s)] n m (.b (Bg s))
theorem named_r {O : Oz} (hO : O = zO) (Φ : Phi) : NamedR (p52 O Φ) := fun s n m hs k P hf => by
  skip
  all_goals (conv => lhs; whnf)
  refine lpI hO (fun q e n' m' => ∃ i, i ≤ s.length ∧ q = s.length - i ∧ n' = n ∧ m' = m ∧ (∀ j, j < i → odd (bt s j) = false) ∧ e = eof [(2, .b false), (3, .n .i64 i)]) ?_ ?_ _ s.length _ _ _ (by omega) ⟨0, by omega, by omega, rfl, rfl, fun j hj => absurd hj (Nat.not_lt_zero _), rfl⟩
  · rintro q e n' m' ⟨i, _, _, h, _⟩; omega
  · rintro q e n' m' ih ⟨i, hi, rfl, rfl, rfl, hj, rfl⟩ hih
    rcases Nat.lt_or_ge i s.length with hlt | hge
    · have odd_t : ∀ b : Bool, odd (bt s i) = true → b = true → Bg s = false := fun b h _ => by
        unfold Bg; rw [show (s.any fun b => odd b.toNat) = true from any_bt.2 ⟨i, hlt, h⟩]; simp
      repeat' ((conv => lhs; whnf); first | (((with_reducible refine lsS hO ?_); try simp only [List.length_cons, List.length_nil, Nat.zero_add])) | ((with_reducible refine ltT hO (by omega) ?_)) | ((with_reducible refine ltB hO (fun h => ?_) (fun h => ?_))) | ((with_reducible refine eqB hO (fun h => ?_) (fun h => ?_))) | ((with_reducible refine adI hO (by omega) ?_)) | ((with_reducible refine txS hO (by first | omega | decide) ?_)))
      all_goals (conv => lhs; whnf)
      all_goals first
        | (rw [odd_t true (by unfold odd; simp [*]) rfl] at hf; exact hf)
        | exact hih (s.length - (i + 1)) _ _ _ (by omega) ⟨i + 1, by omega, rfl, rfl, rfl, fun j hj2 => by
            rcases Nat.lt_or_ge j i with h2 | h2
            · exact hj j h2
            · rw [show j = i by omega]; unfold odd; simp only [Bool.or_eq_false_iff, decide_eq_false_iff_not]; omega, rfl⟩
    · have hany : (s.any fun b => odd b.toNat) = false := any_bt_f fun j hj2 => hj j (by omega)
      obtain rfl : i = s.length := by omega
      repeat' ((conv => lhs; whnf); first | (((with_reducible refine lsS hO ?_); try simp only [List.length_cons, List.length_nil, Nat.zero_add])) | ((with_reducible refine ltF hO (by omega) ?_)) | ((with_reducible refine leB hO (fun h => ?_) (fun h => ?_))) | ((with_reducible refine geB hO (fun h => ?_) (fun h => ?_))) | ((with_reducible refine neSB hO (fun h => ?_) (fun h => ?_))))
      all_goals (conv => lhs; whnf)
      all_goals first
        | (rw [show Bg s = true by unfold Bg; rw [hany]; have hne : s ≠ [] := (fun h => by have h2 := congrArg List.length h; rw [List.length_nil] at h2; omega); simp [*]] at hf; exact hf)
        | (have e : ¬ s.length ≤ 32 := by omega
           rw [show Bg s = false by unfold Bg; simp [e]] at hf; exact hf)
        | (have e : s = [] := List.length_eq_zero_iff.1 (by omega)
           rw [show Bg s = false by unfold Bg; simp [e]] at hf; exact hf)
        | (rw [show Bg s = false by unfold Bg; simp [*]] at hf; exact hf)
def ParR (H : HF) : Prop := ∀ (p : Bs) (n : Nat) (m : T FObj), p.head? = some 47 → p.length ≤ 900000 → Eq H [.s (pack p)] n m (.s (pack (C9 p)))
theorem par_r {O : Oz} (hO : O = zO) (Φ : Phi) : ParR (p49 O Φ) := fun p n m hh hl k P hf => by
  have hp : 1 ≤ p.length := by cases p with | nil => cases hh | cons c l => exact Nat.succ_le_succ (Nat.zero_le _)
  have hb0 : bt p 0 = 47 := by cases p with | nil => cases hh | cons c l => simp at hh; subst hh; rfl
  have ht1 : p.take 1 = [47] := by cases p with | nil => cases hh | cons c l => simp at hh; subst hh; rfl
  repeat' ((conv => lhs; whnf); first | (((with_reducible refine lsS hO ?_); try simp only [List.length_cons, List.length_nil, Nat.zero_add])) | ((with_reducible refine sbI hO (by omega) (by omega) ?_)))
  all_goals (conv => lhs; whnf)
  refine lpI hO (fun q e n' m' => q < p.length ∧ n' = n ∧ m' = m ∧ (∀ j, q < j → j < p.length → bt p j ≠ 47) ∧ e = eof [(2, .s (pack [])), (3, .n .i64 q)]) ?_ ?_ _ (p.length - 1) _ _ _ (by omega) ⟨by omega, rfl, rfl, fun j h1 h2 => by omega, rfl⟩
  · rintro q e n' m' ⟨_, h, _⟩; omega
  · rintro q e n' m' ih ⟨hq, rfl, rfl, hj, rfl⟩ hih
    have hqp : ∀ z, q = z → C9 p = p.take (max z 1) ∨ bt p q ≠ 47 := fun z hz => by
      subst hz
      by_cases h : bt p q = 47
      · refine .inl ?_
        unfold C9; rw [Jj hq h hj, Nat.add_sub_cancel]
      · exact .inr h
    repeat' ((conv => lhs; whnf); first | ((with_reducible refine gtB hO (fun h => ?_) (fun h => ?_))) | ((with_reducible refine eqT hO (by omega) ?_)) | ((with_reducible refine eqF hO (by omega) ?_)) | ((with_reducible refine neB hO (fun h => ?_) (fun h => ?_))) | ((with_reducible refine sbI hO (by omega) (by omega) ?_)) | ((with_reducible refine txS hO (by first | omega | decide) ?_)) | ((with_reducible refine ssH hO (by omega) ?_)))
    all_goals (conv => lhs; whnf)
    all_goals first
      | exact hih (q - 1) _ _ _ (by omega) ⟨by omega, rfl, rfl, fun j h1 h2 => by
          rcases Nat.lt_or_ge q j with h3 | h3
          · exact hj j h3 h2
          · rw [show j = q by omega]; assumption, rfl⟩
      | (obtain rfl : q = 0 := by omega
         rw [(hqp 0 rfl).resolve_right (by simpa using hb0), show max 0 1 = 1 from rfl, ht1] at hf; exact hf)
      | (rw [(hqp q rfl).resolve_right (by omega), show max q 1 = q by omega] at hf; exact hf)
def NewR (H : HF) : Prop := ∀ (n : Nat) (m : T FObj) (k : KV) (P : FR), n + 1 ≤ 1000000 → (∀ m', Kp n m m' → Am m' n (.cells [.o .sl, .s (pack [47])] 42 .exact) → k (.p n 0) ⟨n + 1, m'⟩ = P) → H [] ⟨n, m⟩ k = P
theorem new_r {O : Oz} (hO : O = zO) (Φ : Phi) : NewR (p5 O Φ) := fun n m k P hn hf => by
  repeat' ((conv => lhs; whnf); first | ((with_reducible refine atBx ?_); refine bxA hO (by omega) (by simp only [αL, αV, Nl.av, AObj.of, βO, βL, βV, As]) ?_) | ((with_reducible first | refine umt hO ?_ | refine uqu hO ?_ | refine urm hO ?_ | refine uan hO ?_ | refine uro hO ?_ | refine uxr hO ?_ | refine uhl hO ?_ | refine uhr hO ?_ | refine uad hO ?_ | refine usb hO ?_ | refine ult hO ?_ | refine ule hO ?_ | refine ugt hO ?_ | refine uge hO ?_ | refine ueq hO ?_ | refine une hO ?_ | refine ucv hO ?_ | refine uia hO ?_ | refine usv hO ?_ | refine ubu hO ?_ | refine uap hO ?_ | refine ubs hO ?_ | refine umm hO ?_ | refine upq hO ?_ | refine unq hO ?_ | refine uln hO ?_)))
  all_goals (conv => lhs; whnf)
  all_goals first
    | exact hf _ kQ (Ap (by omega))
def UsedR (H : HF) : Prop := ∀ {rb nn n : Nat} {v : FV} {t : Tr} {m : T FObj}, RTree m rb nn v t → t.L.length ≤ 200 → At t.L ≤ 900000000 → Eq H [.p rb 0] n m (.tup [.n .i64 t.L.length, .n .i64 (At t.L)])
theorem used_r {O : Oz} (hO : O = zO) (Φ : Phi) : UsedR (p34 O Φ) := fun {rb nn n v t m} hR hl hsz k P hf => by
  obtain ⟨hS, hRw⟩ := hR
  have hlen : t.L.length ≤ 200 := hl
  skip
  all_goals (conv => lhs; whnf)
  refine lpI hO (fun q e n' m' => ∃ i, i ≤ t.L.length ∧ q = t.L.length - i ∧ n' = n ∧ m' = m ∧ e = eof [(2, .n .i64 0), (3, .n .i64 0), (4, .n .i64 (At (t.L.take i))), (5, .n .i64 i)]) ?_ ?_ _ t.L.length _ _ _ (by omega) ⟨0, by omega, by omega, rfl, rfl, rfl⟩
  · rintro q e n' m' ⟨i, _, _, h, _⟩; omega
  · rintro q e n' m' ih ⟨i, hi, rfl, rfl, rfl, rfl⟩ hih
    rcases Nat.lt_or_ge i t.L.length with hlt | hge
    · obtain ⟨y, hy⟩ : ∃ y, t.L[i]? = some y := ⟨_, List.getElem?_eq_getElem hlt⟩
      have hs1 := Fl hy
      have hs2 := D2 t.L (i + 1)
      rcases hRw with ⟨h00, rfl⟩ | ⟨b, Kb, xb, eb, tlb, rfl, hbn, hbm⟩
      · rw [h00] at hlt; exact absurd hlt (Nat.not_lt_zero _)
      repeat' ((conv => lhs; whnf); first | ((with_reducible refine fa0 hO ?_)) | ((with_reducible refine faN hO ?_)) | ((with_reducible refine Br ?_); first | refine ldC hO hS (by rfl) ?_ | refine ldC hO hbm (In hy) ?_ | refine ldC hO hbm (M4 hy) ?_) | (((with_reducible refine lsS hO ?_); try simp only [List.length_cons, List.length_nil, Nat.zero_add])) | ((with_reducible refine lvS hO ?_)) | ((with_reducible refine ltT hO (by omega) ?_)) | ((with_reducible refine adI hO (by omega) ?_)) | ((with_reducible refine ix0 hO (by omega) ?_)))
      all_goals (conv => lhs; whnf)
      all_goals first
        | (rw [Nat.add_assoc, ← hs1]; exact hih (t.L.length - (i + 1)) _ _ _ (by omega) ⟨i + 1, by omega, rfl, rfl, rfl, rfl⟩)
    · obtain rfl : i = t.L.length := by omega
      repeat' ((conv => lhs; whnf); first | ((refine lvE hO hRw ?_)) | ((with_reducible refine fa0 hO ?_)) | ((with_reducible refine Br ?_); refine ldC hO hS (by rfl) ?_) | ((with_reducible refine ltF hO (by omega) ?_)))
      all_goals (conv => lhs; whnf)
      all_goals first
        | (rw [List.take_length]; exact hf)
def ToldR (H : HF) : Prop := ∀ (s : Bs) (n : Nat) (m : T FObj), s.length ≤ 65535 → Iv 2 [] H [.s (pack s)] n m (fun v n' m' => ∃ b x tl, v = .sl b 0 (2 + s.length) (2 + s.length) x 1 ∧ n ≤ b ∧ b < n' ∧ Am m' b (.bs (pack (Es s)) 5 tl) ∧ (s ≠ [] → x = false ∧ tl = .more))
theorem told_r {O : Oz} (hO : O = zO) (Φ : Phi) : ToldR (p55 O Φ) := fun s n m hs k P hn hf => by
  have e2 : s.length % 256 % 256 = s.length % 256 := Nat.mod_mod _ _
  by_cases h0 : s = []
  · subst h0
    repeat' ((conv => lhs; whnf); first | ((with_reducible refine cvW hO ?_)) | ((with_reducible refine bs2 hO (by omega) (by omega) (by omega) ?_)) | (((with_reducible refine lsS hO ?_); try simp only [List.length_cons, List.length_nil, Nat.zero_add])) | ((with_reducible refine rmI hO (by omega) ?_)) | ((with_reducible refine quI hO (by omega) (by omega) ?_)) | ((with_reducible refine Ms ?_); refine apS0 hO ?_))
    all_goals (conv => lhs; whnf)
    all_goals first
      | exact hf _ _ _ (by omega) (by omega) qQ ⟨n, true, .exact, rfl, by omega, by omega, Ap (by omega), fun h => absurd rfl h⟩
  · have hp := List.length_pos_iff.2 h0
    repeat' ((conv => lhs; whnf); first | ((with_reducible refine cvW hO ?_)) | ((with_reducible refine bs2 hO (by omega) (by omega) (by omega) ?_; try rw [e2])) | (((with_reducible refine lsS hO ?_); try simp only [List.length_cons, List.length_nil, Nat.zero_add])) | ((with_reducible refine rmI hO (by omega) ?_)) | ((with_reducible refine quI hO (by omega) (by omega) ?_)) | ((with_reducible refine Ms ?_); refine apXS hO (Ap (by omega)) (by show 2 ≤ 2; omega) rfl hp (by omega) (by omega) ?_))
    all_goals (conv => lhs; whnf)
    all_goals first
      | exact hf _ _ _ (by omega) (by omega) qQ ⟨_, false, .more, rfl, by omega, by omega, Ap (by omega), fun _ => ⟨rfl, rfl⟩⟩
end Go.Proofs.YtjoakhpdajlhiaaGreatDoor.V2.S
namespace Go.Proofs.YtjoakhpdajlhiaaGreatDoor.V2.S
open Go
set_option maxRecDepth 100000
set_option maxHeartbeats 4000000
set_option linter.unusedVariables false
attribute [local irreducible] fN fO nM gM pM Phi.fn mp bl Au Be Bh pack
theorem bt_drop (l : Bs) (o j : Nat) : bt (l.drop o) j = bt l (o + j) := by
  unfold bt
  rw [List.getD_eq_getElem?_getD, List.getD_eq_getElem?_getD, List.getElem?_drop]
theorem bt_take {l : Bs} {n j : Nat} (h : j < n) : bt (l.take n) j = bt l j := by
  unfold bt
  rw [List.getD_eq_getElem?_getD, List.getD_eq_getElem?_getD, List.getElem?_take_of_lt h]
theorem splitB_no : ∀ {a : Bs}, (∀ j, j < a.length → bt a j ≠ 47) → Ak a = [a]
  | [], _ => rfl
  | c :: l, h => by
    have h0 : c ≠ 47 := fun e => h 0 (by simp) (by subst e; rfl)
    rw [Ak, if_neg h0, splitB_no fun j hj => by
      have := h (j + 1) (by simpa using hj)
      rwa [Kl] at this]
theorem split_part {path : Bs} {fr i : Nat} (h1 : fr ≤ i) (h2 : i ≤ path.length) (hj : ∀ j, fr ≤ j → j < i → bt path j ≠ 47) : ((path.drop fr).take (i - fr)).length = i - fr ∧ (i = path.length → Ak (path.drop fr) = [(path.drop fr).take (i - fr)]) ∧ (i < path.length → bt path i = 47 → Ak (path.drop fr) = (path.drop fr).take (i - fr) :: Ak (path.drop (i + 1))) := by
  have hno : Ak ((path.drop fr).take (i - fr)) = [(path.drop fr).take (i - fr)] := splitB_no fun j h => by
    rw [List.length_take, List.length_drop] at h
    rw [bt_take (by omega), bt_drop]
    exact hj _ (by omega) (by omega)
  refine ⟨by rw [List.length_take, List.length_drop]; omega, fun h => ?_, fun h hb => ?_⟩
  · have e : (path.drop fr).take (i - fr) = path.drop fr := List.take_of_length_le (by rw [List.length_drop]; omega)
    rw [e] at hno ⊢; exact hno
  · have e : path.drop fr = (path.drop fr).take (i - fr) ++ 47 :: path.drop (i + 1) := by
      have e1 : (path.drop fr).drop (i - fr) = path.drop i := by rw [List.drop_drop]; congr 1; omega
      have e2 : path.drop i = path[i] :: path.drop (i + 1) := List.drop_eq_getElem_cons h
      have e3 : path[i] = 47 := by
        unfold bt at hb
        rw [List.getD_eq_getElem?_getD, List.getElem?_eq_getElem h, Option.getD_some] at hb
        exact UInt8.toNat_inj.1 hb
      rw [← e3, ← e2, ← e1, List.take_append_drop]
    rw [e, Gk, hno, List.singleton_append, ← e]
theorem nameB_len {s : Bs} (h : Bg s = true) : s.length ≤ 32 := by
  unfold Bg at h
  simp only [Bool.and_eq_true, decide_eq_true_eq] at h
  exact h.1.2
theorem sc_c {t : Tr} {a q : Bs} (h : q = [] ∨ q = [46]) : Bb t a q = .inr a := by unfold Bb; rw [if_pos h]
theorem sc_23 {t : Tr} {a q : Bs} (h1 : q ≠ []) (h2 : q ≠ [46]) (h3 : q ≠ [46, 46]) (h4 : Bg q = false) : Bb t a q = .inl 23 := by
  unfold Bb; rw [if_neg (fun h => h.elim h1 h2), if_pos ⟨h3, h4⟩]
theorem sc_6 {t : Tr} {a q : Bs} (h1 : q ≠ []) (h2 : q ≠ [46]) (h3 : q = [46, 46] ∨ Bg q = true) (hk : Al t a = 0) : Bb t a q = .inl 6 := by
  unfold Bb; rw [if_neg (fun h => h.elim h1 h2), if_neg (fun h => h3.elim h.1 (fun h4 => by rw [h.2] at h4; cases h4)), if_pos hk]
theorem sc_5 {t : Tr} {a q : Bs} (h1 : q ≠ []) (h2 : q ≠ [46]) (h3 : q = [46, 46] ∨ Bg q = true) (hk : Al t a = 2) : Bb t a q = .inl 5 := by
  unfold Bb; rw [if_neg (fun h => h.elim h1 h2), if_neg (fun h => h3.elim h.1 (fun h4 => by rw [h.2] at h4; cases h4)), if_neg (by omega), if_pos hk]
theorem sc_u {t : Tr} {a q : Bs} (h3 : q = [46, 46]) (hk : Al t a ≠ 0) (hk2 : Al t a ≠ 2) : Bb t a q = .inr (C9 a) := by
  unfold Bb; subst h3; rw [if_neg (by decide), if_neg (by decide), if_neg hk, if_neg hk2, if_pos rfl]
theorem sc_j {t : Tr} {a q : Bs} (h1 : q ≠ []) (h2 : q ≠ [46]) (h3 : q ≠ [46, 46]) (h4 : Bg q = true) (hk : Al t a ≠ 0) (hk2 : Al t a ≠ 2) : Bb t a q = .inr (Bt a q) := by
  unfold Bb; rw [if_neg (fun h => h.elim h1 h2), if_neg (fun h => by rw [h.2] at h4; cases h4), if_neg hk, if_neg hk2, if_neg h3]
theorem join_st {t : Tr} {a : Bs} {ns : List Bs} (hs : St t a ns) (h : a ≠ [47]) (q : Bs) : Bt a q = (a ++ [47]) ++ q := by
  obtain ⟨hg, rfl, _⟩ := hs
  have hn : ns ≠ [] := fun e => by subst e; exact h rfl
  rw [Ga hg, C6]
  unfold Ck
  rw [if_neg hn, List.append_assoc]; rfl
theorem st_head {t : Tr} {a : Bs} {ns : List Bs} (hs : St t a ns) : a.head? = some 47 := by
  obtain ⟨hg, rfl, _⟩ := hs
  unfold Ck
  split
  · rfl
  · cases ns with
    | nil => exact absurd rfl (by assumption)
    | cons x l => rfl
def at0 (t : Tr) (path : Bs) : Bs := if Cq path [47] then [47] else t.cwd
theorem at0_s {t : Tr} {path : Bs} (h : bt path 0 = 47) (hl : 1 ≤ path.length) : at0 t path = [47] := by
  unfold at0
  rw [if_pos]
  unfold Cq
  cases path with
  | nil => simp at hl
  | cons c l =>
    have h : c.toNat = 47 := h
    have : c = 47 := UInt8.toNat_inj.1 h
    subst this; simp
theorem at0_c {t : Tr} {path : Bs} (h : bt path 0 ≠ 47) (hl : 1 ≤ path.length) : at0 t path = t.cwd := by
  unfold at0
  rw [if_neg]
  unfold Cq
  cases path with
  | nil => simp at hl
  | cons c l =>
    have h : c.toNat ≠ 47 := h
    have : c ≠ 47 := fun e => h (by subst e; rfl)
    simp [this]
theorem abs_bad {t : Tr} {path : Bs} (h : path.length < 1 ∨ 256 < path.length) : Ae t path = ([], 23) := by
  unfold Ae
  rw [if_pos]
  rcases h with h | h
  · exact .inl (List.length_eq_zero_iff.1 (by omega))
  · exact .inr h
theorem abs_inl {t : Tr} {path : Bs} {e : Nat} (h1 : 1 ≤ path.length) (h2 : path.length ≤ 256) (h : A3 t (at0 t path) (Ak path) = .inl e) : Ae t path = ([], e) := by
  unfold Ae
  rw [if_neg (fun h => h.elim (fun h => by rw [h] at h1; simp at h1) (fun h => by omega))]
  show (match A3 t (at0 t path) (Ak path) with | .inl e => _ | .inr a => _) = _
  rw [h]
theorem abs_inr {t : Tr} {path a : Bs} (h1 : 1 ≤ path.length) (h2 : path.length ≤ 256) (h : A3 t (at0 t path) (Ak path) = .inr a) : Ae t path = (a, 0) := by
  unfold Ae
  rw [if_neg (fun h => h.elim (fun h => by rw [h] at h1; simp at h1) (fun h => by omega))]
  show (match A3 t (at0 t path) (Ak path) with | .inl e => _ | .inr a => _) = _
  rw [h]
def AbsR (H : HF) : Prop := ∀ {rb nn n : Nat} {v : FV} {t : Tr} {m : T FObj}, RTree m rb nn v t → t.L.length ≤ 200 → (∃ ns, St t t.cwd ns) → t.cwd.length ≤ 256 → ∀ (path : Bs), path.length ≤ 900000 → Eq H [.p rb 0, .s (pack path)] n m (.tup [.s (pack (Ae t path).1), .n .i64 (Ae t path).2])
theorem abs_r {O : Oz} (hO : O = zO) (Φ : Phi) (HN : NamedR (Phi.fn Φ 52)) (HK : Ks (Phi.fn Φ 45)) (HP : ParR (Phi.fn Φ 49)) : AbsR (p32 O Φ) := fun {rb nn n v t m} hR hl hcw hc2 path hpl k P hf => by
  have hS := hR.s
  obtain ⟨cns, hcs⟩ := hcw
  by_cases hb : path.length < 1 ∨ 256 < path.length
  · have hab := abs_bad (t := t) hb
    rw [hab] at hf
    repeat' ((conv => lhs; whnf); first | (((with_reducible refine lsS hO ?_); try simp only [List.length_cons, List.length_nil, Nat.zero_add])) | ((with_reducible refine ltB hO (fun h => ?_) (fun h => ?_))) | ((with_reducible refine gtT hO (by omega) ?_)))
    all_goals (conv => lhs; whnf)
    all_goals first
      | exact hf
      | (exfalso; omega)
  have hp1 : 1 ≤ path.length := by omega
  have hp2 : path.length ≤ 256 := by omega
  have hinl := fun {e} => abs_inl (t := t) (path := path) (e := e) hp1 hp2
  have hinr := fun {a} => abs_inr (t := t) (path := path) (a := a) hp1 hp2
  have hsr : St t [47] [] := ⟨fun x hx => absurd hx List.not_mem_nil, rfl, fun j hj => absurd hj (Nat.not_lt_zero _)⟩
  by_cases h47 : bt path 0 = 47
  all_goals
    have hat : at0 t path = [47] ∧ bt path 0 = 47 ∨ at0 t path = t.cwd ∧ bt path 0 ≠ 47 := by
      by_cases h : bt path 0 = 47
      · exact .inl ⟨at0_s h hp1, h⟩
      · exact .inr ⟨at0_c h hp1, h⟩
    repeat' ((conv => lhs; whnf); first | ((with_reducible refine fa0 hO ?_)) | ((with_reducible refine Br ?_); refine ldC hO hS (by rfl) ?_) | (((with_reducible refine lsS hO ?_); try simp only [List.length_cons, List.length_nil, Nat.zero_add])) | ((with_reducible refine ltF hO (by omega) ?_)) | ((with_reducible refine gtF hO (by omega) ?_)) | ((with_reducible refine eqT hO (by omega) ?_)) | ((with_reducible refine eqF hO (by omega) ?_)) | ((with_reducible refine txS hO (by first | omega | decide) ?_)))
    all_goals (conv => lhs; whnf)
    all_goals first
      | refine lpI hO (fun q e n' m' => ∃ i fr a ns, i ≤ path.length + 1 ∧ q = path.length + 1 - i ∧ fr ≤ i ∧ n' = n ∧ m' = m ∧ (∀ j, fr ≤ j → j < i → bt path j ≠ 47) ∧ (i = path.length + 1 → fr = i) ∧ (fr ≤ path.length → A3 t (at0 t path) (Ak path) = A3 t a (Ak (path.drop fr))) ∧ (fr = path.length + 1 → A3 t (at0 t path) (Ak path) = .inr a) ∧ St t a ns ∧ a.length ≤ 256 + 33 * fr ∧ e = eof [(4, .s (pack [])), (5, .n .i64 0), (6, .s (pack a)), (7, .n .i64 fr), (8, .n .i64 i)]) ?_ ?_ _ (path.length + 1) _ _ _ (by omega) ⟨0, 0, [47], [], by omega, rfl, Nat.le_refl _, rfl, rfl, fun j h1 h2 => by omega, fun h => by omega, fun _ => by rw [List.drop_zero, (hat.resolve_right (fun h => h.2 h47)).1], fun h => by omega, hsr, by decide, rfl⟩
      | refine lpI hO (fun q e n' m' => ∃ i fr a ns, i ≤ path.length + 1 ∧ q = path.length + 1 - i ∧ fr ≤ i ∧ n' = n ∧ m' = m ∧ (∀ j, fr ≤ j → j < i → bt path j ≠ 47) ∧ (i = path.length + 1 → fr = i) ∧ (fr ≤ path.length → A3 t (at0 t path) (Ak path) = A3 t a (Ak (path.drop fr))) ∧ (fr = path.length + 1 → A3 t (at0 t path) (Ak path) = .inr a) ∧ St t a ns ∧ a.length ≤ 256 + 33 * fr ∧ e = eof [(4, .s (pack [])), (5, .n .i64 0), (6, .s (pack a)), (7, .n .i64 fr), (8, .n .i64 i)]) ?_ ?_ _ (path.length + 1) _ _ _ (by omega) ⟨0, 0, t.cwd, cns, by omega, rfl, Nat.le_refl _, rfl, rfl, fun j h1 h2 => by omega, fun h => by omega, fun _ => by rw [List.drop_zero, (hat.resolve_left (fun h => h47 h.2)).1], fun h => by omega, hcs, by omega, rfl⟩
      | (exfalso; omega)
  all_goals first
    | (rintro q e n' m' ⟨i, fr, a, ns, _, _, _, h, _⟩; omega)
    | (rintro q e n' m' ih ⟨i, fr, a, ns, hi, rfl, hfi, rfl, rfl, hj, hend, hl1, hl2, hs, hal, rfl⟩ hih
       rcases Nat.lt_or_ge path.length i with hlt | hge
       · have hfe := hend (by omega)
         have hr := hinr (hl2 (by omega))
         repeat' ((conv => lhs; whnf); first | (((with_reducible refine lsS hO ?_); try simp only [List.length_cons, List.length_nil, Nat.zero_add])) | ((with_reducible refine leF hO (by omega) ?_)))
         all_goals (conv => lhs; whnf)
         all_goals first
           | (rw [hr] at hf; exact hf)
       · by_cases hsl : i < path.length ∧ bt path i ≠ 47
         · obtain ⟨hs1, hs2⟩ := hsl
           repeat' ((conv => lhs; whnf); first | (((with_reducible refine lsS hO ?_); try simp only [List.length_cons, List.length_nil, Nat.zero_add])) | ((with_reducible refine ltT hO (by omega) ?_)) | ((with_reducible refine leT hO (by omega) ?_)) | ((with_reducible refine neT hO (by omega) ?_)) | ((with_reducible refine adI hO (by omega) ?_)) | ((with_reducible refine txS hO (by first | omega | decide) ?_)))
           all_goals (conv => lhs; whnf)
           all_goals first
             | exact hih (path.length + 1 - (i + 1)) _ _ _ (by omega) ⟨i + 1, fr, a, ns, by omega, rfl, by omega, rfl, rfl, fun j h1 h2 => by
                 rcases Nat.lt_or_ge j i with h3 | h3
                 · exact hj j h1 h3
                 · rw [show j = i by omega]; exact hs2, fun h => by omega, hl1, hl2, hs, hal, rfl⟩
         · obtain ⟨hq1, hq2, hq3⟩ := split_part hfi hge hj
           have hs47 : i < path.length → bt path i = 47 := fun h => Decidable.byContradiction fun h2 => hsl ⟨h, h2⟩
           generalize hqq : (path.drop fr).take (i - fr) = q at hq1 hq2 hq3
           have hL : ∀ r, A3 t (at0 t path) (Ak path) = r ↔ A3 t a (Ak (path.drop fr)) = r := fun r => by rw [hl1 (by omega)]
           have hbd : ∀ e, Bb t a q = .inl e → A3 t (at0 t path) (Ak path) = .inl e := fun e he => by
             rw [hL]
             rcases Nat.lt_or_ge i path.length with h | h
             · rw [hq3 h (hs47 h)]; unfold A3; rw [he]
             · rw [hq2 (by omega)]; unfold A3; rw [he]
           have hnx : ∀ b, Bb t a q = .inr b → (i + 1 ≤ path.length → A3 t (at0 t path) (Ak path) = A3 t b (Ak (path.drop (i + 1)))) ∧ (i + 1 = path.length + 1 → A3 t (at0 t path) (Ak path) = .inr b) := fun b he => by
             refine ⟨fun h => ?_, fun h => ?_⟩
             · rw [hL, hq3 (by omega) (hs47 (by omega)), E9 he]
             · rw [hL, hq2 (by omega), E9 he]; rfl
           have hkle := J9 t a
           have hah := st_head hs
           have hpar := Mz a
           repeat' ((conv => lhs; whnf); first | ((with_reducible refine ssB hO (by omega) (by omega) ?_; rw [hqq])) | ((with_reducible refine adS hO (by simp only [List.length_append, List.length_cons, List.length_nil]; omega) ?_)) | ((with_reducible refine A4 ?_); first | (refine HN q _ _ (by omega) _ _ ?_; rcases hnb : Bg q with _ | _) | refine HK hR hl a _ _ ?_ | refine HP a _ _ hah (by omega) _ _ ?_) | (((with_reducible refine lsS hO ?_); try simp only [List.length_cons, List.length_nil, Nat.zero_add])) | ((with_reducible refine ltB hO (fun h => ?_) (fun h => ?_))) | ((with_reducible refine leT hO (by omega) ?_)) | ((with_reducible refine eqB hO (fun h => ?_) (fun h => ?_))) | ((with_reducible refine neF hO (by omega) ?_)) | ((with_reducible refine eqST hO (by first | rfl | assumption) ?_)) | ((with_reducible refine eqSF hO (by first | assumption | decide) ?_)) | ((with_reducible refine Ly hO (fun h => ?_) (fun h => ?_))) | ((with_reducible refine neSB hO (fun h => ?_) (fun h => ?_))) | ((with_reducible refine adI hO (by omega) ?_)) | ((with_reducible refine txS hO (by first | omega | decide) ?_)))
           all_goals (conv => lhs; whnf)
           all_goals first
             | exact hih (path.length + 1 - (i + 1)) _ _ _ (by omega) ⟨i + 1, i + 1, a, _, by omega, rfl, Nat.le_refl _, rfl, rfl, fun j h1 h2 => by omega, fun h => rfl, fun h => (hnx _ (sc_c (by first | exact .inl (by assumption) | exact .inr (by assumption)))).1 h, fun h => (hnx _ (sc_c (by first | exact .inl (by assumption) | exact .inr (by assumption)))).2 h, (Ju hs (sc_c (by first | exact .inl (by assumption) | exact .inr (by assumption)))).choose_spec, by omega, rfl⟩
             | (rw [hinl (hbd 23 (sc_23 (by assumption) (by assumption) (by assumption) (by assumption)))] at hf; exact hf)
             | (rw [hinl (hbd 6 (sc_6 (by assumption) (by assumption) (by first | exact .inl (by assumption) | exact .inr (by assumption)) (by assumption)))] at hf; exact hf)
             | (rw [hinl (hbd 5 (sc_5 (by assumption) (by assumption) (by first | exact .inl (by assumption) | exact .inr (by assumption)) (by assumption)))] at hf; exact hf)
             | exact hih (path.length + 1 - (i + 1)) _ _ _ (by omega) ⟨i + 1, i + 1, C9 a, _, by omega, rfl, Nat.le_refl _, rfl, rfl, fun j h1 h2 => by omega, fun h => rfl, fun h => (hnx _ (sc_u (by assumption) (by omega) (by omega))).1 h, fun h => (hnx _ (sc_u (by assumption) (by omega) (by omega))).2 h, (Ju hs (sc_u (by assumption) (by omega) (by omega))).choose_spec, by omega, rfl⟩
             | (have hjn : Bt a q = [47] ++ q := (by rw [show a = [47] by assumption]; rfl)
                have hst : Bb t a q = .inr ([47] ++ q) := (sc_j (by assumption) (by assumption) (by assumption) (by assumption) (by omega) (by omega)).trans (congrArg _ hjn)
                have hq32 := nameB_len (show Bg q = true by assumption)
                exact hih (path.length + 1 - (i + 1)) _ _ _ (by omega) ⟨i + 1, i + 1, [47] ++ q, _, by omega, rfl, Nat.le_refl _, rfl, rfl, fun j h1 h2 => by omega, fun h => rfl, fun h => (hnx _ hst).1 h, fun h => (hnx _ hst).2 h, (Ju hs hst).choose_spec, by rw [List.length_append, List.length_singleton]; omega, rfl⟩)
             | (have hjn : Bt a q = (a ++ [47]) ++ q := join_st hs (by assumption) q
                have hst : Bb t a q = .inr ((a ++ [47]) ++ q) := (sc_j (by assumption) (by assumption) (by assumption) (by assumption) (by omega) (by omega)).trans (congrArg _ hjn)
                have hq32 := nameB_len (show Bg q = true by assumption)
                exact hih (path.length + 1 - (i + 1)) _ _ _ (by omega) ⟨i + 1, i + 1, (a ++ [47]) ++ q, _, by omega, rfl, Nat.le_refl _, rfl, rfl, fun j h1 h2 => by omega, fun h => rfl, fun h => (hnx _ hst).1 h, fun h => (hnx _ hst).2 h, (Ju hs hst).choose_spec, by rw [List.length_append, List.length_append, List.length_singleton]; omega, rfl⟩))
end Go.Proofs.YtjoakhpdajlhiaaGreatDoor.V2.S
namespace Go.Proofs.YtjoakhpdajlhiaaGreatDoor.V2.S
open Go
set_option maxRecDepth 100000
set_option linter.unusedVariables false
/-! The reference's put, in plain words. -/
theorem lookS {L : List En} (hn : (L.map En.path).Nodup) (p : Bs) : Av En.path p (A2 L) = Av En.path p L := by
  have hn2 : ((A2 L).map En.path).Nodup := ((A0 L).map _).nodup_iff.2 hn
  cases h : Av En.path p L with
  | some e =>
    have h1 := (A0 L).mem_iff.2 (Gs h)
    have h2 := (B2 h).2
    rw [← h2]; exact Hq hn2 h1
  | none =>
    cases h2 : Av En.path p (A2 L) with
    | none => rfl
    | some e =>
      have h3 := (A0 L).mem_iff.1 (Gs h2)
      have h4 := (B2 h2).2
      rw [← h4, Hq hn h3] at h; cases h
theorem srt_nd {C : List En} (hC : (C.map En.path).Pairwise (· < ·)) : (C.map En.path).Nodup := hC.imp fun h e => by subst e; exact List.lt_irrefl _ h
theorem srt_nd2 {C : List En} (hC : (C.map En.path).Nodup) : C.Nodup := (List.pairwise_map.1 hC).imp fun h e => h (by rw [e])
theorem srt_ext {A B : List En} (hA : (A.map En.path).Pairwise (· < ·)) (hB : (B.map En.path).Pairwise (· < ·)) (h : ∀ p, Av En.path p A = Av En.path p B) : A = B := by
  have sub : ∀ {C D : List En}, (C.map En.path).Nodup → (∀ p, Av En.path p C = Av En.path p D) → ∀ x ∈ C, x ∈ D := fun hn h x hx => Gs (by rw [← h x.path]; exact Hq hn hx)
  have hp : A.Perm B := (List.perm_ext_iff_of_nodup (srt_nd2 (srt_nd hA)) (srt_nd2 (srt_nd hB))).2 fun x => ⟨sub (srt_nd hA) h x, sub (srt_nd hB) (fun p => (h p).symm) x⟩
  exact hp.eq_of_pairwise (le := fun a b => a.path < b.path) (fun a b _ _ h1 h2 => absurd h2 (List.lt_asymm h1)) (List.pairwise_map.1 hA) (List.pairwise_map.1 hB)
def Dq (x : En) : List En → List En
  | [] => [x]
  | y :: l => if y.path < x.path then y :: Dq x l else if y.path = x.path then x :: l else x :: y :: l
theorem look_ins (x : En) (p : Bs) : ∀ S : List En, Av En.path p (Dq x S) = if x.path = p then some x else Av En.path p S
  | [] => rfl
  | y :: S => by
    unfold Dq
    by_cases h : y.path < x.path
    · rw [if_pos h]
      show (if y.path = p then some y else Av En.path p (Dq x S)) = _
      rw [look_ins x p S]
      show _ = if x.path = p then some x else if y.path = p then some y else Av En.path p S
      by_cases hy : y.path = p
      · have hx : x.path ≠ p := fun e => by rw [hy, e] at h; exact List.lt_irrefl _ h
        rw [if_pos hy, if_neg hx, if_pos hy]
      · rw [if_neg hy, if_neg hy]
    · rw [if_neg h]
      by_cases h2 : y.path = x.path
      · rw [if_pos h2]
        show (if x.path = p then some x else Av En.path p S) = if x.path = p then some x else if y.path = p then some y else Av En.path p S
        by_cases hx : x.path = p
        · rw [if_pos hx, if_pos hx]
        · rw [if_neg hx, if_neg hx, if_neg (by rw [h2]; exact hx)]
      · rw [if_neg h2]; rfl
theorem ins_mem {x z : En} : ∀ {S : List En}, z ∈ Dq x S → z = x ∨ z ∈ S
  | [], h => .inl (by simpa [Dq] using h)
  | y :: S, h => by
    unfold Dq at h
    split at h
    · rcases List.mem_cons.1 h with h | h
      · exact .inr (h ▸ List.mem_cons_self)
      · exact (ins_mem h).imp_right (List.mem_cons_of_mem _)
    · split at h
      · rcases List.mem_cons.1 h with h | h
        · exact .inl h
        · exact .inr (List.mem_cons_of_mem _ h)
      · rcases List.mem_cons.1 h with h | h
        · exact .inl h
        · exact .inr h
theorem ins_srt {x : En} : ∀ {S : List En}, (S.map En.path).Pairwise (· < ·) → ((Dq x S).map En.path).Pairwise (· < ·)
  | [], _ => by simp [Dq]
  | y :: S, h => by
    rw [List.map_cons] at h
    have h1 := List.pairwise_cons.1 h
    unfold Dq
    split
    · rename_i hlt
      rw [List.map_cons]
      refine List.pairwise_cons.2 ⟨fun z hz => ?_, ins_srt h1.2⟩
      obtain ⟨w, hw, rfl⟩ := List.mem_map.1 hz
      rcases ins_mem hw with rfl | hw
      · exact hlt
      · exact h1.1 _ (List.mem_map.2 ⟨w, hw, rfl⟩)
    · rename_i hlt
      split
      · rename_i heq
        rw [List.map_cons, ← heq]; exact h
      · rename_i hne
        have hxy : x.path < y.path := Lj hlt fun e => hne e.symm
        rw [List.map_cons, List.map_cons]
        refine List.pairwise_cons.2 ⟨fun z hz => ?_, h⟩
        rcases List.mem_cons.1 hz with rfl | hz
        · exact hxy
        · exact List.lt_trans hxy (h1.1 z hz)
theorem sort_set {L : List En} (hn : (L.map En.path).Nodup) (x : En) : A2 (setM En.path x L) = Dq x (A2 L) := by
  have hs1 : ((A2 (setM En.path x L)).map En.path).Pairwise (· < ·) := by rw [Dt]; exact Da (Mx x hn)
  have hs2 : ((A2 L).map En.path).Pairwise (· < ·) := by rw [Dt]; exact Da hn
  refine srt_ext hs1 (ins_srt hs2) fun p => ?_
  rw [lookS (Mx x hn), look_set, look_ins, lookS hn]
def Fx (x : En) (p : List En × Bool) (y : En) : List En × Bool := ((if p.2 = false ∧ ¬ y.path < x.path then p.1 ++ [x] else p.1) ++ (if y.path ≠ x.path then [y] else []), p.2 || decide (¬ y.path < x.path))
def finR (x : En) (p : List En × Bool) : List En := if p.2 then p.1 else p.1 ++ [x]
theorem stp_done {x : En} : ∀ {S : List En} {o : List En}, (∀ y ∈ S, x.path < y.path) → S.foldl (Fx x) (o, true) = (o ++ S, true)
  | [], o, _ => by rw [List.append_nil]; rfl
  | y :: S, o, h => by
    have hy := h y List.mem_cons_self
    have hne : y.path ≠ x.path := fun e => by rw [e] at hy; exact List.lt_irrefl _ hy
    rw [List.foldl_cons]
    have e : Fx x (o, true) y = (o ++ [y], true) := by
      unfold Fx
      rw [if_neg (fun h => by cases h.1), if_pos hne]; rfl
    rw [e, stp_done fun z hz => h z (List.mem_cons_of_mem _ hz), List.append_assoc]; rfl
theorem stp_ins {x : En} : ∀ {S : List En} {o : List En}, (S.map En.path).Pairwise (· < ·) → finR x (S.foldl (Fx x) (o, false)) = o ++ Dq x S
  | [], o, _ => rfl
  | y :: S, o, h => by
    rw [List.map_cons] at h
    have h1 := List.pairwise_cons.1 h
    rw [List.foldl_cons]
    unfold Dq
    by_cases hlt : y.path < x.path
    · have hne : y.path ≠ x.path := fun e => by rw [e] at hlt; exact List.lt_irrefl _ hlt
      have e : Fx x (o, false) y = (o ++ [y], false) := by
        unfold Fx
        rw [if_neg (fun h => h.2 hlt), if_pos hne]; simp [hlt]
      rw [e, stp_ins h1.2, if_pos hlt, List.append_assoc]; rfl
    · rw [if_neg hlt]
      have hgt : ∀ z ∈ S, x.path < z.path := fun z hz => by
        have hz2 := h1.1 _ (List.mem_map.2 ⟨z, hz, rfl⟩)
        by_cases he : y.path = x.path
        · rw [← he]; exact hz2
        · exact List.lt_trans (Lj hlt fun e => he e.symm) hz2
      by_cases he : y.path = x.path
      · have e : Fx x (o, false) y = (o ++ [x], true) := by
          unfold Fx
          rw [if_pos ⟨rfl, hlt⟩, if_neg (fun h => h he)]; simp [hlt]
        rw [e, stp_done hgt, if_pos he]
        show (if true then _ else _) = _
        rw [if_pos rfl, List.append_assoc]; rfl
      · have e : Fx x (o, false) y = (o ++ [x] ++ [y], true) := by
          unfold Fx
          rw [if_pos ⟨rfl, hlt⟩, if_pos he]; simp [hlt]
        rw [e, stp_done hgt, if_neg he]
        show (if true then _ else _) = _
        rw [if_pos rfl, List.append_assoc, List.append_assoc]; rfl
theorem stp_len {x : En} : ∀ {S : List En} {p : List En × Bool}, (S.foldl (Fx x) p).1.length ≤ p.1.length + 2 * S.length
  | [], p => by simp
  | y :: S, p => by
    rw [List.foldl_cons]
    have h := stp_len (x := x) (S := S) (p := Fx x p y)
    have h2 : (Fx x p y).1.length ≤ p.1.length + 2 := by
      unfold Fx
      show (_ ++ _ : List En).length ≤ _
      rw [List.length_append]
      split <;> split <;> simp [List.length_append] <;> omega
    rw [List.length_cons]; omega
def srt (t : Tr) : Tr := ⟨A2 t.L, t.cwd⟩
theorem srt_id {t : Tr} (hW : WfT t) : A2 (srt t).L = (srt t).L := sortE_id (Hi hW)
theorem E3 {t : Tr} (hW : WfT t) (p : Bs) : Dy (srt t) p = Dy t p := lookS hW.nd p
theorem D1 {t : Tr} (hW : WfT t) (p : Bs) : Al (srt t) p = Al t p := by unfold Al; rw [E3 hW]
theorem srt_step {t : Tr} (hW : WfT t) (a q : Bs) : Bb (srt t) a q = Bb t a q := by unfold Bb; rw [D1 hW]
theorem srt_loop {t : Tr} (hW : WfT t) : ∀ (ps : List Bs) (a : Bs), A3 (srt t) a ps = A3 t a ps
  | [], a => rfl
  | p :: ps, a => by
    unfold A3
    rw [srt_step hW]
    cases Bb t a p with
    | inl e => rfl
    | inr b => exact srt_loop hW ps b
theorem Gj {t : Tr} (hW : WfT t) (p : Bs) : Ae (srt t) p = Ae t p := by unfold Ae; rw [srt_loop hW]; rfl
theorem srt_is {t : Tr} (hW : WfT t) (p : Bs) (k : Nat) : isG (srt t) p k = isG t p k := by unfold isG; rw [Gj hW, D1 hW]
theorem srt_cd {t : Tr} (hW : WfT t) (p : Bs) : cdG (srt t) p = (srt (cdG t p).1, (cdG t p).2) := by
  unfold cdG
  rw [srt_is hW]
  split <;> rfl
theorem srt_tree {t : Tr} (hW : WfT t) : G0 (srt t) = G0 t := by
  unfold G0
  rw [srt_id hW]
  show Es t.cwd ++ twoB (A2 t.L).length ++ _ = _
  rw [C4]; rfl
theorem K3 (t : Tr) : At (srt t).L = At t.L := Eh (A0 t.L)
theorem A7 (t : Tr) : (srt t).L.length = t.L.length := C4 t.L
theorem srt_wf {t : Tr} (hW : WfT t) : WfT (srt t) := ⟨((A0 t.L).map _).nodup_iff.2 hW.nd, by rw [A7]; exact hW.len, by rw [K3]; exact hW.sz, fun e he => hW.hd e ((A0 t.L).mem_iff.1 he), fun e he => hW.pl e ((A0 t.L).mem_iff.1 he), hW.hc, hW.c1, hW.c2⟩
theorem Hg {t : Tr} (hW : WfT t) (hO : OkT t) : ∃ ns, St (srt t) (srt t).cwd ns := by
  obtain ⟨ns, g1, g2, g3⟩ := hO.cw
  obtain ⟨a, b, c⟩ := hO.st g1 (by rw [← g2, g3]; decide)
  exact ⟨ns, a, g2, fun j hj => (D1 hW _).trans (c j hj)⟩
theorem ins_many {t : Tr} (hW : WfT t) (x : En) : (Dq x (srt t).L).length = manyG t x := by
  show (Dq x (A2 t.L)).length = _
  rw [← sort_set hW.nd, C4, setM_len]; rfl
theorem Lq {t : Tr} (hW : WfT t) (x : En) : At (Dq x (srt t).L) = Gy t x + x.data.length := by
  show At (Dq x (A2 t.L)) = _
  rw [← sort_set hW.nd, Eh (A0 _), Jc]; rfl
theorem put_long {t : Tr} {x : En} (h : 256 < x.path.length ∨ 8192 < x.data.length) : Cn t x = (t, 3) := by unfold Cn; rw [if_pos h]
theorem put_full {t : Tr} (hW : WfT t) {x : En} (h0 : ¬ (256 < x.path.length ∨ 8192 < x.data.length)) (h : 128 < (Dq x (srt t).L).length ∨ 32768 < At (Dq x (srt t).L)) : Cn t x = (t, 7) := by
  rw [ins_many hW, Lq hW] at h
  unfold Cn; rw [if_neg h0, if_pos h]
theorem put_done {t : Tr} (hW : WfT t) {x : En} (h0 : ¬ (256 < x.path.length ∨ 8192 < x.data.length)) (h : ¬ (128 < (Dq x (srt t).L).length ∨ 32768 < At (Dq x (srt t).L))) : (Cn t x).2 = 0 ∧ srt (Cn t x).1 = ⟨Dq x (srt t).L, t.cwd⟩ := by
  rw [ins_many hW, Lq hW] at h
  unfold Cn; rw [if_neg h0, if_neg h]
  refine ⟨rfl, ?_⟩
  show (⟨A2 (setM En.path x t.L), t.cwd⟩ : Tr) = _
  rw [sort_set hW.nd]; rfl
end Go.Proofs.YtjoakhpdajlhiaaGreatDoor.V2.S
namespace Go.Proofs.YtjoakhpdajlhiaaGreatDoor.V2.S
open Go
set_option maxRecDepth 100000
set_option maxHeartbeats 4000000
set_option linter.unusedVariables false
attribute [local irreducible] fN fO nM gM pM Phi.fn mp bl Au Be Bh pack
def TwoS (H : HF) : Prop := ∀ (a n : Nat) (m : T FObj), a ≤ 65535 → Iv 1 [] H [.n .i64 a] n m (fun v n' m' => ∃ b, v = .sl b 0 2 2 true 1 ∧ n ≤ b ∧ b < n' ∧ Am m' b (.bs (pack (twoB a)) 5 .exact))
theorem two_s {O : Oz} (hO : O = zO) (Φ : Phi) : TwoS (p54 O Φ) := fun a n m ha k P hn hf => by
  repeat' ((conv => lhs; whnf); first | ((with_reducible refine hr8 hO ?_)) | ((with_reducible refine cvW hO ?_)) | ((with_reducible refine bs2 hO (by omega) (by omega) (by omega) ?_)))
  all_goals (conv => lhs; whnf)
  all_goals first
    | exact hf _ _ _ (by omega) (by omega) qQ ⟨n, rfl, by omega, by omega, Ap (by omega)⟩
def ToldS (H : HF) : Prop := ∀ (s : Bs) (n : Nat) (m : T FObj), s.length ≤ 65535 → Iv 2 [] H [.s (pack s)] n m (fun v n' m' => ∃ b x tl, v = .sl b 0 (2 + s.length) (2 + s.length) x 1 ∧ n ≤ b ∧ b < n' ∧ Am m' b (.bs (pack (Es s)) 5 tl) ∧ (s ≠ [] → x = false ∧ tl = .more))
theorem told_s {O : Oz} (hO : O = zO) (Φ : Phi) (H : TwoS (Phi.fn Φ 54)) : ToldS (p53 O Φ) := fun s n m hs k P hn hf => by
  by_cases h0 : s = []
  · subst h0
    repeat' ((conv => lhs; whnf); first | ((with_reducible refine A4 ?_); (refine H _ _ _ (by first | omega | decide) _ _ (by omega) (fun v2 n2 m2 h2 g2 k2 q2 => ?_); obtain ⟨b2, rfl, q3, q4, q5⟩ := q2; have k2p := Kq.kp k2)) | (((with_reducible refine lsS hO ?_); try simp only [List.length_cons, List.length_nil, Nat.zero_add])) | ((with_reducible refine Ms ?_); refine apS0 hO ?_))
    all_goals (conv => lhs; whnf)
    all_goals first
      | exact hf _ _ _ (by omega) (by omega) qQ ⟨b2, true, .exact, rfl, by omega, by omega, q5, fun h => absurd rfl h⟩
  · have hp := List.length_pos_iff.2 h0
    repeat' ((conv => lhs; whnf); first | ((with_reducible refine A4 ?_); (refine H _ _ _ (by omega) _ _ (by omega) (fun v2 n2 m2 h2 g2 k2 q2 => ?_); obtain ⟨b2, rfl, q3, q4, q5⟩ := q2; have k2p := Kq.kp k2)) | (((with_reducible refine lsS hO ?_); try simp only [List.length_cons, List.length_nil, Nat.zero_add])) | ((with_reducible refine Ms ?_); refine apXS hO q5 (by show 2 ≤ 2; omega) rfl hp (by omega) (by omega) ?_))
    all_goals (conv => lhs; whnf)
    all_goals first
      | exact hf _ _ _ (by omega) (by omega) qQ ⟨_, false, .more, rfl, by omega, by omega, Ap (by omega), fun _ => ⟨rfl, rfl⟩⟩
def KindES (H : HF) : Prop := ∀ {tb mb : Nat} {t : Tr} {n : Nat} {m : T FObj}, TreeAt m tb mb 39 t → tb < n → mb < n → 1 ≤ t.cwd.length → t.cwd.length ≤ 256 → ∀ (path : Bs), path.length ≤ 900000 → Ret 601 H [.p tb 0, .s (pack path)] n m (.tup [.n .i64 (G4 t path).1, .n .i64 (G4 t path).2])
theorem kindE_s {O : Oz} (hO : O = zO) (Φ : Phi) (HA : AbsS (Phi.fn Φ 15)) (HK : KindS (Phi.fn Φ 16)) : KindES (p30 O Φ) := fun {tb mb t n m} hT htb hmb hc1 hc2 path hpl k P hn hf => by
  repeat' ((conv => lhs; whnf); first | ((with_reducible refine A4 ?_); first | refine HA (hT.kp kQ htb hmb) (by omega) (by omega) hc1 hc2 _ hpl _ _ (by omega) (fun n2 m2 h2 g2 k2 => ?_) | refine HK (hT.kp kQ htb hmb) (by omega) (by omega) _ _ _ (by omega) (fun n3 m3 h3 g3 k3 => ?_)) | ((with_reducible refine neB hO (fun h => ?_) (fun h => ?_))))
  all_goals (conv => lhs; whnf)
  all_goals first
    | (rw [show G4 t path = (0, (Ae t path).2) by unfold G4; rw [if_pos (by assumption)]] at hf; exact hf _ _ (by omega) (by omega) kQ)
    | (rw [show G4 t path = (Al t (Ae t path).1, 0) by unfold G4; rw [if_neg (by simp [*])]] at hf; exact hf _ _ (by omega) (by omega) kQ)
end Go.Proofs.YtjoakhpdajlhiaaGreatDoor.V2.S
namespace Go.Proofs.YtjoakhpdajlhiaaGreatDoor.V2.S
open Go
set_option maxRecDepth 100000
set_option maxHeartbeats 4000000
set_option linter.unusedVariables false
attribute [local irreducible] fN fO nM gM pM Phi.fn Phi.yl Phi.up mp bl Au Be Bh pack
def WalkN (H : HF) (y : Nat) (Y : HF) : Prop := ∀ {tb mb : Nat} {t : Tr} {n : Nat} {m : T FObj} (c : Nat) (xs : List Nat) (I : Nat → Nat → Nat → T FObj → Prop), TreeAt m tb mb 39 t → tb < n → mb < n → WfT t → (∀ x ∈ xs, x < n) → (∀ x ∈ xs, tb ≠ x) → (∀ x ∈ xs, mb ≠ x) →
  (∀ N i e n1 m1 (k : KV) (P : FR), (A2 t.L)[i]? = some e → n ≤ N → N ≤ n1 → n1 + c ≤ 1000000 → Kq xs n m m1 → I N i n1 m1 → (∀ n2 m2, n1 ≤ n2 → n2 ≤ n1 + c → Kq xs N m1 m2 → I N (i + 1) n2 m2 → k (.b true) ⟨n2, m2⟩ = P) → Y [Eb e] ⟨n1, m1⟩ k = P) →
  ∀ (k : KV) (P : FR), n + 2 + c * t.L.length ≤ 1000000 → (∀ N m1, n ≤ N → N ≤ n + 2 → Kp n m m1 → I N 0 N m1) → (∀ N n' m', n ≤ N → N ≤ n' → n' ≤ n + 2 + c * t.L.length → Kq xs n m m' → I N t.L.length n' m' → k (.tup []) ⟨n', m'⟩ = P) → H [.p tb 0, .y y] ⟨n, m⟩ k = P
theorem walkN_s {O : Oz} (hO : O = zO) (Φ : Phi) (H1 : NoneS (Phi.fn Φ 13)) (H2 : KeysS Φ) (y : Nat) (Y : HF) (hy : Phi.yl Φ y = Y) : WalkN (p38 O Φ) y Y := fun {tb mb t n m} c xs I hT htb hmb hW hx1 hx2 hx3 hY k P hn h0 hf => by
  have hT1 := hT.s
  have hT2 := hT.m
  have hwl := hW.len
  have hpw : ∀ e ∈ t.L, e.path.length ≤ 1000000 := fun e he => by have := (hW.pl e he).1; omega
  by_cases hL : t.L = []
  · have hl0 : t.L.length = 0 := by rw [hL]; rfl
    rw [hl0] at hf hn
    repeat' ((conv => lhs; whnf); first | ((with_reducible refine A4 ?_); first | refine H1 (hT.kp kQ htb hmb) _ _ ?_ | (refine H2 hT2 hmb hW.nd (by omega) hpw _ _ (by omega) ?_; rintro v1 n1 m1 h1 g1 k1 q0 q1; obtain rfl := q0 hL)) | ((with_reducible refine fa0 hO ?_)) | ((with_reducible refine Br ?_); refine ldC hO aQ (by rfl) ?_) | ((with_reducible refine lvN hO ?_)))
    all_goals (conv => lhs; whnf)
    all_goals first
      | exact hf n _ _ (by omega) (by omega) (by omega) qQ (h0 n _ (by omega) (by omega) kQ)
      | (refine lpI hO (fun t e n' m' => t = 0 ∧ n' = n1 ∧ m' = m1 ∧ e = eof [(15, .n .i64 0)]) ?_ ?_ _ 0 _ _ _ (by omega) ⟨rfl, rfl, rfl, rfl⟩
         · rintro t e n' m' ⟨_, rfl, _⟩; omega
         · rintro t e n' m' ih ⟨rfl, rfl, rfl, rfl⟩ hih
           repeat' ((conv => lhs; whnf); first | ((with_reducible refine ltF hO (by omega) ?_)))
           all_goals (conv => lhs; whnf)
           all_goals first
             | exact hf _ _ _ (by omega) (Nat.le_refl _) (by omega) (Kq.of kQ _) (h0 _ _ (by omega) (by omega) kQ))
  · 
    repeat' ((conv => lhs; whnf); first | ((with_reducible refine A4 ?_); first | refine H1 (hT.kp kQ htb hmb) _ _ ?_ | (refine H2 hT2 hmb hW.nd (by omega) hpw _ _ (by omega) ?_; rintro v1 n1 m1 h1 g1 k1 q0 q1; obtain ⟨b, rfl, q1, q2, q3⟩ := q1 hL)) | ((with_reducible refine fa0 hO ?_)) | ((with_reducible refine Br ?_); refine ldC hO aQ (by rfl) ?_) | ((with_reducible refine lvS hO ?_)))
    all_goals (conv => lhs; whnf)
    all_goals first
      | exact absurd rfl hL
      | (refine lpI hO (fun q e n' m' => ∃ i, i ≤ t.L.length ∧ q = t.L.length - i ∧ n1 ≤ n' ∧ n' ≤ n1 + c * i ∧ Kq xs n m m' ∧ Kq xs n1 m1 m' ∧ I n1 i n' m' ∧ e = eof [(15, .n .i64 i)]) ?_ ?_ _ t.L.length _ _ _ (by omega) ⟨0, Nat.zero_le _, by omega, Nat.le_refl _, by omega, Kq.of kQ _, Kq.refl _ _ _, h0 _ _ (by omega) (by omega) kQ, rfl⟩
         · rintro q e n' m' ⟨i, _, _, h, _⟩; omega
         · rintro q e n' m' ih ⟨i, z1, rfl, z2, z3, z4, z5, z6, rfl⟩ hih
           have hT' := hT.kq z4 htb hmb hx2 hx3
           have hT1' := hT'.s
           have hT2' := hT'.m
           have hb' : Am m' b (.cells (vsL (Db (t.L.map En.path))) 9 .more) := z5 _ _ q2 (fun x hx => by have := hx1 x hx; omega) q3
           clear hT1 hT2
           rcases Nat.lt_or_ge i t.L.length with hlt | hge
           · obtain ⟨e1, he⟩ : ∃ e1, (A2 t.L)[i]? = some e1 := ⟨_, List.getElem?_eq_getElem (by rw [C4]; omega)⟩
             have hle := sortE_at hW.nd he
             have hci : c * (i + 1) ≤ c * t.L.length := Nat.mul_le_mul_left c (by omega)
             have hcs : c * (i + 1) = c * i + c := Nat.mul_succ c i
             repeat' ((conv => lhs; whnf); first | ((rw [hy]; refine hY n1 _ _ _ _ _ _ he (by omega) (by omega) (by omega) z4 z6 (fun n5 m5 h5 g5 k5 q5 => ?_))) | ((with_reducible refine fa0 hO ?_)) | ((with_reducible refine Br ?_); first | refine ldC hO aQ (I8 (sortB_at he)) ?_ | refine ldC hO aQ (by rfl) ?_) | ((with_reducible refine ltT hO (by omega) ?_)) | ((with_reducible refine adI hO (by omega) ?_)) | ((with_reducible refine ix01 hO (by omega) ?_)) | ((with_reducible refine atLk ?_); (refine lkS1 hO aQ (fun a hla => ?_) (fun hla => absurd hla (by rw [hle]; simp)); obtain rfl : e1 = a := by rw [hle] at hla; exact Option.some.inj hla)))
             all_goals (conv => lhs; whnf)
             all_goals first
               | exact hih (t.L.length - (i + 1)) _ _ _ (by omega) ⟨i + 1, by omega, rfl, by omega, by omega, z4.trans k5 (by omega), z5.trans k5 (by omega), q5, rfl⟩
           · obtain rfl : i = t.L.length := by omega
             repeat' ((conv => lhs; whnf); first | ((with_reducible refine ltF hO (by omega) ?_)))
             all_goals (conv => lhs; whnf)
             all_goals first
               | exact hf n1 _ _ (by omega) (by omega) (by omega) z4 z6)
end Go.Proofs.YtjoakhpdajlhiaaGreatDoor.V2.S
namespace Go.Proofs.YtjoakhpdajlhiaaGreatDoor.V2.S
open Go
set_option maxRecDepth 100000
set_option maxHeartbeats 4000000
set_option linter.unusedVariables false
attribute [local irreducible] fN fO nM gM pM Phi.fn Phi.yl Phi.up mp bl Au Be Bh pack
def BytesS (H : HF) : Prop := ∀ {tb mb : Nat} {t : Tr} {n : Nat} {m : T FObj}, TreeAt m tb mb 39 t → tb < n → mb < n → WfT t → Iv 1160 [] H [.p tb 0] n m (fun v n' m' => ∃ b, v = .sl b 0 (G0 t).length (G0 t).length false 1 ∧ n ≤ b ∧ b < n' ∧ Am m' b (.bs (pack (G0 t)) 5 .more))
theorem bytes_s {O : Oz} (hO : O = zO) (Φ : Phi) (HN : NoneS (Phi.fn Φ 13)) (HT : ToldS (Phi.fn Φ 53)) (H2 : TwoS (Phi.fn Φ 54)) (H : ∀ y Y, WalkN (Phi.fn (Phi.up Φ y Y) 38) y Y) : BytesS (p36 O Φ) := fun {tb mb t n m} hT htb hmb hW k P hn hf => by
  have hT1 := hT.s
  have hT2 := hT.m
  have hlen := hW.len
  have hc1 := hW.c1
  have hc2 := hW.c2
  have hcn : t.cwd ≠ [] := fun h => by rw [h] at hc1; simp at hc1
  repeat' ((conv => lhs; whnf); first | ((with_reducible refine bs1 hO (by omega) (by omega) ?_)) | ((with_reducible refine mlS hO aQ ?_)) | ((with_reducible refine A4 ?_); first | refine HN (hT.kp kQ htb hmb) _ _ ?_ | (refine HT _ _ _ (by omega) _ _ (by omega) (fun v1 n1 m1 h1 g1 k1 q1 => ?_); obtain ⟨b1, x1, tl1, rfl, r1, r2, r3, r4⟩ := q1; obtain ⟨rfl, rfl⟩ := r4 hcn; have k1p := Kq.kp k1) | (refine H2 _ _ _ (by omega) _ _ (by omega) (fun v2 n2 m2 h2 g2 k2 q2 => ?_); obtain ⟨b2, rfl, s1, s2, s3⟩ := q2; have k2p := Kq.kp k2) | refine H _ _ 9 [n, n2] (fun N i n1 m1 => ∃ b L, (b = n2 ∨ N ≤ b) ∧ b < n1 ∧ L = (byI t i).length ∧ Am m1 n (.cells [.sl b 0 L L false 1] 67 .exact) ∧ Am m1 b (.bs (pack (byI t i)) 5 .more)) (hT.kp kQ htb hmb) (by omega) (by omega) hW (fun x hx => by simp only [List.mem_cons, List.not_mem_nil, or_false] at hx; omega) (fun x hx => by simp only [List.mem_cons, List.not_mem_nil, or_false] at hx; omega) (fun x hx => by simp only [List.mem_cons, List.not_mem_nil, or_false] at hx; omega) (fun N i e n5 m5 k5 P5 he hN hn5 hc5 hq5 hI5 hk5 => hI5.elim fun b5 hI6 => hI6.elim fun L5 hI7 => hI7.elim fun hb5 hI8 => hI8.elim fun hb6 hI9 => hI9.elim fun hL5 hI10 => hI10.elim fun ha5 hd5 => (used_aux hW he).elim fun z1 z2 => (fun z3 => ?_) (byI_len hW i)) _ _ (by omega) (fun N m4 h4 g4 k4 => ⟨n2, 2 + t.cwd.length + 2, .inl rfl, by omega, preB_len t, aQ, by rw [byI_0, preB_eq]; repeat (first | assumption | exact Ap (by omega) | apply Ff (by omega) (by omega) | apply kp_am (by assumption) (by omega) | apply Kq.am (by assumption) (by omega) (by simp only [List.mem_cons, List.not_mem_nil, or_false, forall_eq_or_imp, forall_eq, false_implies, implies_true, ne_eq, and_true]; omega))⟩) (fun N n4 m4 h4 g4 l4 k4 hI4 => (fun k4l => hI4.elim fun b4 hI6 => hI6.elim fun L4 hI7 => hI7.elim fun hb4 hI8 => hI8.elim fun hb6 hI9 => hI9.elim fun hL4 hI10 => hI10.elim fun ha4 hd4 => ?_) (Kq.low (n := n) k4 (by omega) (fun x hx => by simp only [List.mem_cons, List.not_mem_nil, or_false] at hx; omega))) | (rw [bare_fn]; refine HT _ _ _ (by omega) _ _ (by omega) (fun v6 n6 m6 h6 g6 k6 q6 => ?_); obtain ⟨b6, x6, tl6, rfl, u2, u3, u4, u5⟩ := q6; have k6p := Kq.kp k6)) | ((with_reducible refine fa0 hO ?_)) | ((with_reducible refine Br ?_); refine ldC hO aQ (by rfl) ?_) | ((with_reducible refine cvB hO (by omega) ?_)) | ((with_reducible refine Hc ?_); first | refine stC hO aQ (by kernel_rfl) (fun _ _ _ => rfl) (fun _ => rfl) ?_ | refine ust hO ?_) | ((with_reducible refine alO hO (by omega) ?_)) | ((with_reducible refine rcE hO (by kernel_rfl) rfl ?_)) | ((with_reducible refine Ms ?_); first | refine apBB hO aQ aQ (by rw [A6]; omega) (by show 2 ≤ 2; omega) (by omega) (by rfl) (fun _ => rfl) (by omega) (by omega) ?_ | refine apBB hO aQ aQ (by omega) (by show 1 ≤ 1; omega) (by omega) (by rfl) (fun _ => rfl) (by omega) (by omega) ?_ | refine apBB hO aQ aQ (by simp only [List.length_append, List.length_take, List.drop_zero, List.length_singleton]; omega) (by rw [A6]; omega) (by omega) (by rfl) (fun _ => rfl) (by omega) (by omega) ?_ | refine apBB hO aQ aQ (by simp only [List.length_append, List.length_take, List.drop_zero, List.length_singleton, A6]; omega) (by rw [A6]; omega) (by omega) (by rfl) (fun _ => rfl) (by omega) (by omega) ?_) | (with_reducible refine (Aj _ _).trans ?_) | (with_reducible refine (Dl (by omega)).trans ?_) | (with_reducible refine pM_mp.trans ?_) | (refine Hy aQ ?_) | ((with_reducible refine atB ?_); first | refine brecT (by assumption) ?_ | refine brecF (by assumption) ?_ | refine brec (fun h => ?_) (fun h => ?_)))
  all_goals (conv => lhs; whnf)
  all_goals first
    | (rcases hb5 with rfl | hb5 <;> exact hk5 _ _ (by omega) (by omega) qQ ⟨n6, _, .inr (by omega), by omega, len_dir hL5 he (by assumption), aQ, by rw [ent_dir hL5 he (by assumption)]; repeat (first | assumption | exact Ap (by omega) | apply Ff (by omega) (by omega) | apply kp_am (by assumption) (by omega) | apply Kq.am (by assumption) (by omega) (by simp only [List.mem_cons, List.not_mem_nil, or_false, forall_eq_or_imp, forall_eq, false_implies, implies_true, ne_eq, and_true]; omega))⟩)
    | (rcases hb5 with rfl | hb5 <;> exact hk5 _ _ (by omega) (by omega) qQ ⟨n6, _, .inr (by omega), by omega, len_file hL5 he (by assumption), aQ, by rw [ent_file hL5 he (by assumption)]; repeat (first | assumption | exact Ap (by omega) | apply Ff (by omega) (by omega) | apply kp_am (by assumption) (by omega) | apply Kq.am (by assumption) (by omega) (by simp only [List.mem_cons, List.not_mem_nil, or_false, forall_eq_or_imp, forall_eq, false_implies, implies_true, ne_eq, and_true]; omega))⟩)
    | (rw [byI_all] at hL4 hd4; subst hL4; exact hf _ _ _ (by omega) (by omega) qQ ⟨b4, rfl, by omega, by omega, hd4⟩)
end Go.Proofs.YtjoakhpdajlhiaaGreatDoor.V2.S
namespace Go.Proofs.YtjoakhpdajlhiaaGreatDoor.V2.S
open Go
set_option maxRecDepth 100000
set_option maxHeartbeats 4000000
set_option linter.unusedVariables false
attribute [local irreducible] fN fO nM gM pM Phi.fn mp bl Au Be Bh pack
def Gt (rb : Nat) (v : FV) : Prop := ∀ b o L K x z, v = .sl b o L K x z → rb < b ∧ L ≤ K
theorem RowE.kg {m m' : T FObj} {n k rb : Nat} {v : FV} {l : List En} (h : RowE m n v l) (hk : Kq [rb] k m m') (hn : n ≤ k) (hg : Gt rb v) : RowE m' n v l := by
  rcases h with h | ⟨b, K, x, e, tl, h1, h2, h3⟩
  · exact .inl h
  · exact .inr ⟨b, K, x, e, tl, h1, h2, hk _ _ (by omega) (nm1 (by have := hg _ _ _ _ _ _ h1; omega)) h3⟩
def IsR (H : HF) : Prop := ∀ {rb nn n : Nat} {v : FV} {t : Tr} {m : T FObj}, RTree m rb nn v t → t.L.length ≤ 200 → (∃ ns, St t t.cwd ns) → t.cwd.length ≤ 256 → ∀ (path : Bs), path.length ≤ 900000 → Eq H [.p rb 0, .s (pack path), .n .i64 1] n m (.tup [.s (pack (isG t path 1).1), .n .i64 (isG t path 1).2])
theorem is_r {O : Oz} (hO : O = zO) (Φ : Phi) (HA : AbsR (Phi.fn Φ 32)) (HK : Ks (Phi.fn Φ 45)) : IsR (p51 O Φ) := fun {rb nn n v t m} hR hl hcw hc2 path hpl k P hf => by
  repeat' ((conv => lhs; whnf); first | ((with_reducible refine A4 ?_); first | refine HA hR hl hcw hc2 path hpl _ _ ?_ | refine HK hR hl (Ae t path).1 _ _ ?_) | ((with_reducible refine eqB hO (fun h => ?_) (fun h => ?_))) | ((with_reducible refine neB hO (fun h => ?_) (fun h => ?_))))
  all_goals (conv => lhs; whnf)
  all_goals first
    | (rw [show isG t path 1 = ([], (Ae t path).2) by unfold isG; rw [if_pos (by assumption)]] at hf; exact hf)
    | (rw [show isG t path 1 = ((Ae t path).1, 0) by unfold isG; rw [if_neg (by simp [*]), if_pos (by omega)]] at hf; exact hf)
    | (rw [show isG t path 1 = ([], 6) by unfold isG; rw [if_neg (by simp [*]), if_neg (by omega), if_pos (by omega)]] at hf; exact hf)
    | (rw [show isG t path 1 = ([], 5) by unfold isG; rw [if_neg (by simp [*]), if_neg (by omega), if_neg (by omega)]] at hf; exact hf)
def CdR (H : HF) : Prop := ∀ {rb nn n : Nat} {v : FV} {t : Tr} {m : T FObj}, RTree m rb nn v t → Gt rb v → t.L.length ≤ 200 → (∃ ns, St t t.cwd ns) → t.cwd.length ≤ 256 → rb < n → nn ≤ n → n ≤ 1000000 → ∀ (path : Bs), path.length ≤ 900000 → ∀ (k : KV) (P : FR), (∀ m', Kq [rb] n m m' → RTree m' rb nn v (cdG t path).1 → k (.n .i64 (cdG t path).2) ⟨n, m'⟩ = P) → H [.p rb 0, .s (pack path)] ⟨n, m⟩ k = P
theorem cd_r {O : Oz} (hO : O = zO) (Φ : Phi) (HI : IsR (Phi.fn Φ 51)) : CdR (p24 O Φ) := fun {rb nn n v t m} hR hg hl hcw hc2 hrb hnn hn path hpl k P hf => by
  have hS := hR.s
  have hRw := hR.r
  have e1 : (isG t path 1).2 = 0 → cdG t path = ({ t with cwd := (isG t path 1).1 }, 0) := fun h => by unfold cdG; rw [if_neg (by omega)]
  have e2 : (isG t path 1).2 ≠ 0 → cdG t path = (t, (isG t path 1).2) := fun h => by unfold cdG; rw [if_pos h]
  repeat' ((conv => lhs; whnf); first | ((with_reducible refine A4 ?_); refine HI hR hl hcw hc2 path hpl _ _ ?_) | ((with_reducible refine fa0 hO ?_)) | ((with_reducible refine eqB hO (fun h => ?_) (fun h => ?_))) | ((with_reducible refine Hc ?_); refine stC hO hS (by kernel_rfl) (fun _ _ _ => rfl) (fun _ => rfl) ?_))
  all_goals (conv => lhs; whnf)
  all_goals first
    | (have hz : (isG t path 1).2 = 0 := by assumption
       rw [e1 hz] at hf
       have hk : Kq [rb] n m (mp m rb (.cells [v, .s (pack (isG t path 1).1)] 42 .exact)) := Kq.mp (Kq.refl _ _ _) (.inr (by simp)) (by omega)
       rw [hz]
       exact hf _ hk ⟨Ap (by omega), hRw.kg hk hnn hg⟩)
    | (have hz : (isG t path 1).2 ≠ 0 := by assumption
       rw [e2 hz] at hf; exact hf _ (Kq.refl _ _ _) hR)
def BytesR (H : HF) : Prop := ∀ {rb nn n : Nat} {v : FV} {t : Tr} {m : T FObj}, RTree m rb nn v t → WfT t → A2 t.L = t.L → rb < n → nn ≤ n → Iv 1160 [] H [.p rb 0] n m (fun v n' m' => ∃ b, v = .sl b 0 (G0 t).length (G0 t).length false 1 ∧ n ≤ b ∧ b < n' ∧ Am m' b (.bs (pack (G0 t)) 5 .more))
theorem bytes_r {O : Oz} (hO : O = zO) (Φ : Phi) (HT : ToldR (Phi.fn Φ 55)) : BytesR (p37 O Φ) := fun {rb nn n v t m} hR hW hso hrb hnn k P hn hf => by
  have hS := hR.s
  have hRw := hR.r
  have hlen := hW.len
  have hc1 := hW.c1
  have hc2 := hW.c2
  have hcn : t.cwd ≠ [] := fun h => by rw [h] at hc1; simp at hc1
  have e2 : t.L.length % 256 % 256 = t.L.length % 256 := Nat.mod_mod _ _
  repeat' ((conv => lhs; whnf); first | ((refine lvE hO hRw1 ?_)) | ((with_reducible refine cvW hO ?_)) | ((with_reducible refine bs2 hO (by omega) (by omega) (by omega) ?_; rw [e2])) | ((with_reducible refine A4 ?_); (refine HT t.cwd _ _ (by omega) _ _ (by omega) (fun v1 n1 m1 h1 g1 k1 q1 => ?_); obtain ⟨b1, x1, tl1, rfl, r1, r2, r3, r4⟩ := q1; obtain ⟨rfl, rfl⟩ := r4 hcn; have k1p := Kq.kp k1; have hS1 : Am m1 rb (.cells [v, .s (pack t.cwd)] 42 .exact) := k1p _ _ (by omega) hS; have hRw1 := hRw.kp k1p hnn)) | ((with_reducible refine fa0 hO ?_)) | ((with_reducible refine Br ?_); first | refine ldC hO hS (by rfl) ?_ | refine ldC hO hS1 (by rfl) ?_) | ((with_reducible refine rmI hO (by omega) ?_)) | ((with_reducible refine quI hO (by omega) (by omega) ?_)) | ((with_reducible refine Ms ?_); refine apBB hO aQ aQ (by rw [A6]; omega) (by show 2 ≤ 2; omega) (by omega) (by rfl) (fun _ => rfl) (by omega) (by omega) ?_))
  all_goals (conv => lhs; whnf)
  all_goals first
    | refine lpI hO (fun q e n' m' => ∃ i b L, i ≤ t.L.length ∧ q = t.L.length - i ∧ n ≤ n' ∧ n' ≤ n + 4 + 8 * i ∧ Kp n m m' ∧ n ≤ b ∧ b < n' ∧ L = (byI t i).length ∧ Am m' b (.bs (pack (byI t i)) 5 .more) ∧ e = eof [(2, .o .sl), (3, .sl b 0 L L false 1), (4, .n .i64 i)]) ?_ ?_ _ t.L.length _ _ _ (by omega) ⟨0, _, 2 + t.cwd.length + 2, by omega, by omega, by omega, by omega, kQ, ?_, ?_, preB_len t, by rw [byI_0, preB_eq]; exact Ap (by omega), rfl⟩
  all_goals first
    | omega
    | (rintro q e n' m' ⟨i, b, L, _, _, h, _⟩; omega)
    | (rintro q e n' m' ih ⟨i, b5, L5, hi, rfl, hn1, hn2, k5, hb5, hb6, hL5, hd5, rfl⟩ hih
       have hS5 : Am m' rb (.cells [v, .s (pack t.cwd)] 42 .exact) := k5 _ _ (by omega) hS
       have hRw5 := hRw.kp k5 hnn
       have hz3 := byI_len hW i
       rcases Nat.lt_or_ge i t.L.length with hlt | hge
       · obtain ⟨e, hy⟩ : ∃ e, t.L[i]? = some e := ⟨_, List.getElem?_eq_getElem hlt⟩
         have he : (A2 t.L)[i]? = some e := by rw [hso]; exact hy
         obtain ⟨z1, z2⟩ := used_aux hW he
         rcases hRw5 with ⟨h00, rfl⟩ | ⟨b, Kb, xb, eb, tlb, rfl, hbn, hbm⟩
         · rw [h00] at hlt; exact absurd hlt (Nat.not_lt_zero _)
         repeat' ((conv => lhs; whnf); first | ((with_reducible refine bs1 hO (by omega) (by omega) ?_)) | ((with_reducible refine A4 ?_); (refine HT _ _ _ (by omega) _ _ (by omega) (fun v6 n6 m6 h6 g6 k6 q6 => ?_); obtain ⟨b6, x6, tl6, rfl, u2, u3, u4, u5⟩ := q6; have k6p := Kq.kp k6)) | ((with_reducible refine fa0 hO ?_)) | ((with_reducible refine faN hO ?_)) | ((with_reducible refine Br ?_); first | refine ldC hO aQ (by rfl) ?_ | refine ldC hO aQ (In hy) ?_ | refine ldC hO aQ (ens_at1 hy) ?_ | refine ldC hO aQ (M4 hy) ?_) | ((with_reducible refine lvS hO ?_)) | ((with_reducible refine ltT hO (by omega) ?_)) | ((with_reducible refine adI hO (by omega) ?_)) | ((with_reducible refine ix0 hO (by omega) ?_)) | ((with_reducible refine Ms ?_); first | refine apBB hO aQ aQ (by omega) (by show 1 ≤ 1; omega) (by omega) (by rfl) (fun _ => rfl) (by omega) (by omega) ?_ | refine apBB hO aQ aQ (by simp only [List.length_append, List.length_take, List.drop_zero, List.length_singleton]; omega) (by rw [A6]; omega) (by omega) (by rfl) (fun _ => rfl) (by omega) (by omega) ?_ | refine apBB hO aQ aQ (by simp only [List.length_append, List.length_take, List.drop_zero, List.length_singleton, A6]; omega) (by rw [A6]; omega) (by omega) (by rfl) (fun _ => rfl) (by omega) (by omega) ?_) | ((with_reducible refine atB ?_); refine brec (fun h => ?_) (fun h => ?_)))
         all_goals (conv => lhs; whnf)
         all_goals first
           | exact hih (t.L.length - (i + 1)) _ _ _ (by omega) ⟨i + 1, _, _, by omega, rfl, by omega, by omega, kQ, by omega, by omega, len_dir hL5 he (by assumption), by rw [ent_dir hL5 he (by assumption)]; exact Ap (by omega), rfl⟩
           | exact hih (t.L.length - (i + 1)) _ _ _ (by omega) ⟨i + 1, _, _, by omega, rfl, by omega, by omega, kQ, by omega, by omega, len_file hL5 he (by assumption), by rw [ent_file hL5 he (by assumption)]; exact Ap (by omega), rfl⟩
       · obtain rfl : i = t.L.length := by omega
         repeat' ((conv => lhs; whnf); first | ((refine lvE hO hRw5 ?_)) | ((with_reducible refine fa0 hO ?_)) | ((with_reducible refine Br ?_); refine ldC hO hS5 (by rfl) ?_) | ((with_reducible refine ltF hO (by omega) ?_)))
         all_goals (conv => lhs; whnf)
         all_goals first
           | (rw [byI_all] at hL5 hd5; subst hL5; exact hf _ _ _ (by omega) (by omega) (Kq.of k5 _) ⟨b5, rfl, by omega, by omega, hd5⟩))
end Go.Proofs.YtjoakhpdajlhiaaGreatDoor.V2.S
namespace Go.Proofs.YtjoakhpdajlhiaaGreatDoor.V2.S
open Go
set_option maxRecDepth 100000
set_option maxHeartbeats 4000000
set_option linter.unusedVariables false
attribute [local irreducible] fN fO nM gM pM Phi.fn mp bl Au Be Bh pack
theorem stp_take {x y : En} {L : List En} {i : Nat} (h : L[i]? = some y) (p : List En × Bool) : (L.take (i + 1)).foldl (Fx x) p = Fx x ((L.take i).foldl (Fx x) p) y := by
  rw [List.take_add_one, h, List.foldl_append]; rfl
theorem ins_len {x : En} : ∀ {S : List En}, (Dq x S).length ≤ S.length + 1
  | [] => by simp [Dq]
  | y :: S => by
    unfold Dq
    have := ins_len (x := x) (S := S)
    split
    · rw [List.length_cons, List.length_cons]; omega
    · split
      · rw [List.length_cons, List.length_cons]; omega
      · simp only [List.length_cons]; omega
theorem ins_ne {x : En} : ∀ {S : List En}, Dq x S ≠ []
  | [] => by simp [Dq]
  | y :: S => by
    unfold Dq
    split
    · simp
    · split <;> simp
theorem used_at {H : HF} (h : UsedR H) {rb nn n : Nat} {v : FV} {L : List En} {m : T FObj} (hS : Am m rb (.cells [v, .s (pack [])] 42 .exact)) (hR : RowE m nn v L) (h1 : L.length ≤ 200) (h2 : At L ≤ 900000000) : Eq H [.p rb 0] n m (.tup [.n .i64 L.length, .n .i64 (At L)]) := h (t := ⟨L, []⟩) ⟨hS, hR⟩ h1 h2
def GG (G : Nat → Prop) (v : FV) : Prop := ∀ b o L K x z, v = .sl b o L K x z → G b ∧ L ≤ K
def PutR (H : HF) : Prop := ∀ {rb nn n : Nat} {v : FV} {t : Tr} {m : T FObj}, RTree m rb nn v (srt t) → WfT t → rb < n → nn ≤ n → ∀ (x : En), x.path.length ≤ 900000 → x.data.length ≤ 900000 → ∀ (k : KV) (P : FR), n + 520 ≤ 1000000 → (∀ n' m' v', n ≤ n' → n' ≤ n + 520 → Kq [rb] n m m' → RTree m' rb n' v' (srt (Cn t x).1) → (∀ G : Nat → Prop, (∀ b, n ≤ b → G b) → GG G v → GG G v') → k (.n .i64 (Cn t x).2) ⟨n', m'⟩ = P) → H [.p rb 0, Eb x] ⟨n, m⟩ k = P
theorem put_r {O : Oz} (hO : O = zO) (Φ : Phi) (HU : UsedR (Phi.fn Φ 34)) : PutR (p47 O Φ) := fun {rb nn n v t m} hR hW hrb hnn x hx1 hx2 k P hn hf => by
  have hS := hR.s
  have hRw := hR.r
  have hlen := hW.len
  have hsz := hW.sz
  have hsl := A7 t
  have hso : ((srt t).L.map En.path).Pairwise (· < ·) := Hi hW
  have hS0 : Am (mp m n (.cells (enV x) 70 .exact)) rb (.cells [v, .s (pack t.cwd)] 42 .exact) := Ff (by omega) (by omega) hS
  have hRw0 : RowE (mp m n (.cells (enV x) 70 .exact)) nn v (srt t).L := hRw.kp (Kp.mp (Kp.refl _ _) (Nat.le_refl n) (by omega)) hnn
  by_cases hlg : 256 < x.path.length ∨ 8192 < x.data.length
  · rw [put_long hlg] at hf
    repeat' ((conv => lhs; whnf); first | ((refine bxEn hO (by omega) ?_)) | ((with_reducible refine fa0 hO ?_)) | ((with_reducible refine Br ?_); refine ldC hO aQ (by rfl) ?_) | (((with_reducible refine lsS hO ?_); try simp only [List.length_cons, List.length_nil, Nat.zero_add])) | ((with_reducible refine gtT hO (by omega) ?_)) | ((with_reducible refine gtB hO (fun h => ?_) (fun h => ?_))))
    all_goals (conv => lhs; whnf)
    all_goals first
      | exact hf _ _ v (by omega) (by omega) (Kq.of kQ _) ⟨aQ, hRw0.up (by omega)⟩ (fun _ _ h => h)
      | (exfalso; omega)
  repeat' ((conv => lhs; whnf); first | ((refine bxEn hO (by omega) ?_)) | ((with_reducible refine fa0 hO ?_)) | ((with_reducible refine Br ?_); refine ldC hO aQ (by rfl) ?_) | (((with_reducible refine lsS hO ?_); try simp only [List.length_cons, List.length_nil, Nat.zero_add])) | ((with_reducible refine gtF hO (by omega) ?_)))
  all_goals (conv => lhs; whnf)
  all_goals first
    | (exfalso; omega)
    | refine lpI hO (fun q e n' m' => ∃ i o d w, i ≤ (srt t).L.length ∧ q = (srt t).L.length - i ∧ n + 1 ≤ n' ∧ n' ≤ n + 1 + 4 * i ∧ Kp (n + 1) (mp m n (.cells (enV x) 70 .exact)) m' ∧ ((srt t).L.take i).foldl (Fx x) ([], false) = (o, d) ∧ EnAt m' (n + 1) n' w o ∧ e = eof [(4, .n .i64 0), (5, w), (6, .b d), (7, .n .i64 i)]) ?_ ?_ _ (srt t).L.length _ _ _ (by omega) ⟨0, [], false, .o .sl, by omega, rfl, Nat.le_refl _, Nat.le_refl _, Kp.refl _ _, rfl, EnAt.nil _ _ _, rfl⟩
  · rintro q e n' m' ⟨i, o, d, w, _, _, h, _⟩; omega
  · (  rintro q e n1 m1 ih ⟨i, o, d, w, hi, rfl, hn1, hn2, k1, hfo, hE, rfl⟩ hih
       have hS1 : Am m1 rb (.cells [v, .s (pack t.cwd)] 42 .exact) := k1 _ _ (by omega) hS0
       have hX1 : Am m1 n (.cells (enV x) 70 .exact) := k1 _ _ (by omega) (Ap (by omega))
       have hRw1 := hRw0.kp k1 (by omega)
       have hol : o.length ≤ 2 * i := by
         have h0 : o.length ≤ 0 + 2 * min i (srt t).L.length := by
           have := stp_len (x := x) (S := (srt t).L.take i) (p := ([], false))
           rw [hfo, List.length_take] at this; exact this
         omega
       rcases Nat.lt_or_ge i (srt t).L.length with hlt | hge
       · obtain ⟨y, hy⟩ : ∃ y, (srt t).L[i]? = some y := ⟨_, List.getElem?_eq_getElem hlt⟩
         have hst := stp_take (x := x) hy ([], false)
         rw [hfo] at hst
         rcases hRw1 with ⟨h00, rfl⟩ | ⟨b, Kb, xb, eb, tlb, rfl, hbn, hbm⟩
         · rw [h00] at hlt; exact absurd hlt (Nat.not_lt_zero _)
         have hy2 := (List.getElem?_eq_some_iff.1 hy).1
         rcases d with _ | _
         repeat' ((conv => lhs; whnf); first | ((refine lnE1 hO aQ ?_)) | ((refine lnEn hO aQ hy ?_)) | ((with_reducible refine bsEn hO (by omega) ?_)) | ((refine geSB hO (fun h => ?_) (fun h => ?_))) | ((with_reducible refine fa0 hO ?_)) | ((with_reducible refine faN hO ?_)) | ((with_reducible refine Br ?_); first | refine ldC hO aQ (by rfl) ?_ | refine ldC hO aQ (In hy) ?_) | ((with_reducible refine lvS hO ?_)) | ((with_reducible refine ltT hO (by omega) ?_)) | ((with_reducible refine neSB hO (fun h => ?_) (fun h => ?_))) | ((with_reducible refine adI hO (by omega) ?_)) | ((with_reducible refine ix0 hO (by omega) ?_)) | ((with_reducible refine Ms ?_); first | refine apEn (lo := n + 1) hO (hE2.kp kQ (Nat.le_refl _)) (Ap (by omega)) (by first | omega | (rw [List.length_append, List.length_singleton]; omega)) (by omega) (by omega) (by omega) (fun m4 hm4 hE4 => (fun k4 : Kp (n + 1) _ m4 => ?_) hm4) | refine apEn (lo := n + 1) hO (hE.kp kQ (Nat.le_refl _)) (Ap (by omega)) (by omega) (by omega) (by omega) (by omega) (fun m2 hm2 hE2 => (fun k2 : Kp (n + 1) _ m2 => ?_) hm2)))
         all_goals (conv => lhs; whnf)
         all_goals first
           | (exfalso; have h1 : y.path < x.path := (by assumption); have h2 : y.path = x.path := (by assumption); rw [h2] at h1; exact List.lt_irrefl _ h1)
           | exact hih ((srt t).L.length - (i + 1)) _ _ _ (by omega) ⟨i + 1, _, _, _, by omega, rfl, by omega, by omega, kQ, hst.trans (by unfold Fx; simp [*]), hE4.up (by omega), rfl⟩
           | exact hih ((srt t).L.length - (i + 1)) _ _ _ (by omega) ⟨i + 1, _, _, _, by omega, rfl, by omega, by omega, kQ, hst.trans (by unfold Fx; simp [*]), hE2.up (by omega), rfl⟩
           | exact hih ((srt t).L.length - (i + 1)) _ _ _ (by omega) ⟨i + 1, _, _, _, by omega, rfl, by omega, by omega, kQ, hst.trans (by unfold Fx; simp [*]), hE.up (by omega), rfl⟩
       · obtain rfl : i = (srt t).L.length := by omega
         rw [List.take_length] at hfo
         have hfin := stp_ins (x := x) (o := []) hso
         rw [hfo, List.nil_append] at hfin
         have hil := ins_len (x := x) (S := (srt t).L)
         have hism := Lq hW x
         have hbg : Gy t x ≤ At t.L + x.path.length := by unfold Gy; split <;> omega
         have hrs : (srt (Cn t x).1).cwd = t.cwd := by unfold Cn; split <;> (try split) <;> rfl
         rcases d with _ | _
         · have hfin : o ++ [x] = Dq x (srt t).L := hfin
           repeat' ((conv => lhs; whnf); first | ((refine lnE1 hO aQ ?_)) | ((with_reducible refine bsEn hO (by omega) ?_)) | ((refine lvE hO hRw1 ?_)) | ((with_reducible refine A4 ?_); refine used_at HU (L := Dq x (srt t).L) aQ (hRW.kp kQ (Nat.le_refl _)) (by omega) (by omega) _ _ ?_) | ((with_reducible refine fa0 hO ?_)) | ((with_reducible refine Br ?_); refine ldC hO aQ (by rfl) ?_) | ((with_reducible refine ltF hO (by omega) ?_)) | ((with_reducible refine gtB hO (fun h => ?_) (fun h => ?_))) | ((with_reducible refine Hc ?_); refine stC hO aQ (by kernel_rfl) (fun _ _ _ => rfl) (fun _ => rfl) ?_) | ((with_reducible refine atBx ?_); refine bxA hO (by omega) (by simp only [αL, αV, AObj.of, Cv, βO, βL, βV, As]) ?_) | ((with_reducible refine Ms ?_); refine apEn (lo := n + 1) hO (hE.kp kQ (Nat.le_refl _)) (Ap (by omega)) (by omega) (by omega) (by omega) (by omega) (fun m2 hm2 hE2 => (fun k2 : Kp (n + 1) _ m2 => (fun hRW => ?_) (hfin ▸ hE2.row)) hm2)) | ((with_reducible first | refine umt hO ?_ | refine uqu hO ?_ | refine urm hO ?_ | refine uan hO ?_ | refine uro hO ?_ | refine uxr hO ?_ | refine uhl hO ?_ | refine uhr hO ?_ | refine uad hO ?_ | refine usb hO ?_ | refine ult hO ?_ | refine ule hO ?_ | refine ugt hO ?_ | refine uge hO ?_ | refine ueq hO ?_ | refine une hO ?_ | refine ucv hO ?_ | refine uia hO ?_ | refine usv hO ?_ | refine ubu hO ?_ | refine uap hO ?_ | refine ubs hO ?_ | refine umm hO ?_ | refine upq hO ?_ | refine unq hO ?_ | refine uln hO ?_)))
           all_goals (conv => lhs; whnf)
           all_goals first
             | (rw [put_full hW hlg (by omega)] at hf; exact hf _ _ v (by omega) (by omega) (Kq.of kQ _) ⟨aQ, (hRw0.kp (k := n + 1) kQ (by omega)).up (by omega)⟩ (fun _ _ h => h))
             | (obtain ⟨hz1, hz2⟩ := put_done hW hlg (by omega); rw [hz1, hz2] at hf; refine hf _ _ _ (by omega) (by omega) qQ ⟨Ap (by omega), ?_⟩ (fun G hG _ b o L K x z h => by cases h; exact ⟨hG _ (by omega), by omega⟩); exact (RowE.kg (rb := rb) (hRW.kp kQ (Nat.le_refl _)) (Kq.mp (Kq.refl _ _ _) (.inr (by simp)) (by omega)) (Nat.le_refl _) (fun b o L K x z h => by cases h; omega)).up (by omega))
         · have hfin : o = Dq x (srt t).L := hfin
           have hRW := hfin ▸ hE.row
           rcases hE with ⟨h00, _⟩ | ⟨bo, rfl, hb1, hb2, hb3⟩
           · exact absurd (hfin.symm.trans h00) ins_ne
           repeat' ((conv => lhs; whnf); first | ((refine lvE hO hRw1 ?_)) | ((with_reducible refine A4 ?_); refine used_at HU (L := Dq x (srt t).L) aQ (hRW.kp kQ (Nat.le_refl _)) (by omega) (by omega) _ _ ?_) | ((with_reducible refine fa0 hO ?_)) | ((with_reducible refine Br ?_); refine ldC hO aQ (by rfl) ?_) | ((with_reducible refine ltF hO (by omega) ?_)) | ((with_reducible refine gtB hO (fun h => ?_) (fun h => ?_))) | ((with_reducible refine Hc ?_); refine stC hO aQ (by kernel_rfl) (fun _ _ _ => rfl) (fun _ => rfl) ?_) | ((with_reducible refine atBx ?_); refine bxA hO (by omega) (by simp only [αL, αV, AObj.of, Cv, βO, βL, βV, As]) ?_) | ((with_reducible first | refine umt hO ?_ | refine uqu hO ?_ | refine urm hO ?_ | refine uan hO ?_ | refine uro hO ?_ | refine uxr hO ?_ | refine uhl hO ?_ | refine uhr hO ?_ | refine uad hO ?_ | refine usb hO ?_ | refine ult hO ?_ | refine ule hO ?_ | refine ugt hO ?_ | refine uge hO ?_ | refine ueq hO ?_ | refine une hO ?_ | refine ucv hO ?_ | refine uia hO ?_ | refine usv hO ?_ | refine ubu hO ?_ | refine uap hO ?_ | refine ubs hO ?_ | refine umm hO ?_ | refine upq hO ?_ | refine unq hO ?_ | refine uln hO ?_)))
           all_goals (conv => lhs; whnf)
           all_goals first
             | (rw [put_full hW hlg (by omega)] at hf; exact hf _ _ v (by omega) (by omega) (Kq.of kQ _) ⟨aQ, (hRw0.kp (k := n + 1) kQ (by omega)).up (by omega)⟩ (fun _ _ h => h))
             | (obtain ⟨hz1, hz2⟩ := put_done hW hlg (by omega); rw [hz1, hz2] at hf; refine hf _ _ _ (by omega) (by omega) qQ ⟨Ap (by omega), ?_⟩ (fun G hG _ b o L K x z h => by cases h; exact ⟨hG _ (by omega), by omega⟩); exact (RowE.kg (rb := rb) (hRW.kp kQ (Nat.le_refl _)) (Kq.mp (Kq.refl _ _ _) (.inr (by simp)) (by omega)) (Nat.le_refl _) (fun b o L K x z h => by cases h; omega)).up (by omega)))
end Go.Proofs.YtjoakhpdajlhiaaGreatDoor.V2.S
namespace Go.Proofs.YtjoakhpdajlhiaaGreatDoor.V2.S
open Go
set_option maxRecDepth 100000
set_option linter.unusedVariables false
section
variable {O : Oz} (hO : O = zO) {P : FR} {c : FV → FR} {k : KV} {n : Nat} {m : T FObj}
include hO
theorem bSP {b o L Kk : Nat} {x : Bool} {l : Bs} {e : TypeId} {t : Tl} (ha : Am m b (.bs (pack l) e t)) (hl : o + L ≤ l.length) (h : c (.s (pack ((l.drop o).take L))) = P) : O.bS (.sl b o L Kk x 1) ⟨n, m⟩ c = P := by
  subst hO
  show (rowQ false 1 ⟨n, m⟩ (.sl b o L Kk x 1) fun _ R => kR (fun s => c (.s s)) (fun l => List.rec (motive := fun _ => FR) (c (.s 1)) (fun _ _ _ => .bad) l) (fun _ _ => slV (B1 std (αH ⟨n, m⟩) .sl2str [αV (.sl b o L Kk x 1)]) c) R) = P
  rw [rowQs, rowSb ha hl]; exact h
end
end Go.Proofs.YtjoakhpdajlhiaaGreatDoor.V2.S
namespace Go.Proofs.YtjoakhpdajlhiaaGreatDoor.V2.S
open Go
set_option maxRecDepth 100000
set_option maxHeartbeats 4000000
set_option linter.unusedVariables false
attribute [local irreducible] fN fO nM gM pM Phi.fn Phi.yl Phi.up mp bl Au Be Bh pack
theorem bxP {O : Oz} (hO : O = zO) {P : FR} {k : KV} {n : Nat} {m : T FObj} {b o : Nat} {e : TypeId} (hn : n < 1000000) (h : k (.p n 0) ⟨n + 1, mp m n (.cells [.p b o] e .exact)⟩ = P) : O.bx e (.p b o) ⟨n, m⟩ k = P := by
  subst hO
  show (nM ⟨n, m⟩ (.cells [.p b o] e .exact) fun b σ => k (.p b 0) σ) = P
  rw [Dl hn]; exact h
def SameS (H : HF) : Prop := ∀ {tb mb rb nn n : Nat} {v : FV} {t : Tr} {m : T FObj}, TreeAt m tb mb 39 t → RTree m rb nn v (srt t) → WfT t → tb < n → mb < n → rb < n → nn ≤ n → Ret 3200 H [.p tb 0, .p rb 0] n m (.b true)
theorem aR {m : T FObj} {b : Nat} {o : FObj} (h : Am m b o := by (repeat (first | assumption | exact Ap (by omega) | apply Ff (by omega) (by omega) | apply kp_am (by assumption) (by omega) | apply Kq.am (by assumption) (by omega) (by first | exact nm0 | exact nm1 (by omega) | exact nm2 (by omega) (by omega))))) : Am m b o := h
theorem same_s {O : Oz} (hO : O = zO) (Φ : Phi) (HU : UsedS (Phi.fn Φ 33)) (HUR : UsedR (Phi.fn Φ 34)) (HCw : CwdS (Phi.fn Φ 35)) (HB : BytesS (Phi.fn Φ 36)) (HBR : BytesR (Phi.fn Φ 37)) (H : ∀ y Y, WalkN (Phi.fn (Phi.up Φ y Y) 38) y Y) : SameS (p11 O Φ) := fun {tb mb rb nn n v t m} hT hR hW htb hmb hrb hnn k P hn hf => by
  have hT1 := hT.s
  have hT2 := hT.m
  have hRS : Am m rb (.cells [v, .s (pack t.cwd)] 42 .exact) := hR.s
  have hRw := hR.r
  have hwl := hW.len
  have hsz := hW.sz
  have htl : (G0 t).length ≤ 34000 := by rw [← byI_all]; exact byI_len hW _
  repeat' ((conv => lhs; whnf); first | ((with_reducible refine alO hO (by omega) ?_)) | ((with_reducible refine atBx ?_); refine bxP hO (by omega) ?_))
  all_goals (conv => lhs; whnf)
  refine A4 ?_
  refine HU (t := t) ⟨aR, aR⟩ (by omega) (by omega) hW _ _ (by omega) (fun n1 m1 h1 g1 k1 => ?_)
  have aT : Am m1 tb (.cells [.m mb, .s (pack t.cwd)] 39 .exact) := aR
  have aM : Am m1 mb (.map (t.L.map fun a => (.s (pack (En.path a)), Eb a))) := aR
  have aS : Am m1 rb (.cells [v, .s (pack t.cwd)] 42 .exact) := aR
  have a0 : Am m1 n (.cells [.p rb 0] 25 .exact) := aR
  have a1 : Am m1 (n + 1) (.cells [.b false] 4 .exact) := aR
  have kk : Kp n m m1 := kQ
  have hRow : RowE m1 nn v (srt t).L := hRw.kp kk hnn
  clear hT1 hT2 hRS hRw k1
  repeat' ((conv => lhs; whnf); first | ((with_reducible refine Br ?_); refine ldC hO aQ (by rfl) ?_))
  all_goals (conv => lhs; whnf)
  refine A4 ?_
  refine HUR (t := srt t) ⟨aS, hRow⟩ (by rw [A7]; omega) (by rw [K3]; omega) _ _ ?_
  rw [A7, K3]
  repeat' ((conv => lhs; whnf); first | ((with_reducible refine fa0 hO ?_)) | ((with_reducible refine Br ?_); refine ldC hO aQ (by rfl) ?_) | ((with_reducible refine neF hO (by omega) ?_)))
  all_goals (conv => lhs; whnf)
  refine A4 ?_
  refine HCw (t := t) ⟨aT, aM⟩ (by omega) (by omega) _ _ ?_
  repeat' ((conv => lhs; whnf); first | ((with_reducible refine Br ?_); refine ldC hO aQ (by rfl) ?_) | ((with_reducible refine neSF hO (by first | rfl | assumption) ?_)) | ((with_reducible refine rcE hO (by kernel_rfl) rfl ?_)))
  all_goals (conv => lhs; whnf)
  refine A4 ?_
  refine HB (t := t) ⟨aT, aM⟩ (by omega) (by omega) hW _ _ (by omega) (fun v2 n2 m2 h2 g2 k2 q2 => ?_)
  obtain ⟨b2, rfl, b21, b22, aB⟩ := q2
  replace kk := kk.trans (Kq.low (n := n) k2 (by omega) (fun x hx => by first | exact absurd hx List.not_mem_nil | (rw [List.mem_singleton.1 hx]; omega))) (Nat.le_refl n)
  replace aT := k2 _ _ (by omega) nm0 aT
  replace aM := k2 _ _ (by omega) nm0 aM
  replace aS := k2 _ _ (by omega) nm0 aS
  replace a0 := k2 _ _ (by omega) nm0 a0
  replace a1 := k2 _ _ (by omega) nm0 a1
  replace hRow := hRow.kp (Kq.kp k2) (by omega)
  repeat' ((conv => lhs; whnf); first | ((refine bSP hO aB (by omega) ?_; rw [tk0 rfl])) | ((with_reducible refine Br ?_); refine ldC hO aQ (by rfl) ?_) | ((with_reducible refine rcE hO (by kernel_rfl) rfl ?_)))
  all_goals (conv => lhs; whnf)
  refine A4 ?_
  refine HBR (t := srt t) ⟨aS, hRow⟩ (srt_wf hW) (srt_id hW) (by omega) (by omega) _ _ (by omega) (fun v3 n3 m3 h3 g3 k3 q3 => ?_)
  rw [srt_tree hW] at q3
  obtain ⟨b3, rfl, b31, b32, aC⟩ := q3
  replace kk := kk.trans (Kq.low (n := n) k3 (by omega) (fun x hx => by first | exact absurd hx List.not_mem_nil | (rw [List.mem_singleton.1 hx]; omega))) (Nat.le_refl n)
  replace aT := k3 _ _ (by omega) nm0 aT
  replace aM := k3 _ _ (by omega) nm0 aM
  replace aS := k3 _ _ (by omega) nm0 aS
  replace a0 := k3 _ _ (by omega) nm0 a0
  replace a1 := k3 _ _ (by omega) nm0 a1
  replace aB := k3 _ _ (by omega) nm0 aB
  replace hRow := hRow.kp (Kq.kp k3) (by omega)
  repeat' ((conv => lhs; whnf); first | ((refine bSP hO aB (by omega) ?_; rw [tk0 rfl])) | ((refine bSP hO aC (by omega) ?_; rw [tk0 rfl])) | ((with_reducible refine neSF hO (by first | rfl | assumption) ?_)) | ((with_reducible refine Hc ?_); refine ust hO ?_) | ((with_reducible refine alO hO (by omega) ?_)) | ((with_reducible refine rcE hO (by kernel_rfl) rfl ?_)) | (with_reducible refine (Dl (by omega)).trans ?_) | (with_reducible refine pM_mp.trans ?_) | (refine Hy aQ ?_))
  all_goals (conv => lhs; whnf)
  refine A4 ?_
  refine H _ _ (t := t) 2 [n3] (fun N i n1 m1 => Am m1 n3 (.ints .i64 [Int.ofNat i] 3 .exact)) ⟨aR, aR⟩ (by omega) (by omega) hW (fun x hx => by first | exact absurd hx List.not_mem_nil | (rw [List.mem_singleton.1 hx]; omega)) (fun x hx => by first | exact absurd hx List.not_mem_nil | (rw [List.mem_singleton.1 hx]; omega)) (fun x hx => by first | exact absurd hx List.not_mem_nil | (rw [List.mem_singleton.1 hx]; omega)) (fun N i e n5 m5 k5 P5 he hN hn5 hc5 hq5 hI5 hk5 => ?_) _ _ (by omega) (fun N m4 h4 g4 k4 => aR) (fun N n4 m4 h4 g4 l4 k4 hI4 => ?_)
  · have b0 : Am m5 n (.cells [.p rb 0] 25 .exact) := aR
    have bS : Am m5 rb (.cells [v, .s (pack t.cwd)] 42 .exact) := aR
    have hRow5 : RowE m5 nn v (srt t).L := (hRow.kp (k := n3) kQ (by omega)).kq hq5 (by omega) (fun x hx => by rw [List.mem_singleton.1 hx]; omega)
    have hy : (srt t).L[i]? = some e := he
    have hil := (List.getElem?_eq_some_iff.1 hy).1
    have hsl := A7 t
    rcases hRow5 with ⟨h00, rfl⟩ | ⟨b, Kb, xb, eb, tlb, rfl, hbn, hbm⟩
    · rw [h00] at hil; exact absurd hil (Nat.not_lt_zero _)
    repeat' ((conv => lhs; whnf); first | ((refine lnEn hO aR hy ?_)) | ((refine lnE1 (a := e) hO aR ?_)) | ((refine pqSame hO ?_)) | ((with_reducible refine fa0 hO ?_)) | ((with_reducible refine Br ?_); first | refine ldC hO aQ (by rfl) ?_ | refine ldI hO aQ (by rfl) ?_) | ((with_reducible refine lvS hO ?_)) | ((with_reducible refine geF hO (by omega) ?_)) | ((with_reducible refine adI hO (by omega) ?_)) | ((with_reducible refine ix0 hO (by omega) ?_)) | ((with_reducible refine Hc ?_); refine ust hO ?_) | ((with_reducible refine alO hO (by omega) ?_)) | (with_reducible refine (Aj _ _).trans ?_) | (with_reducible refine pM_mp.trans ?_) | (refine Hy aQ ?_))
    all_goals (conv => lhs; whnf)
    all_goals first
      | exact hk5 _ _ (by omega) (by omega) qQ aR
  · have b0 : Am m4 n (.cells [.p rb 0] 25 .exact) := aR
    have b1 : Am m4 (n + 1) (.cells [.b false] 4 .exact) := aR
    have bS : Am m4 rb (.cells [v, .s (pack t.cwd)] 42 .exact) := aR
    have hRow5 : RowE m4 nn v (srt t).L := (hRow.kp (k := n3) kQ (by omega)).kq k4 (by omega) (fun x hx => by rw [List.mem_singleton.1 hx]; omega)
    have k4l := Kq.low (n := n) k4 (by omega) (fun x hx => by rw [List.mem_singleton.1 hx]; omega)
    have hsl := A7 t
    repeat' ((conv => lhs; whnf); first | ((refine lvE hO hRow5 ?_)) | ((with_reducible refine fa0 hO ?_)) | ((with_reducible refine Br ?_); first | refine ldC hO aQ (by rfl) ?_ | refine ldI hO aQ (by rfl) ?_) | ((with_reducible refine eqT hO (by omega) ?_)) | ((with_reducible refine Hc ?_); refine stC hO aQ (by kernel_rfl) (fun _ _ _ => rfl) (fun _ => rfl) ?_) | (refine Hy aQ ?_))
    all_goals (conv => lhs; whnf)
    all_goals first
      | exact hf _ _ (by omega) (by omega) kQ
end Go.Proofs.YtjoakhpdajlhiaaGreatDoor.V2.S
namespace Go.Proofs.YtjoakhpdajlhiaaGreatDoor.V2.S
open Go
set_option maxRecDepth 100000
set_option linter.unusedVariables false
/-! Removing, listing: plain facts for the reference. -/
theorem del_srt {a : Bs} {S : List En} (h : (S.map En.path).Pairwise (· < ·)) : ((D4 En.path a S).map En.path).Pairwise (· < ·) := h.sublist ((Hz a S).map _)
theorem sort_del {L : List En} (hn : (L.map En.path).Nodup) (a : Bs) : A2 (D4 En.path a L) = D4 En.path a (A2 L) := by
  have hn2 : ((D4 En.path a L).map En.path).Nodup := hn.sublist ((Hz a L).map _)
  have hs1 : ((A2 (D4 En.path a L)).map En.path).Pairwise (· < ·) := by rw [Dt]; exact Da hn2
  have hs2 : ((A2 L).map En.path).Pairwise (· < ·) := by rw [Dt]; exact Da hn
  refine srt_ext hs1 (del_srt hs2) fun p => ?_
  rw [lookS hn2, J7 hn, J7 (srt_nd hs2), lookS hn]
theorem pF_pre {az cs : List Bs} {r : Bs} (ha : ∀ x ∈ az, An x = 0) (hc : ∀ x ∈ cs, An x = 0) (h : pF cs = pF az ++ 47 :: r) : cs = az ++ Ak r := by
  have h1 := If cs [] hc
  rw [List.nil_append, h, Gk] at h1
  have h2 := If az [] ha
  rw [List.nil_append] at h2
  rw [h2] at h1
  have h3 : [[]] ++ az ++ Ak r = [[]] ++ cs := h1
  rw [List.append_assoc] at h3
  exact (List.append_cancel_left h3).symm
theorem busy_iff {t : Tr} {a : Bs} {az cs : List Bs} (ha : St t a az) (hc : St t t.cwd cs) : G9 t a ↔ ∃ j, j ≤ cs.length ∧ a = Ck (cs.take j) := by
  obtain ⟨ga, ea, _⟩ := ha
  obtain ⟨gc, ec, _⟩ := hc
  have hj0 : Bt a [] = pF az ++ [47] := by rw [ea, Ga ga, C6]
  constructor
  · rintro (h | h | h)
    · exact ⟨0, Nat.zero_le _, h⟩
    · exact ⟨cs.length, Nat.le_refl _, by rw [List.take_length, h]; exact ec⟩
    · unfold Cq at h
      rw [hj0, Bool.and_eq_true, decide_eq_true_iff, decide_eq_true_iff] at h
      obtain ⟨h1, h2⟩ := h
      by_cases hcn : cs = []
      · subst hcn
        rw [ec] at h1
        have h1 : (pF az ++ [47]).length ≤ 1 := h1
        rw [List.length_append] at h1
        cases az with
        | nil => exact ⟨0, Nat.zero_le _, ea⟩
        | cons x l => simp [pF] at h1
      have e1 : t.cwd = pF cs := by rw [ec]; unfold Ck; rw [if_neg hcn]
      have e2 : pF cs = pF az ++ 47 :: t.cwd.drop (pF az ++ [47]).length := by
        rw [← e1]
        have := List.take_append_drop (pF az ++ [47]).length t.cwd
        rw [h2, List.append_assoc] at this
        exact this.symm
      have e3 := pF_pre (fun x hx => (ga x hx).c0) (fun x hx => (gc x hx).c0) e2
      refine ⟨az.length, by rw [e3, List.length_append]; omega, ?_⟩
      rw [e3, List.take_left]; exact ea
  · rintro ⟨j, hj, h⟩
    by_cases h0 : j = 0
    · subst h0; exact .inl h
    · by_cases h1 : j = cs.length
      · subst h1; rw [List.take_length] at h; exact .inr (.inl (h.trans ec.symm))
      · refine .inr (.inr ?_)
        have hn : cs.take j ≠ [] := fun e => by
          have := congrArg List.length e
          rw [List.length_take, List.length_nil] at this; omega
        have hcn : cs ≠ [] := fun e => by subst e; simp at hj; omega
        have hja : Bt a [] = pF (cs.take j) ++ [47] := by rw [h, Ga (fun x hx => gc x (List.mem_of_mem_take hx)), C6]
        have e1 : t.cwd = pF cs := by rw [ec]; unfold Ck; rw [if_neg hcn]
        obtain ⟨x, l, hxl⟩ : ∃ x l, cs.drop j = x :: l := by
          cases hd : cs.drop j with
          | nil => have := congrArg List.length hd; rw [List.length_drop, List.length_nil] at this; omega
          | cons x l => exact ⟨x, l, rfl⟩
        have e2 : t.cwd = (pF (cs.take j) ++ [47]) ++ (x ++ pF l) := by
          rw [e1]
          conv => lhs; rw [← List.take_append_drop j cs, pF_app, hxl]
          show _ ++ (47 :: x ++ pF l) = _
          rw [List.append_assoc]; rfl
        unfold Cq
        rw [hja, Bool.and_eq_true, decide_eq_true_iff, decide_eq_true_iff]
        constructor
        · rw [e2]; simp only [List.length_append]; omega
        · rw [e2, List.take_left]
theorem insBs_perm (x : Bs) : ∀ l : List Bs, (Hx x l).Perm (x :: l)
  | [] => .refl _
  | y :: l => by
    unfold Hx
    split
    · exact ((insBs_perm x l).cons y).trans (.swap _ _ _)
    · exact .refl _
theorem L8 : ∀ l : List Bs, (Db l).Perm l
  | [] => .refl _
  | x :: l => (insBs_perm x (Db l)).trans ((L8 l).cons x)
theorem app_lt : ∀ {l a b : Bs}, l ++ a < l ++ b → a < b
  | [], a, b, h => h
  | c :: l, a, b, h => by
    rcases List.cons_lt_cons_iff.1 (show c :: (l ++ a) < c :: (l ++ b) from h) with h | h
    · exact absurd h (by exact UInt8.lt_irrefl c)
    · exact app_lt h.2
theorem out_srt {d : Bs} {l : List Bs} (hs : l.Pairwise (· < ·)) (hh : ∀ x ∈ l, x.head? = some 47) : (C1 d l).Pairwise (· < ·) := by
  unfold C1
  refine List.Pairwise.map _ (fun x y h => h) ?_ |> fun h => h
  refine (hs.filter _).imp_of_mem fun {x y} hx hy hlt => ?_
  obtain ⟨hx1, hx2⟩ := List.mem_filter.1 hx
  obtain ⟨hy1, hy2⟩ := List.mem_filter.1 hy
  have e1 := (La (hh x hx1) (of_decide_eq_true hx2)).2
  have e2 := (La (hh y hy1) (of_decide_eq_true hy2)).2
  rw [← List.take_append_drop (Bt d []).length x, ← List.take_append_drop (Bt d []).length y, e1, e2] at hlt
  exact app_lt hlt
theorem J4 {t : Tr} (hW : WfT t) (d : Bs) : Db (C1 d (t.L.map En.path)) = C1 d ((srt t).L.map En.path) := by
  have hh : ∀ x ∈ t.L.map En.path, x.head? = some 47 := fun x hx => by
    obtain ⟨e, he, rfl⟩ := List.mem_map.1 hx
    exact hW.hd e he
  have hp : ((srt t).L.map En.path).Perm (t.L.map En.path) := (A0 t.L).map _
  have hs : ((srt t).L.map En.path).Pairwise (· < ·) := Hi hW
  have h1 : (Db (C1 d (t.L.map En.path))).Pairwise (· < ·) := Da (outG_nd hW.nd hh)
  have h2 : (C1 d ((srt t).L.map En.path)).Pairwise (· < ·) := out_srt hs fun x hx => hh x (hp.mem_iff.1 hx)
  have hperm : (C1 d ((srt t).L.map En.path)).Perm (C1 d (t.L.map En.path)) := (hp.filter _).map _
  exact ((L8 _).trans hperm.symm).eq_of_pairwise (le := (· < ·)) (fun a b _ _ h1 h2 => absurd h2 (List.lt_asymm h1)) h1 h2
theorem del_at : ∀ {S : List En}, (S.map En.path).Pairwise (· < ·) → ∀ {k : Nat} {e : En}, S[k]? = some e → D4 En.path e.path S = S.take k ++ S.drop (k + 1)
  | [], _, k, e, h => by simp at h
  | y :: S, hs, 0, e, h => by
    simp at h; subst h
    unfold D4; rw [if_pos rfl]; rfl
  | y :: S, hs, k + 1, e, h => by
    rw [List.map_cons] at hs
    have h1 := List.pairwise_cons.1 hs
    have h' : S[k]? = some e := by simpa using h
    have hlt := h1.1 e.path (List.mem_map.2 ⟨e, List.mem_of_getElem? h', rfl⟩)
    unfold D4
    rw [if_neg (fun he => by rw [he] at hlt; exact List.lt_irrefl _ hlt), del_at h1.2 h']; rfl
theorem Md {t : Tr} (hO : OkT t) {a : Bs} (h : Al t a = 2) : Bk t a = false := by
  cases hw : Bk t a with
  | false => rfl
  | true =>
    unfold Bk at hw
    obtain ⟨e, he, hp⟩ := List.any_eq_true.1 hw
    obtain ⟨ns, n, hg, hn, hpe, hk⟩ := hO.en e he
    have : C9 e.path = Ck ns := by rw [hpe]; exact Hn ns hn
    rw [of_decide_eq_true hp] at this
    rw [← this, h] at hk; cases hk
theorem out_within {t : Tr} (hW : WfT t) (d : Bs) : C1 d ((srt t).L.map En.path) = [] ↔ Bk t d = false := by
  rw [← J4 hW]
  constructor
  · intro h
    refine out_none.1 (List.eq_nil_of_length_eq_zero ?_)
    rw [← Ev, h]; rfl
  · intro h
    rw [out_none.2 h]; rfl
theorem rem_abs {t : Tr} {p : Bs} (h : (Ae t p).2 ≠ 0) : Ax t p = (t, (Ae t p).2) := by unfold Ax; rw [if_pos h]
theorem rem_none {t : Tr} {p : Bs} (h : (Ae t p).2 = 0) (h1 : Al t (Ae t p).1 = 0) : Ax t p = (t, 6) := by unfold Ax; rw [if_neg (by omega), if_pos h1]
theorem rem_busy {t : Tr} {p : Bs} (h : (Ae t p).2 = 0) (h1 : Al t (Ae t p).1 ≠ 0) (h2 : G9 t (Ae t p).1) : Ax t p = (t, 1) := by unfold Ax; rw [if_neg (by omega), if_neg h1, if_pos h2]
theorem rem_full {t : Tr} {p : Bs} (h : (Ae t p).2 = 0) (h1 : Al t (Ae t p).1 ≠ 0) (h2 : ¬ G9 t (Ae t p).1) (h3 : Bk t (Ae t p).1 = true) : Ax t p = (t, 10) := by unfold Ax; rw [if_neg (by omega), if_neg h1, if_neg h2, if_pos h3]
theorem rem_done {t : Tr} {p : Bs} (h : (Ae t p).2 = 0) (h1 : Al t (Ae t p).1 ≠ 0) (h2 : ¬ G9 t (Ae t p).1) (h3 : Bk t (Ae t p).1 = false) : Ax t p = ({ t with L := D4 En.path (Ae t p).1 t.L }, 0) := by unfold Ax; rw [if_neg (by omega), if_neg h1, if_neg h2, if_neg (by rw [h3]; decide)]
theorem rem_srt {t : Tr} (hW : WfT t) (a : Bs) {k : Nat} {e : En} (h : (srt t).L[k]? = some e) (ha : e.path = a) : srt { t with L := D4 En.path a t.L } = ⟨(srt t).L.take k ++ (srt t).L.drop (k + 1), t.cwd⟩ := by
  show (⟨A2 (D4 En.path a t.L), t.cwd⟩ : Tr) = _
  rw [sort_del hW.nd, ← ha, del_at (Hi hW) h]; rfl
end Go.Proofs.YtjoakhpdajlhiaaGreatDoor.V2.S
