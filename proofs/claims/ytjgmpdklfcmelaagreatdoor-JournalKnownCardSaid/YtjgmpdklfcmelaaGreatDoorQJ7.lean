/- Part 7 of the proof: texts of the proof. -/
import Derived.Test.YtjgmpdklfcmelaaGreatDoorQJ6
namespace Go.Proofs.YtjgmpdklfcmelaaGreatDoor.V2
open Go
noncomputable section
inductive RowF where
  | bs (c : Nat)
  | cells (l : List FV)
  | ints (k : IntKind) (l : List Int)
def αR : RowF → Row
  | .bs c => .ints .u8 (unpI c)
  | .cells l => .cells (αL l)
  | .ints k l => .ints k l
def rowS (size : Nat) (σ : FH) (b o n z : Nat) (c : Nat → RowF → FR) : FR := gM σ b fun ob => FObj.rec (motive := fun _ => FR) (gT (Nat.beq n 0) (c 0 (.cells []))) (fun l _ _ => gT (Nat.beq z size) (oneK l (lenK l 0 fun q => gT (Nat.ble (Nat.add o (Nat.mul n size)) q) (dropK o l fun l => takeK (Nat.mul n size) l fun l => c n (.cells l))))) (fun s _ _ => gT (Nat.beq z size) (gT (Nat.ble (Nat.add o (Nat.mul n size)) (bl s)) (fN (bpart s o (Nat.mul n size)) fun q => c n (.bs q)))) (fun k l _ _ => gT (Nat.beq z size) (lenK l 0 fun q => gT (Nat.ble (Nat.add o (Nat.mul n size)) q) (dropK o l fun l => takeK (Nat.mul n size) l fun l => c n (.ints k l)))) (fun _ => .bad) .bad ob
def rowQ (str : Bool) (size : Nat) (σ : FH) (v : FV) (c : Nat → RowF → FR) : FR := FV.rec (motive_1 := fun _ => FR) (motive_2 := fun _ => FR) (fun _ _ => .bad) (fun _ _ => .bad) (fun _ => .bad) (fun q => Bool.rec .bad (gT (Nat.beq size 1) (fN (bl q) fun n => c n (.bs q))) str) (fun _ _ => .bad) (fun b o n _ _ z => Bool.rec (rowS size σ b o n z c) .bad str) (fun _ => .bad) (fun _ => .bad) (fun _ _ _ _ _ => .bad) (fun _ _ _ => .bad) (fun _ _ => .bad) (fun _ => .bad) (fun _ _ => .bad) (fun _ _ => .bad) (fun j => Nl.rec (motive := fun _ => FR) .bad .bad (Bool.rec (c 0 (.cells [])) .bad str) .bad .bad .bad j) .bad (fun _ _ _ _ => .bad) v
theorem rowS_cases {size : Nat} {σ : FH} {b o n k : Nat} {e : Bool} {z : Nat} {c : Nat → RowF → FR} (h : rowS size σ b o n z c ≠ .bad) : ∃ m R, rowA std false size (αH σ) (.sl b o n k e z) = (true, m, αR R) ∧ rowS size σ b o n z c = c m R := by
  unfold rowS at h ⊢
  obtain ⟨ob, _, h3, h4⟩ := gM_cases h
  rw [h4] at h ⊢
  unfold rowA
  dsimp only
  rw [h3]
  cases ob with
  | dead =>
    obtain ⟨h5, h6⟩ := gT_cases (show gT (Nat.beq n 0) (c 0 (.cells [])) ≠ .bad from h)
    exact ⟨0, .cells [], by simp only [αO, h5]; rfl, h6⟩
  | cells l e' t =>
    obtain ⟨h5, h6⟩ := gT_cases (show gT (Nat.beq z size) (oneK l (lenK l 0 fun q => gT (Nat.ble (Nat.add o (Nat.mul n size)) q) (dropK o l fun l => takeK (Nat.mul n size) l fun l => c n (.cells l)))) ≠ .bad from h)
    have h : gT (Nat.beq z size) (oneK l (lenK l 0 fun q => gT (Nat.ble (Nat.add o (Nat.mul n size)) q) (dropK o l fun l => takeK (Nat.mul n size) l fun l => c n (.cells l)))) ≠ .bad := h
    show ∃ m R, _ ∧ gT (Nat.beq z size) (oneK l (lenK l 0 fun q => gT (Nat.ble (Nat.add o (Nat.mul n size)) q) (dropK o l fun l => takeK (Nat.mul n size) l fun l => c n (.cells l)))) = _
    rw [h6] at h ⊢
    obtain ⟨h7, h8⟩ := oneK_cases h
    rw [h8] at h ⊢
    rw [lenK_eq, Nat.zero_add] at h ⊢
    obtain ⟨g1, g2⟩ := gT_cases h
    rw [g2, dropK_eq, takeK_eq]
    refine ⟨n, .cells ((l.drop o).take (Nat.mul n size)), ?_, rfl⟩
    have g1 : Nat.ble (o + n * size) l.length = true := g1
    simp only [αO, h5, h7, αL_length, g1, αR, αL_take, αL_drop]
    rfl
  | bs s e' t =>
    have h : gT (Nat.beq z size) (gT (Nat.ble (Nat.add o (Nat.mul n size)) (bl s)) (fN (bpart s o (Nat.mul n size)) fun q => c n (.bs q))) ≠ .bad := h
    show ∃ m R, _ ∧ gT (Nat.beq z size) (gT (Nat.ble (Nat.add o (Nat.mul n size)) (bl s)) (fN (bpart s o (Nat.mul n size)) fun q => c n (.bs q))) = _
    obtain ⟨h5, h6⟩ := gT_cases h
    rw [h6] at h ⊢
    obtain ⟨g1, g2⟩ := gT_cases h
    rw [g2, fN_eq]
    refine ⟨n, .bs (bpart s o (Nat.mul n size)), ?_, rfl⟩
    have g1 : Nat.ble (o + n * size) (bl s) = true := g1
    have e1 : unpI (bpart s o (Nat.mul n size)) = ((unpI s).drop o).take (n * size) := unpI_bpart (ble_of g1)
    simp only [αO, αR, h5, std, unpI_length, g1]
    rw [e1]
    rfl
  | ints k' l e' t =>
    have h : gT (Nat.beq z size) (lenK l 0 fun q => gT (Nat.ble (Nat.add o (Nat.mul n size)) q) (dropK o l fun l => takeK (Nat.mul n size) l fun l => c n (.ints k' l))) ≠ .bad := h
    show ∃ m R, _ ∧ gT (Nat.beq z size) (lenK l 0 fun q => gT (Nat.ble (Nat.add o (Nat.mul n size)) q) (dropK o l fun l => takeK (Nat.mul n size) l fun l => c n (.ints k' l))) = _
    obtain ⟨h5, h6⟩ := gT_cases h
    rw [h6] at h ⊢
    rw [lenK_eq, Nat.zero_add] at h ⊢
    obtain ⟨g1, g2⟩ := gT_cases h
    rw [g2, dropK_eq, takeK_eq]
    refine ⟨n, .ints k' ((l.drop o).take (Nat.mul n size)), ?_, rfl⟩
    have g1 : Nat.ble (o + n * size) l.length = true := g1
    simp only [αO, αR, h5, std, g1]
    rfl
  | _ => exact absurd rfl h
theorem rowQ_cases {str : Bool} {size : Nat} {σ : FH} {v : FV} {c : Nat → RowF → FR} (h : rowQ str size σ v c ≠ .bad) : ∃ m R, rowA std str size (αH σ) (αV v) = (true, m, αR R) ∧ rowQ str size σ v c = c m R := by
  cases v with
  | s q =>
    cases str with
    | false => exact absurd rfl h
    | true =>
      have h : gT (Nat.beq size 1) (fN (bl q) fun n => c n (.bs q)) ≠ .bad := h
      show ∃ m R, _ ∧ gT (Nat.beq size 1) (fN (bl q) fun n => c n (.bs q)) = _
      obtain ⟨h1, h2⟩ := gT_cases h
      rw [h2, fN_eq]
      refine ⟨bl q, .bs q, ?_, rfl⟩
      unfold rowA
      simp only [αV, h1, std, unp_length]
      rfl
  | sl b o n k e z =>
    cases str with
    | true => exact absurd rfl h
    | false => exact rowS_cases (k := k) (e := e) h
  | o j =>
    cases j with
    | sl =>
      cases str with
      | true => exact absurd rfl h
      | false => exact ⟨0, .cells [], rfl, rfl⟩
    | _ => exact absurd rfl h
  | _ => exact absurd rfl h
def ofQ (l : List FV) (e : TypeId) (t : Tl) (c : FObj → FR) : FR := List.rec (motive := fun _ => FR) (c (.cells [] e t)) (fun v q _ => FV.rec (motive_1 := fun _ => FR) (motive_2 := fun _ => FR) (fun _ _ => Bool.rec (c (.cells l e t)) (fO (βO (AObj.of (αL l) e t)) c) (allI q)) (fun _ _ => Bool.rec (c (.cells l e t)) (fO (βO (AObj.of (αL l) e t)) c) (allI q)) (fun _ => c (.cells l e t)) (fun _ => c (.cells l e t)) (fun _ _ => c (.cells l e t)) (fun _ _ _ _ _ _ => c (.cells l e t)) (fun _ => c (.cells l e t)) (fun _ => c (.cells l e t)) (fun _ _ _ _ _ => c (.cells l e t)) (fun _ _ _ => c (.cells l e t)) (fun _ _ => c (.cells l e t)) (fun _ => c (.cells l e t)) (fun _ _ => c (.cells l e t)) (fun _ _ => c (.cells l e t)) (fun _ => c (.cells l e t)) .bad (fun _ _ _ _ => .bad) v) l
theorem ofQ_of (l : List FV) (e : TypeId) (t : Tl) (c : FObj → FR) : ∃ o, αO o = AObj.of (αL l) e t ∧ ofQ l e t c = c o := by
  cases l with
  | nil => exact ⟨.cells [] e t, rfl, rfl⟩
  | cons v l =>
    have slow : ∃ o, αO o = AObj.of (αL (v :: l)) e t ∧ fO (βO (AObj.of (αL (v :: l)) e t)) c = c o := ⟨βO (AObj.of (αL (v :: l)) e t), αβO _, fO_eq _ _⟩
    cases v
    case n k m =>
      show ∃ o, _ ∧ (Bool.rec (c (.cells (.n k m :: l) e t)) (fO (βO (AObj.of (αL (.n k m :: l)) e t)) c) (allI l) : FR) = c o
      cases hb : allI l with
      | true => exact slow
      | false =>
        refine ⟨.cells (.n k m :: l) e t, ?_, rfl⟩
        simp only [αO, αL, αV, AObj.of, allI_none k l hb]
    case z k m =>
      show ∃ o, _ ∧ (Bool.rec (c (.cells (.z k m :: l) e t)) (fO (βO (AObj.of (αL (.z k m :: l)) e t)) c) (allI l) : FR) = c o
      cases hb : allI l with
      | true => exact slow
      | false =>
        refine ⟨.cells (.z k m :: l) e t, ?_, rfl⟩
        simp only [αO, αL, αV, AObj.of, allI_none k l hb]
    case o j => cases j <;> exact ⟨.cells _ e t, rfl, rfl⟩
    all_goals exact ⟨.cells _ e t, rfl, rfl⟩
def kR (fb : Nat → FR) (fc : List FV → FR) (fi : IntKind → List Int → FR) (R : RowF) : FR := RowF.rec (motive := fun _ => FR) fb fc fi R
def slC (e : TypeId) (R1 R2 : RowF) (c : FObj → FR) : FR := Prod.rec (fun ok o => gT ok (fO (βO o) c)) (catA std e (αR R1) (αR R2))
theorem slC_cases {e : TypeId} {R1 R2 : RowF} {c : FObj → FR} (h : slC e R1 R2 c ≠ .bad) : ∃ o, catA std e (αR R1) (αR R2) = (true, αO o) ∧ slC e R1 R2 c = c o := by
  unfold slC at h ⊢
  generalize catA std e (αR R1) (αR R2) = r at h
  obtain ⟨ok, o⟩ := r
  obtain ⟨h1, h2⟩ := gT_cases (show gT ok (fO (βO o) c) ≠ .bad from h)
  exact ⟨βO o, by rw [h1, αβO], h2.trans (fO_eq _ _)⟩
def catQ (e : TypeId) (R1 R2 : RowF) (c : FObj → FR) : FR := kR
  (fun a => kR (fun b => fN (bapp a b) fun s => c (.bs s e .more)) (fun m => List.rec (motive := fun _ => FR) (c (.bs a e .more)) (fun _ _ _ => slC e R1 R2 c) m) (fun _ _ => slC e R1 R2 c) R2)
  (fun l => kR (fun b => List.rec (motive := fun _ => FR) (c (.bs b e .more)) (fun _ _ _ => slC e R1 R2 c) l) (fun m => appK l m fun l => ofQ l e .more c) (fun _ _ => slC e R1 R2 c) R2)
  (fun _ _ => slC e R1 R2 c) R1
theorem catQ_cases {e : TypeId} {R1 R2 : RowF} {c : FObj → FR} (h : catQ e R1 R2 c ≠ .bad) : ∃ o, catA std e (αR R1) (αR R2) = (true, αO o) ∧ catQ e R1 R2 c = c o := by
  cases R1 with
  | bs a =>
    cases R2 with
    | bs b =>
      refine ⟨.bs (bapp a b) e .more, ?_, fN_eq (bapp a b) fun s => c (.bs s e .more)⟩
      simp only [αR, catA, αO, unpI_bapp]
      rfl
    | cells m =>
      cases m with
      | nil => exact ⟨.bs a e .more, rfl, rfl⟩
      | cons v m => exact slC_cases h
    | ints k l => exact slC_cases h
  | cells l =>
    cases R2 with
    | bs b =>
      cases l with
      | nil => exact ⟨.bs b e .more, rfl, rfl⟩
      | cons v m => exact slC_cases h
    | cells m =>
      show ∃ o, _ ∧ (appK l m fun l => ofQ l e .more c) = c o
      rw [appK_eq]
      obtain ⟨o, h1, h2⟩ := ofQ_of (l ++ m) e .more c
      refine ⟨o, ?_, h2⟩
      simp only [αR, catA]
      rw [h1, αL_append]
    | ints k m => exact slC_cases h
  | ints k l => exact slC_cases h
def baQ (e : TypeId) (N : Nat) (s : FV) (σ : FH) (f : FH → FR) : FR := kSN (fun b _ _ k ex _ => gM σ b fun ob => FObj.rec (motive := fun _ => FR) .bad (fun _ el t => Bool.rec (gT (Nat.beq el e) (gW t (pM σ b .dead f))) (Bool.rec (gT (Nat.beq el e) (gW t (pM σ b .dead f))) (f σ) (Nat.ble (Nat.succ k) N)) ex) (fun _ el t => Bool.rec (gT (Nat.beq el e) (gW t (pM σ b .dead f))) (Bool.rec (gT (Nat.beq el e) (gW t (pM σ b .dead f))) (f σ) (Nat.ble (Nat.succ k) N)) ex) (fun _ _ el t => Bool.rec (gT (Nat.beq el e) (gW t (pM σ b .dead f))) (Bool.rec (gT (Nat.beq el e) (gW t (pM σ b .dead f))) (f σ) (Nat.ble (Nat.succ k) N)) ex) (fun _ => .bad) .bad ob) (f σ) s
theorem baQ_cases {e : TypeId} {N : Nat} {s : FV} {σ : FH} {f : FH → FR} (h : baQ e N s σ f ≠ .bad) : ∃ σ', baseOk std (αH σ) e N (αV s) = true ∧ αH σ' = killA std (αH σ) N (αV s) ∧ baQ e N s σ f = f σ' := by
  unfold baQ at h ⊢
  rcases kSN_cases h with ⟨b, o, n, k, ex, z, rfl, h1⟩ | ⟨rfl, h1⟩
  · rw [h1] at h ⊢
    obtain ⟨ob, _, h3, h4⟩ := gM_cases h
    rw [h4] at h ⊢
    have key : ∀ (el : TypeId) (t : Tl), (αO ob).cellsy = true → (αO ob).elem = el → (αO ob).isRo = t.isRo → (Bool.rec (gT (Nat.beq el e) (gW t (pM σ b .dead f))) (Bool.rec (gT (Nat.beq el e) (gW t (pM σ b .dead f))) (f σ) (Nat.ble (Nat.succ k) N)) ex : FR) ≠ .bad →
        ∃ σ', baseOk std (αH σ) e N (.sl b o n k ex z) = true ∧ αH σ' = killA std (αH σ) N (.sl b o n k ex z) ∧ (Bool.rec (gT (Nat.beq el e) (gW t (pM σ b .dead f))) (Bool.rec (gT (Nat.beq el e) (gW t (pM σ b .dead f))) (f σ) (Nat.ble (Nat.succ k) N)) ex : FR) = f σ' := by
      intro el t c1 c2 c3 h
      have dead : gT (Nat.beq el e) (gW t (pM σ b .dead f)) ≠ .bad → (Nat.beq el e && !(αO ob).isRo) = true ∧ ∃ σ', αH σ' = (αH σ).put b .dead ∧ gT (Nat.beq el e) (gW t (pM σ b .dead f)) = f σ' := fun h => by
        obtain ⟨g1, g2⟩ := gT_cases h
        rw [g2] at h ⊢
        obtain ⟨g3, g4⟩ := gW_cases h
        rw [g4, pM_eq]
        exact ⟨by rw [g1, c3, g3]; rfl, _, pM_α σ b .dead, rfl⟩
      cases ex with
      | false =>
        obtain ⟨g1, σ', g2, g3⟩ := dead h
        refine ⟨σ', ?_, g2, g3⟩
        simp only [baseOk, h3]
        rw [c1, c2, g1]; rfl
      | true =>
        have h : (Bool.rec (gT (Nat.beq el e) (gW t (pM σ b .dead f))) (f σ) (Nat.ble (Nat.succ k) N) : FR) ≠ .bad := h
        show ∃ σ', _ ∧ _ ∧ (Bool.rec (gT (Nat.beq el e) (gW t (pM σ b .dead f))) (f σ) (Nat.ble (Nat.succ k) N) : FR) = _
        cases hb : Nat.ble (Nat.succ k) N with
        | false =>
          rw [hb] at h
          obtain ⟨g1, σ', g2, g3⟩ := dead h
          refine ⟨σ', ?_, ?_, g3⟩
          · simp only [baseOk, h3]
            rw [c1, c2, g1]; rfl
          · rw [g2]
            show _ = bif Nat.ble (Nat.succ k) N then αH σ else (αH σ).put b .dead
            rw [hb]; rfl
        | true =>
          refine ⟨σ, ?_, ?_, rfl⟩
          · simp only [baseOk, h3]
            have hb : std.ltN k N = true := hb
            rw [c1, hb, Bool.true_and, Bool.and_self, Bool.or_true]
          · show _ = bif Nat.ble (Nat.succ k) N then αH σ else (αH σ).put b .dead
            rw [hb]; rfl
    cases ob with
    | cells l el t => exact key el t rfl rfl rfl h
    | bs s el t => exact key el t rfl rfl rfl h
    | ints k' l el t => exact key el t rfl rfl rfl h
    | _ => exact absurd rfl h
  · exact ⟨σ, rfl, rfl, h1⟩
theorem unpI_zero (n : Nat) : unpI (top1 n) = List.replicate n 0 ∧ bl (top1 n) = n := by
  have hb : bl (top1 n) = n := by rw [top1_eq]; exact (by simpa using bl_of (n := n) (v := 0) (Nat.pow_pos (by omega)))
  refine ⟨?_, hb⟩
  unfold unpI unp
  rw [hb, top1_eq]
  apply List.ext_getElem?
  intro i
  rw [List.getElem?_map, List.getElem?_replicate]
  by_cases hi : i < n
  · rw [unpN_at _ _ _ hi, if_pos hi, Option.map_some]
    obtain ⟨q, rfl⟩ := Nat.exists_eq_add_of_lt hi
    have : 256 ^ (i + q + 1) / 256 ^ i % 256 = 0 := by
      rw [show i + q + 1 = i + (q + 1) by omega, Nat.pow_add, Nat.mul_div_cancel_left _ (Nat.pow_pos (by omega)), Nat.pow_succ, Nat.mul_mod_left]
    rw [this]; rfl
  · rw [List.getElem?_eq_none (by rw [unpN_length]; omega), if_neg hi]; rfl
theorem unpI_zero' (n : Nat) : unpI (top1 n) = List.replicate n 0 := (unpI_zero n).1
def apR (e : TypeId) (size : Nat) (s : FV) (m : Nat) (R2 : RowF) (σ : FH) (k : KV) : FR := Nat.rec (kSN (fun _ _ _ _ _ z => gT (Nat.beq z size) (k s σ)) (k s σ) s) (fun p _ => rowQ false size σ s fun n R1 => fN (Nat.add n (Nat.succ p)) fun N => gT (Nat.ble N 1000000000000) (baQ e N s σ fun σ => catQ e R1 R2 fun o => nM σ o fun b σ => k (.sl b 0 N N false size) σ)) m
theorem apR_sm (e : TypeId) (size : Nat) (s : FV) (m : Nat) (R2 : RowF) (σ : FH) (k : KV) : Sm (apR e size s m R2 σ k) k (bif std.eqN m 0 && isSl size (αV s) then (true, αV s, αH σ) else appR std (αH σ) e size (αV s) (true, m, αR R2)) := by
  intro h
  unfold apR at h ⊢
  cases m with
  | zero =>
    have h : kSN (fun _ _ _ _ _ z => gT (Nat.beq z size) (k s σ)) (k s σ) s ≠ .bad := h
    show ∃ v σ', _ ∧ kSN (fun _ _ _ _ _ z => gT (Nat.beq z size) (k s σ)) (k s σ) s = _
    rcases kSN_cases h with ⟨b, o, n, kk, ex, z, rfl, g1⟩ | ⟨rfl, g1⟩
    · rw [g1] at h ⊢
      obtain ⟨g2, g3⟩ := gT_cases h
      refine ⟨.sl b o n kk ex z, σ, ?_, g3⟩
      simp only [αV, isSl, g2, std]; rfl
    · exact ⟨.o .sl, σ, rfl, g1⟩
  | succ p =>
    have h : (rowQ false size σ s fun n R1 => fN (Nat.add n (Nat.succ p)) fun N => gT (Nat.ble N 1000000000000) (baQ e N s σ fun σ => catQ e R1 R2 fun o => nM σ o fun b σ => k (.sl b 0 N N false size) σ)) ≠ .bad := h
    show ∃ v σ', _ ∧ (rowQ false size σ s fun n R1 => fN (Nat.add n (Nat.succ p)) fun N => gT (Nat.ble N 1000000000000) (baQ e N s σ fun σ => catQ e R1 R2 fun o => nM σ o fun b σ => k (.sl b 0 N N false size) σ)) = _
    obtain ⟨n, R1, h3, h4⟩ := rowQ_cases h
    rw [h4] at h ⊢
    try dsimp only at h ⊢
    rw [fN_eq] at h ⊢
    obtain ⟨g1, g2⟩ := gT_cases h
    rw [g2] at h ⊢
    obtain ⟨σ1, g3, g4, g5⟩ := baQ_cases h
    rw [g5] at h ⊢
    try dsimp only at h ⊢
    obtain ⟨o, g6, g7⟩ := catQ_cases h
    rw [g7] at h ⊢
    try dsimp only at h ⊢
    obtain ⟨g8, σ2, g9, g10⟩ := nM_cases h
    rw [g10]
    refine ⟨.sl σ1.next 0 (n + (p + 1)) (n + (p + 1)) false size, σ2, ?_, rfl⟩
    show appR std (αH σ) e size (αV s) (true, p + 1, αR R2) = _
    unfold appR
    rw [h3]
    dsimp only
    rw [g6]
    dsimp only
    have k1 : baseOk std (αH σ) e (std.addN n (p + 1)) (αV s) = true := g3
    have k2 : std.leN (std.addN n (p + 1)) 1000000000000 = true := g1
    have k3 : αH σ1 = killA std (αH σ) (std.addN n (p + 1)) (αV s) := g4
    have k4 : (αH σ1).next = (αH σ).next := by
      rw [k3]
      cases αV s <;> try rfl
      rename_i b0 o0 n0 k0 ex0 z0
      cases ex0
      · rfl
      · show (bif std.ltN k0 (std.addN n (p + 1)) then αH σ else (αH σ).put b0 .dead).next = _
        cases std.ltN k0 (std.addN n (p + 1)) <;> rfl
    rw [k1, k2, ← k3, g9]
    have k5 : Nat.blt (αH σ).next 1000000 = true := by rw [← k4]; exact g8
    rw [k5]
    have k6 : std.eqN (p + 1) 0 = false := rfl
    rw [k6, ← k4]; rfl
def apQ (e : TypeId) (str : Bool) (size : Nat) (s x : FV) (σ : FH) (k : KV) : FR := rowQ str size σ x fun m R2 => apR e size s m R2 σ k
theorem apQ_sm (e : TypeId) (str : Bool) (size : Nat) (s x : FV) (σ : FH) (k : KV) : Sm (apQ e str size s x σ k) k (xstep std (αH σ) (.append e str size) [αV s, αV x]) := by
  intro h
  unfold apQ at h ⊢
  obtain ⟨m, R2, h1, h2⟩ := rowQ_cases h
  rw [h2] at h ⊢
  try dsimp only at h ⊢
  simp only [xstep, appN]
  rw [h1]
  exact apR_sm e size s m R2 σ k h
def azQ (e : TypeId) (kd : IntKind) (s x : FV) (σ : FH) (k : KV) : FR := kNn (fun _ n => gT (Nat.ble n 1000000) (gK .u8 kd (fN (top1 n) fun z => apR e 1 s n (.bs z) σ k))) x
theorem azQ_sm (hz : ∀ n, unpI (top1 n) = List.replicate n 0) (e : TypeId) (kd : IntKind) (s x : FV) (σ : FH) (k : KV) : Sm (azQ e kd s x σ k) k (xstep std (αH σ) (.appz e kd) [αV s, αV x]) := by
  intro h
  unfold azQ at h ⊢
  obtain ⟨kk, n, rfl, h1⟩ := kNn_cases h
  rw [h1] at h ⊢
  obtain ⟨h2, h3⟩ := gT_cases h
  rw [h3] at h ⊢
  obtain ⟨rfl, h4⟩ := gK_cases h
  rw [h4, fN_eq] at h ⊢
  have := apR_sm e 1 s n (.bs (top1 n)) σ k h
  simp only [αV, xstep, appX]
  have hr : zrow std .u8 (Int.ofNat n) = (true, n, αR (.bs (top1 n))) := by
    unfold zrow
    show (decide ((0 : Int) ≤ Int.ofNat n) && Nat.ble n 1000000, n, Row.ints .u8 (List.replicate n 0)) = _
    rw [dec0, h2]
    show _ = (true, n, Row.ints .u8 (unpI (top1 n)))
    rw [hz]; rfl
  rw [hr]
  exact this
def pcQ (R : RowF) (q : Nat) (c : FV → FR) : FR := kR (fun s => gT (Nat.ble q (bl s)) (fN (bpart s 0 q) fun m => c (.bs m))) (fun l => takeK q l fun l => agF l c) (fun k l => takeK q l fun l => c (.ints k l)) R
theorem pcQ_cases {R : RowF} {q : Nat} {c : FV → FR} (h : pcQ R q c ≠ .bad) : ∃ v, αV v = pieceA std q (αR R) ∧ pcQ R q c = c v := by
  cases R with
  | bs s =>
    have h : gT (Nat.ble q (bl s)) (fN (bpart s 0 q) fun m => c (.bs m)) ≠ .bad := h
    obtain ⟨h1, h2⟩ := gT_cases h
    refine ⟨.bs (bpart s 0 q), ?_, h2.trans (fN_eq _ _)⟩
    simp only [αV, αR, pieceA, std]
    rw [unpI_bpart (by rw [Nat.zero_add]; exact ble_of h1)]
  | cells l =>
    show ∃ v, _ ∧ (takeK q l fun l => agF l c) = _
    rw [takeK_eq]
    obtain ⟨v, h1, h2⟩ := agF_of (l.take q) c
    exact ⟨v, by rw [h1, αL_take]; rfl, h2⟩
  | ints k l =>
    show ∃ v, _ ∧ (takeK q l fun l => c (.ints k l)) = _
    rw [takeK_eq]
    exact ⟨.ints k (l.take q), rfl, rfl⟩
def cpQ (size : Nat) (str : Bool) (d x : FV) (σ : FH) (k : KV) : FR := rowQ str size σ x fun m R => kSN (fun b o n _ _ z => gT (Nat.beq z size) (fN (Bool.rec n m (Nat.ble m n)) fun cnt => Nat.rec (k (.n .i64 0) σ) (fun _ _ => pcQ R (Nat.mul cnt size) fun v => gM σ b fun ob => woF ob (Nat.mul cnt size) o v fun ob => pM σ b ob fun σ => k (.n .i64 cnt) σ) cnt)) (k (.n .i64 0) σ) d
theorem cpQ_sm (size : Nat) (str : Bool) (d x : FV) (σ : FH) (k : KV) : Sm (cpQ size str d x σ k) k (xstep std (αH σ) (.copy size str) [αV d, αV x]) := by
  intro h
  unfold cpQ at h ⊢
  obtain ⟨m, R, h1, h2⟩ := rowQ_cases h
  rw [h2] at h ⊢
  try dsimp only at h ⊢
  rcases kSN_cases h with ⟨b, o, n, kk, ex, z, rfl, g1⟩ | ⟨rfl, g1⟩
  · rw [g1] at h ⊢
    obtain ⟨g2, g3⟩ := gT_cases h
    rw [g3, fN_eq] at h ⊢
    simp only [αV, xstep]
    rw [h1]
    dsimp only
    have e1 : (bif std.leN m n then m else n) = (Bool.rec n m (Nat.ble m n) : Nat) := by
      show (bif Nat.ble m n then m else n) = _
      cases Nat.ble m n <;> rfl
    rw [e1]
    generalize (Bool.rec n m (Nat.ble m n) : Nat) = cnt at h ⊢
    cases cnt with
    | zero =>
      refine ⟨.n .i64 0, σ, ?_, rfl⟩
      simp only [cpyA, g2]; rfl
    | succ p =>
      have h : (pcQ R (Nat.mul (p + 1) size) fun v => gM σ b fun ob => woF ob (Nat.mul (p + 1) size) o v fun ob => pM σ b ob fun σ => k (.n .i64 (p + 1)) σ) ≠ .bad := h
      show ∃ v σ', _ ∧ (pcQ R (Nat.mul (p + 1) size) fun v => gM σ b fun ob => woF ob (Nat.mul (p + 1) size) o v fun ob => pM σ b ob fun σ => k (.n .i64 (p + 1)) σ) = _
      obtain ⟨v, h3, h4⟩ := pcQ_cases h
      rw [h4] at h ⊢
      try dsimp only at h ⊢
      obtain ⟨ob, _, h5, h6⟩ := gM_cases h
      rw [h6] at h ⊢
      obtain ⟨ob', g4, g5, g6⟩ := woF_ok _ _ _ _ _ h
      rw [g6]
      dsimp only
      rw [pM_eq]
      refine ⟨.n .i64 (p + 1), _, ?_, rfl⟩
      unfold cpyA
      rw [show std.eqN (p + 1) 0 = false from rfl, cond_false]
      rw [h5]
      dsimp only
      rw [pM_α, g5, h3]
      rw [Bool.and_eq_true, h3] at g4
      have g4 : (αO ob).writeOk std o (pieceA std (std.mulN (p + 1) size) (αR R)) = true := g4.1
      rw [g4, g2]; rfl
  · rw [g1]
    refine ⟨.n .i64 0, σ, ?_, rfl⟩
    simp only [αV, Nl.av, xstep]
    rw [h1]; rfl
/-! Maps. -/
def kyI (x y : FV) (yes no : FR) : FR := FV.rec (motive_1 := fun _ => FR) (motive_2 := fun _ => FR) (fun k a => kNn (fun k' b => gK k k' (Bool.rec no yes (Nat.beq a b))) y) (fun k a => kI (fun k' _ => gK k k' no) (fun k' b => gK k k' (Bool.rec no yes (Nat.beq a b))) y) (fun _ => .bad) (fun _ => .bad) (fun _ _ => .bad) (fun _ _ _ _ _ _ => .bad) (fun _ => .bad) (fun _ => .bad) (fun _ _ _ _ _ => .bad) (fun _ _ _ => .bad) (fun _ _ => .bad) (fun _ => .bad) (fun _ _ => .bad) (fun _ _ => .bad) (fun _ => .bad) .bad (fun _ _ _ _ => .bad) x
def kyQ (ck : CK) (x y : FV) (yes no : FR) : FR := CK.rec (motive := fun _ => FR) (kyI x y yes no) (kS (fun a => kS (fun b => sEq a b yes no) y) x) (kB (fun a => kB (fun b => Bool.rec (Bool.rec yes no b) (Bool.rec no yes b) a) y) x) ck
theorem kyQ_cases {ck : CK} {x y : FV} {yes no : FR} (h : kyQ ck x y yes no ≠ .bad) : ∃ e, flatEq std true [ck] (αV x) (αV y) = (true, e) ∧ kyQ ck x y yes no = bif e then yes else no := by
  have fl : ∀ {a b : AV} {e : Bool}, cellEq std ck a b = (true, e) → flatEq std true [ck] a b = (true, e) := fun {a b e} h => by
    simp only [flatEq, cellsEq, h]; cases e <;> rfl
  cases ck with
  | int =>
    cases x with
    | n k a =>
      obtain ⟨k', b, rfl, h1⟩ := kNn_cases (show kNn (fun k' b => gK k k' (Bool.rec no yes (Nat.beq a b))) y ≠ .bad from h)
      have h : gK k k' (Bool.rec no yes (Nat.beq a b)) ≠ .bad := by rw [← h1]; exact h
      obtain ⟨rfl, h2⟩ := gK_cases h
      refine ⟨Nat.beq a b, fl ?_, (h1.trans h2).trans (by cases Nat.beq a b <;> rfl)⟩
      simp only [αV, cellEq, std, decide_true, (cb_eql a b).1]
    | z k a =>
      rcases kI_cases (show kI (fun k' _ => gK k k' no) (fun k' b => gK k k' (Bool.rec no yes (Nat.beq a b))) y ≠ .bad from h) with ⟨k', b, rfl, h1⟩ | ⟨k', b, rfl, h1⟩
      · have h : gK k k' no ≠ .bad := by rw [← h1]; exact h
        obtain ⟨rfl, h2⟩ := gK_cases h
        refine ⟨false, fl ?_, h1.trans h2⟩
        simp only [αV, cellEq, std, decide_true, (cb_eql a b).2.2.1]
      · have h : gK k k' (Bool.rec no yes (Nat.beq a b)) ≠ .bad := by rw [← h1]; exact h
        obtain ⟨rfl, h2⟩ := gK_cases h
        refine ⟨Nat.beq a b, fl ?_, (h1.trans h2).trans (by cases Nat.beq a b <;> rfl)⟩
        simp only [αV, cellEq, std, decide_true, (cb_eql a b).2.2.2]
    | _ => exact absurd rfl h
  | str =>
    have h : kS (fun a => kS (fun b => sEq a b yes no) y) x ≠ .bad := h
    show ∃ e, _ ∧ kS (fun a => kS (fun b => sEq a b yes no) y) x = _
    obtain ⟨a, rfl, h1⟩ := kS_cases h
    rw [h1] at h ⊢
    obtain ⟨b, rfl, h2⟩ := kS_cases h
    rw [h2] at h ⊢
    rcases sEq_cases h with ⟨h3, h4⟩ | ⟨h3, h4⟩
    · exact ⟨true, fl (by simp [αV, cellEq, std, h3]), h4⟩
    · exact ⟨false, fl (by simp [αV, cellEq, std, h3]), h4⟩
  | bool =>
    have h : kB (fun a => kB (fun b => Bool.rec (Bool.rec yes no b) (Bool.rec no yes b) a) y) x ≠ .bad := h
    show ∃ e, _ ∧ kB (fun a => kB (fun b => Bool.rec (Bool.rec yes no b) (Bool.rec no yes b) a) y) x = _
    obtain ⟨a, rfl, h1⟩ := kB_cases h
    rw [h1] at h ⊢
    obtain ⟨b, rfl, h2⟩ := kB_cases h
    rw [h2]
    refine ⟨a == b, fl rfl, ?_⟩
    cases a <;> cases b <;> rfl
def fiQ (ck : CK) (key : FV) (l : List (FV × FV)) (i : Nat) (found : Nat → FV → FR) (nn : FR) : FR := List.rec (motive := fun _ => Nat → FR) (fun _ => nn) (fun p _ ih i => Prod.rec (fun x y => kyQ ck key x (found i y) (fN (Nat.succ i) ih)) p) l i
theorem fiQ_cases {ck : CK} {key : FV} {found : Nat → FV → FR} {nn : FR} : ∀ {l : List (FV × FV)} {i : Nat}, fiQ ck key l i found nn ≠ .bad → ∃ r : Option (Nat × FV), findA std true [ck] (αV key) (αP l) i = (true, r.map fun q => (q.1, αV q.2)) ∧ fiQ ck key l i found nn = (match r with | some q => found q.1 q.2 | none => nn)
  | [], i, _ => ⟨none, rfl, rfl⟩
  | p :: l, i, h => by
    obtain ⟨x, y⟩ := p
    have h : kyQ ck key x (found i y) (fN (Nat.succ i) fun i => fiQ ck key l i found nn) ≠ .bad := h
    show ∃ r : Option (Nat × FV), _ ∧ kyQ ck key x (found i y) (fN (Nat.succ i) fun i => fiQ ck key l i found nn) = _
    obtain ⟨e, h1, h2⟩ := kyQ_cases h
    rw [h2] at h ⊢
    simp only [αP, findA]
    rw [h1]
    cases e with
    | true => exact ⟨some (i, y), rfl, rfl⟩
    | false =>
      dsimp only [cond_false] at h ⊢
      rw [fN_eq] at h ⊢
      obtain ⟨r, h3, h4⟩ := fiQ_cases (l := l) (i := i + 1) h
      refine ⟨r, ?_, h4⟩
      rw [h3]; rfl
theorem findA_at {sc : Bool} {ks : List CK} {k : AV} : ∀ {l : List (AV × AV)} {i j : Nat} {v : AV} {ok : Bool}, findA std sc ks k l i = (ok, some (j, v)) → ∃ m p, j = i + m ∧ l[m]? = some p ∧ p.2 = v
  | [], i, j, v, ok, h => by cases h
  | p :: l, i, j, v, ok, h => by
    unfold findA at h
    generalize flatEq std sc ks k p.1 = r at h
    obtain ⟨o1, e⟩ := r
    cases e with
    | true => cases h; exact ⟨0, p, rfl, rfl, rfl⟩
    | false =>
      dsimp only at h
      generalize hq : findA std sc ks k l (i + 1) = q at h
      obtain ⟨o2, r2⟩ := q
      simp only [Prod.mk.injEq] at h
      obtain ⟨_, rfl⟩ := h
      obtain ⟨m, p', h1, h2, h3⟩ := findA_at hq
      exact ⟨m + 1, p', by omega, h2, h3⟩
def fsQ (sc : Bool) (ks : List CK) (key : FV) (l : List (FV × FV)) (found : Nat → FV → FR) (nn : FR) : FR := Prod.rec (fun ok r => gT ok (Option.rec nn (fun q => Prod.rec (fun i _ => fN i fun i => nthA l i fun p => Prod.rec (fun _ y => found i y) p) q) r)) (findA std sc ks (αV key) (αP l) 0)
def fdQ (sc : Bool) (ks : List CK) (key : FV) (l : List (FV × FV)) (found : Nat → FV → FR) (nn : FR) : FR := Bool.rec (fsQ false ks key l found nn) (List.rec (motive := fun _ => FR) (fsQ true ks key l found nn) (fun ck m _ => List.rec (motive := fun _ => FR) (fiQ ck key l 0 found nn) (fun _ _ _ => fsQ true ks key l found nn) m) ks) sc
theorem fsQ_cases {sc : Bool} {ks : List CK} {key : FV} {l : List (FV × FV)} {found : Nat → FV → FR} {nn : FR} (h : fsQ sc ks key l found nn ≠ .bad) : ∃ r : Option (Nat × FV), findA std sc ks (αV key) (αP l) 0 = (true, r.map fun q => (q.1, αV q.2)) ∧ fsQ sc ks key l found nn = (match r with | some q => found q.1 q.2 | none => nn) := by
  unfold fsQ at h ⊢
  generalize hf : findA std sc ks (αV key) (αP l) 0 = r at h
  obtain ⟨ok, r⟩ := r
  have h : gT ok (Option.rec nn (fun q => Prod.rec (fun i _ => fN i fun i => nthA l i fun p => Prod.rec (fun _ y => found i y) p) q) r) ≠ .bad := h
  show ∃ r', _ ∧ gT ok (Option.rec nn (fun q => Prod.rec (fun i _ => fN i fun i => nthA l i fun p => Prod.rec (fun _ y => found i y) p) q) r) = _
  obtain ⟨h1, h2⟩ := gT_cases h
  rw [h2] at h ⊢
  subst h1
  cases r with
  | none => exact ⟨none, rfl, rfl⟩
  | some q =>
    obtain ⟨i, v⟩ := q
    have h : (fN i fun i => nthA l i fun p => (Prod.rec (fun _ y => found i y) p : FR)) ≠ .bad := h
    show ∃ r', _ ∧ (fN i fun i => nthA l i fun p => (Prod.rec (fun _ y => found i y) p : FR)) = _
    rw [fN_eq] at h ⊢
    obtain ⟨p, h3, h4⟩ := nthA_cases h
    rw [h4]
    obtain ⟨m, p', e1, e2, e3⟩ := findA_at hf
    rw [αP_map, List.getElem?_map] at e2
    rw [Nat.zero_add] at e1
    subst e1
    rw [h3] at e2
    cases e2
    refine ⟨some (i, p.2), ?_, rfl⟩
    rw [← e3]; rfl
theorem fdQ_cases {sc : Bool} {ks : List CK} {key : FV} {l : List (FV × FV)} {found : Nat → FV → FR} {nn : FR} (h : fdQ sc ks key l found nn ≠ .bad) : ∃ r : Option (Nat × FV), findA std sc ks (αV key) (αP l) 0 = (true, r.map fun q => (q.1, αV q.2)) ∧ fdQ sc ks key l found nn = (match r with | some q => found q.1 q.2 | none => nn) := by
  cases sc with
  | false => exact fsQ_cases h
  | true =>
    cases ks with
    | nil => exact fsQ_cases h
    | cons ck m =>
      cases m with
      | nil => exact fiQ_cases h
      | cons _ _ => exact fsQ_cases h
def kMp (f : List (FV × FV) → FR) (ob : FObj) : FR := FObj.rec (motive := fun _ => FR) .bad (fun _ _ _ => .bad) (fun _ _ _ => .bad) (fun _ _ _ _ => .bad) (fun l => f l) .bad ob
theorem kMp_cases {f : List (FV × FV) → FR} {ob : FObj} (h : kMp f ob ≠ .bad) : ∃ l, ob = .map l ∧ kMp f ob = f l := by
  cases ob <;> first | exact ⟨_, rfl, rfl⟩ | exact absurd rfl h
theorem αP_append (l m : List (FV × FV)) : αP (l ++ m) = αP l ++ αP m := by rw [αP_map, αP_map, αP_map, List.map_append]
theorem αP_set (l : List (FV × FV)) (i : Nat) (p : FV × FV) : αP (l.set i p) = (αP l).set i (αV p.1, αV p.2) := by rw [αP_map, αP_map, List.map_set]
def erK {α : Type} (l : List α) (i : Nat) (k : List α → FR) : FR := List.rec (motive := fun _ => Nat → (List α → FR) → FR) (fun _ k => k []) (fun x l ih i k => Nat.rec (k l) (fun j _ => ih j fun l => k (x :: l)) i) l i k
theorem erK_eq {α : Type} : ∀ (l : List α) (i : Nat) (k : List α → FR), erK l i k = k (l.eraseIdx i)
  | [], i, k => rfl
  | x :: l, 0, k => rfl
  | x :: l, i + 1, k => by show erK l i (fun l => k (x :: l)) = _; rw [erK_eq l i]; rfl
theorem αP_erase : ∀ (l : List (FV × FV)) (i : Nat), αP (l.eraseIdx i) = (αP l).eraseIdx i
  | [], i => rfl
  | p :: l, 0 => rfl
  | p :: l, i + 1 => by rw [List.eraseIdx_cons_succ, αP, αP_erase l i]; rfl
def okQ (sc : Bool) (ks : List CK) (key : FV) (r : FR) : FR := gT (flatEq std sc ks (αV key) (αV key)).1 r
def muQ (sc : Bool) (ks : List CK) (m key v : FV) (σ : FH) (k : KV) : FR := kM (fun b => gM σ b (kMp fun l => okQ sc ks key (fdQ sc ks key l (fun i _ => gT sc (setK l i (key, v) fun l => pM σ b (.map l) fun σ => k (.tup []) σ)) (gT (sc || (αV key).isInts) (appK l [(key, v)] fun l => pM σ b (.map l) fun σ => k (.tup []) σ))))) m
theorem muQ_sm (sc : Bool) (ks : List CK) (m key v : FV) (σ : FH) (k : KV) : Sm (muQ sc ks m key v σ k) k (xstep std (αH σ) (.mapUpd sc ks) [αV m, αV key, αV v]) := by
  intro h
  unfold muQ at h ⊢
  obtain ⟨b, rfl, h1⟩ := kM_cases h
  rw [h1] at h ⊢
  obtain ⟨ob, _, h3, h4⟩ := gM_cases h
  rw [h4] at h ⊢
  obtain ⟨l, rfl, h5⟩ := kMp_cases h
  rw [h5] at h ⊢
  obtain ⟨h6, h7⟩ := gT_cases (show gT _ _ ≠ .bad from h)
  unfold okQ at h ⊢
  rw [h7] at h ⊢
  obtain ⟨r, h8, h9⟩ := fdQ_cases h
  rw [h9] at h ⊢
  simp only [αV, xstep, h3, αO]
  rw [h8]
  cases r with
  | none =>
    try dsimp only at h ⊢
    obtain ⟨g1, g2⟩ := gT_cases h
    rw [g2, appK_eq, pM_eq]
    refine ⟨.tup [], _, ?_, rfl⟩
    rw [pM_α]
    simp only [αO, αP_append, h6, Option.map_none, Option.isNone_none, Bool.true_and]
    rw [g1]; rfl
  | some q =>
    try dsimp only at h ⊢
    obtain ⟨g1, g2⟩ := gT_cases h
    rw [g2] at h ⊢
    subst g1
    rw [setK_eq] at h ⊢
    by_cases hl : q.1 < l.length
    · rw [if_pos hl, pM_eq]
      refine ⟨.tup [], _, ?_, rfl⟩
      rw [pM_α]
      simp only [αO, αP_set, h6, Option.map_some, Bool.true_and, Bool.true_or]
      rfl
    · rw [if_neg hl] at h; exact absurd rfl h
def mdQ (sc : Bool) (ks : List CK) (m key : FV) (σ : FH) (k : KV) : FR := FV.rec (motive_1 := fun _ => FR) (motive_2 := fun _ => FR) (fun _ _ => .bad) (fun _ _ => .bad) (fun _ => .bad) (fun _ => .bad) (fun _ _ => .bad) (fun _ _ _ _ _ _ => .bad) (fun b => gM σ b (kMp fun l => fdQ sc ks key l (fun i _ => erK l i fun l => pM σ b (.map l) fun σ => k (.tup []) σ) (pM σ b (.map l) fun σ => k (.tup []) σ))) (fun _ => .bad) (fun _ _ _ _ _ => .bad) (fun _ _ _ => .bad) (fun _ _ => .bad) (fun _ => .bad) (fun _ _ => .bad) (fun _ _ => .bad) (fun j => Nl.rec (motive := fun _ => FR) .bad .bad .bad (okQ sc ks key (k (.tup []) σ)) .bad .bad j) .bad (fun _ _ _ _ => .bad) m
theorem mdQ_sm (sc : Bool) (ks : List CK) (m key : FV) (σ : FH) (k : KV) : Sm (mdQ sc ks m key σ k) k (xstep std (αH σ) (.mapDel sc ks) [αV m, αV key]) := by
  intro h
  cases m with
  | m b =>
    have h : gM σ b (kMp fun l => fdQ sc ks key l (fun i _ => erK l i fun l => pM σ b (.map l) fun σ => k (.tup []) σ) (pM σ b (.map l) fun σ => k (.tup []) σ)) ≠ .bad := h
    show ∃ v σ', _ ∧ gM σ b (kMp fun l => fdQ sc ks key l (fun i _ => erK l i fun l => pM σ b (.map l) fun σ => k (.tup []) σ) (pM σ b (.map l) fun σ => k (.tup []) σ)) = _
    obtain ⟨ob, _, h3, h4⟩ := gM_cases h
    rw [h4] at h ⊢
    obtain ⟨l, rfl, h5⟩ := kMp_cases h
    rw [h5] at h ⊢
    obtain ⟨r, h8, h9⟩ := fdQ_cases h
    rw [h9] at h ⊢
    simp only [αV, xstep, h3, αO]
    rw [h8]
    cases r with
    | none =>
      dsimp only
      rw [pM_eq]
      refine ⟨.tup [], _, ?_, rfl⟩
      rw [pM_α]; rfl
    | some q =>
      dsimp only
      rw [erK_eq, pM_eq]
      refine ⟨.tup [], _, ?_, rfl⟩
      rw [pM_α]
      simp only [αO, αP_erase]; rfl
  | o j =>
    cases j with
    | map =>
      obtain ⟨h6, h7⟩ := gT_cases (show gT (flatEq std sc ks (αV key) (αV key)).1 (k (.tup []) σ) ≠ .bad from h)
      refine ⟨.tup [], σ, ?_, h7⟩
      simp only [αV, Nl.av, xstep, h6]; rfl
    | _ => exact absurd rfl h
  | _ => exact absurd rfl h
theorem T.set_self {α : Type} : ∀ (f : Nat) (t : T α) (n : Nat) (x : α), n < 2 ^ f → t.get n = some x → T.set f t n x = t
  | 0, t, n, x, h, hx => by
    have hn : n = 0 := by simpa using h
    subst hn
    cases t with
    | leaf => cases hx
    | node v l r => rw [T.get_eq] at hx; cases hx; rfl
  | f + 1, t, n, x, h, hx => by
    rw [T.set_succ]
    rw [T.get_eq] at hx
    rw [Nat.pow_succ] at h
    cases t with
    | leaf =>
      exfalso
      cases h0 : Nat.beq n 0 <;> rw [h0] at hx
      · cases h1 : Nat.beq (n % 2) 1 <;> rw [h1] at hx <;> cases hx
      · cases hx
    | node v l r =>
      cases h0 : Nat.beq n 0 with
      | true => rw [h0] at hx; cases hx; rfl
      | false =>
        rw [h0] at hx
        have hn : n ≠ 0 := fun e => by rw [e] at h0; cases h0
        cases h1 : Nat.beq (n % 2) 1 with
        | true =>
          rw [h1] at hx
          have := T.set_self f l (n / 2) x (by omega) hx
          show T.node v (T.set f l (n / 2) x) r = _
          rw [this]
        | false =>
          rw [h1] at hx
          have := T.set_self f r (n / 2 - 1) x (by omega) hx
          show T.node v l (T.set f r (n / 2 - 1) x) = _
          rw [this]
def mkQ (v : FV) (σ : FH) (k : KV) : FR := kSl (fun b _ _ c e _ => gT (Nat.ble (Nat.succ b) 1000000) (gM σ b fun ob => FObj.rec (motive := fun _ => FR) .bad (fun _ _ t => gW t (Nat.rec (gT e (k v σ)) (fun _ _ => k v σ) c)) (fun _ _ t => gW t (Nat.rec (gT e (k v σ)) (fun _ _ => k v σ) c)) (fun _ _ _ t => gW t (Nat.rec (gT e (k v σ)) (fun _ _ => k v σ) c)) (fun _ => .bad) .bad ob)) v
theorem mkQ_sm (v : FV) (σ : FH) (k : KV) : Sm (mkQ v σ k) k (xstep std (αH σ) .mark [αV v]) := by
  intro h
  unfold mkQ at h ⊢
  obtain ⟨b, o, n, c, e, z, rfl, h1⟩ := kSl_cases h
  rw [h1] at h ⊢
  obtain ⟨hb, h2⟩ := gT_cases h
  rw [h2] at h ⊢
  obtain ⟨ob, h0, h3, h4⟩ := gM_cases h
  rw [h4] at h ⊢
  have hput : (αH σ).put b (αO ob) = αH σ := by
    have : (αH σ).mem.put b (αO ob) = (αH σ).mem := T.set_self 20 _ _ _ (by have := ble_of hb; omega) h3
    unfold AH.put; rw [this]
  have key : ∀ t : Tl, (αO ob).cellsy = true → (αO ob).isRo = t.isRo → gW t (Nat.rec (gT e (k (.sl b o n c e z) σ)) (fun _ _ => k (.sl b o n c e z) σ) c) ≠ .bad → ∃ v σ', xstep std (αH σ) .mark [αV (.sl b o n c e z)] = (true, αV v, αH σ') ∧ gW t (Nat.rec (gT e (k (.sl b o n c e z) σ)) (fun _ _ => k (.sl b o n c e z) σ) c) = k v σ' := by
    intro t c1 c2 h
    obtain ⟨g1, g2⟩ := gW_cases h
    rw [g2] at h ⊢
    have fin : (αV (.sl b o n c e z)).sure = true → xstep std (αH σ) .mark [αV (.sl b o n c e z)] = (true, αV (.sl b o n c e z), αH σ) := fun hs => by
      have hs : (AV.sl b o n c e z).sure = true := hs
      simp only [αV, xstep, h3]
      rw [c1, c2, g1, hs, hput]; rfl
    cases c with
    | zero =>
      obtain ⟨g3, g4⟩ := gT_cases (show gT e (k (.sl b o n 0 e z) σ) ≠ .bad from h)
      exact ⟨_, σ, fin g3, g4⟩
    | succ c => exact ⟨_, σ, fin rfl, rfl⟩
  cases ob with
  | cells l e' t => exact key t rfl rfl h
  | bs s e' t => exact key t rfl rfl h
  | ints k' l e' t => exact key t rfl rfl h
  | _ => exact absurd rfl h
/-! By their lists of operands. -/
def k1L (l : List FV) (f : FV → FR) : FR := List.rec (motive := fun _ => FR) .bad (fun x m _ => List.rec (motive := fun _ => FR) (f x) (fun _ _ _ => .bad) m) l
def k2L (l : List FV) (f : FV → FV → FR) : FR := List.rec (motive := fun _ => FR) .bad (fun x m _ => k1L m (f x)) l
def k3L (l : List FV) (f : FV → FV → FV → FR) : FR := List.rec (motive := fun _ => FR) .bad (fun x m _ => k2L m (f x)) l
theorem k1L_cases {l : List FV} {f : FV → FR} (h : k1L l f ≠ .bad) : ∃ x, l = [x] ∧ k1L l f = f x := by
  match l, h with
  | [], h => exact absurd rfl h
  | [x], _ => exact ⟨x, rfl, rfl⟩
  | _ :: _ :: _, h => exact absurd rfl h
theorem k2L_cases {l : List FV} {f : FV → FV → FR} (h : k2L l f ≠ .bad) : ∃ x y, l = [x, y] ∧ k2L l f = f x y := by
  match l, h with
  | [], h => exact absurd rfl h
  | x :: m, h =>
    obtain ⟨y, rfl, h2⟩ := k1L_cases (show k1L m (f x) ≠ .bad from h)
    exact ⟨x, y, rfl, h2⟩
theorem k3L_cases {l : List FV} {f : FV → FV → FV → FR} (h : k3L l f ≠ .bad) : ∃ x y z, l = [x, y, z] ∧ k3L l f = f x y z := by
  match l, h with
  | [], h => exact absurd rfl h
  | x :: m, h =>
    obtain ⟨y, z, rfl, h2⟩ := k2L_cases (show k2L m (f x) ≠ .bad from h)
    exact ⟨x, y, z, rfl, h2⟩
def xQ : XOp → List FV → FH → KV → FR
  | .append e str size => fun l σ k => k2L l fun s x => apQ e str size s x σ k
  | .copy size str => fun l σ k => k2L l fun d x => cpQ size str d x σ k
  | .appz e kd => fun l σ k => k2L l fun s x => azQ e kd s x σ k
  | .mapUpd sc ks => fun l σ k => k3L l fun m key v => muQ sc ks m key v σ k
  | .mapDel sc ks => fun l σ k => k2L l fun m key => mdQ sc ks m key σ k
  | .mark => fun l σ k => k1L l fun v => mkQ v σ k
theorem xQ_sm (x : XOp) (l : List FV) (σ : FH) (k : KV) : Sm (xQ x l σ k) k (xstep std (αH σ) x (αL l)) := by
  cases x with
  | append e str size =>
    intro h
    obtain ⟨s, x, rfl, h2⟩ := k2L_cases (show k2L l (fun s x => apQ e str size s x σ k) ≠ .bad from h)
    show ∃ v σ', _ ∧ k2L [s, x] (fun s x => apQ e str size s x σ k) = _
    rw [h2]; exact apQ_sm e str size s x σ k (by rw [← h2]; exact h)
  | appz e kd =>
    intro h
    obtain ⟨s, x, rfl, h2⟩ := k2L_cases (show k2L l (fun s x => azQ e kd s x σ k) ≠ .bad from h)
    show ∃ v σ', _ ∧ k2L [s, x] (fun s x => azQ e kd s x σ k) = _
    rw [h2]; exact azQ_sm unpI_zero' e kd s x σ k (by rw [← h2]; exact h)
  | copy size str =>
    intro h
    obtain ⟨s, x, rfl, h2⟩ := k2L_cases (show k2L l (fun s x => cpQ size str s x σ k) ≠ .bad from h)
    show ∃ v σ', _ ∧ k2L [s, x] (fun s x => cpQ size str s x σ k) = _
    rw [h2]; exact cpQ_sm size str s x σ k (by rw [← h2]; exact h)
  | mapUpd sc ks =>
    intro h
    obtain ⟨s, x, y, rfl, h2⟩ := k3L_cases (show k3L l (fun m key v => muQ sc ks m key v σ k) ≠ .bad from h)
    show ∃ v σ', _ ∧ k3L [s, x, y] (fun m key v => muQ sc ks m key v σ k) = _
    rw [h2]; exact muQ_sm sc ks s x y σ k (by rw [← h2]; exact h)
  | mapDel sc ks =>
    intro h
    obtain ⟨s, x, rfl, h2⟩ := k2L_cases (show k2L l (fun m key => mdQ sc ks m key σ k) ≠ .bad from h)
    show ∃ v σ', _ ∧ k2L [s, x] (fun m key => mdQ sc ks m key σ k) = _
    rw [h2]; exact mdQ_sm sc ks s x σ k (by rw [← h2]; exact h)
  | mark =>
    intro h
    obtain ⟨s, rfl, h2⟩ := k1L_cases (show k1L l (fun v => mkQ v σ k) ≠ .bad from h)
    show ∃ v σ', _ ∧ k1L [s] (fun v => mkQ v σ k) = _
    rw [h2]; exact mkQ_sm s σ k (by rw [← h2]; exact h)
end
end Go.Proofs.YtjgmpdklfcmelaaGreatDoor.V2
namespace Go.Proofs.YtjgmpdklfcmelaaGreatDoor.V2
open Go
noncomputable section
theorem Sm.gv {r : FR} {k : KV} {o : Bool × AV} {σ : FH} (h : Sv r (fun v => k v σ) o) : Sm r k (match o with | (ok, v) => (ok, v, αH σ)) := Sm.ofv h
/-! Values alone. -/
def kBsF (f : Nat → FR) (s : FR) (v : FV) : FR := FV.rec (motive_1 := fun _ => FR) (motive_2 := fun _ => FR) (fun _ _ => s) (fun _ _ => s) (fun _ => s) (fun _ => s) (fun _ _ => s) (fun _ _ _ _ _ _ => s) (fun _ => s) (fun _ => s) (fun _ _ _ _ _ => s) (fun _ _ _ => s) (fun _ _ => s) (fun c => f c) (fun _ _ => s) (fun _ _ => s) (fun _ => s) .bad (fun _ _ _ _ => .bad) v
theorem kBsF_cases (v : FV) (f : Nat → FR) (s : FR) : (∃ c, v = .bs c ∧ kBsF f s v = f c) ∨ kBsF f s v = s := by
  cases v <;> first | exact .inl ⟨_, rfl, rfl⟩ | exact .inr rfl
def isTwo (l : List FV) : Bool := List.rec false (fun _ m _ => List.rec false (fun _ q _ => List.rec true (fun _ _ _ => false) q) m) l
theorem isTwo_eq {l : List FV} (h : isTwo l = true) : ∃ x y, l = [x, y] := by
  match l, h with
  | [], h => cases h
  | [_], h => cases h
  | [x, y], _ => exact ⟨x, y, rfl⟩
  | _ :: _ :: _ :: _, h => cases h
def ekB (k : EK) (j : Nl) : Bool := Nl.rec (motive := fun _ => Bool) false (EK.rec (motive := fun _ => Bool) false true false false false false k) (EK.rec (motive := fun _ => Bool) false false true false false false k) (EK.rec (motive := fun _ => Bool) false false false true false false k) (EK.rec (motive := fun _ => Bool) false false false false true false k) (EK.rec (motive := fun _ => Bool) false false false false false true k) j
def eqQ1 (neg : Bool) (k : EK) (x y : FV) (c : FV → FR) : FR := FV.rec (motive_1 := fun _ => FR) (motive_2 := fun _ => FR) (fun _ _ => slV (pstep std (.eqv neg k) [αV x, αV y]) c) (fun _ _ => slV (pstep std (.eqv neg k) [αV x, αV y]) c) (fun _ => slV (pstep std (.eqv neg k) [αV x, αV y]) c) (fun _ => slV (pstep std (.eqv neg k) [αV x, αV y]) c) (fun _ _ => slV (pstep std (.eqv neg k) [αV x, αV y]) c) (fun _ _ _ _ _ _ => slV (pstep std (.eqv neg k) [αV x, αV y]) c) (fun _ => slV (pstep std (.eqv neg k) [αV x, αV y]) c) (fun _ => slV (pstep std (.eqv neg k) [αV x, αV y]) c) (fun _ _ _ _ _ => slV (pstep std (.eqv neg k) [αV x, αV y]) c) (fun _ _ _ => slV (pstep std (.eqv neg k) [αV x, αV y]) c) (fun _ _ => slV (pstep std (.eqv neg k) [αV x, αV y]) c) (fun _ => slV (pstep std (.eqv neg k) [αV x, αV y]) c) (fun _ _ => slV (pstep std (.eqv neg k) [αV x, αV y]) c) (fun _ _ => slV (pstep std (.eqv neg k) [αV x, αV y]) c) (fun j => gT (ekB k j) (nlF j x (Bool.rec (c (.b true)) (c (.b false)) neg) (Bool.rec (c (.b false)) (c (.b true)) neg))) .bad (fun _ _ _ _ => .bad) y
theorem nlF_cases {j : Nl} {x : FV} {y n : FR} (h : nlF j x y n ≠ .bad) : ∃ t : Bool, (∀ k, ekB k j = true → eqvA std k (αV x) (αV (.o j)) = (true, t)) ∧ nlF j x y n = bif t then y else n := by
  cases x with
  | o i => cases i <;> cases j <;> first | (exact absurd rfl h) | (exact ⟨true, (fun k hk => by cases k <;> first | rfl | cases hk), rfl⟩)
  | p b o => cases j <;> first | (exact absurd rfl h) | (exact ⟨false, (fun k hk => by cases k <;> first | rfl | cases hk), rfl⟩)
  | sl b o n k e z => cases j <;> first | (exact absurd rfl h) | (exact ⟨false, (fun k hk => by cases k <;> first | rfl | cases hk), rfl⟩)
  | m b => cases j <;> first | (exact absurd rfl h) | (exact ⟨false, (fun k hk => by cases k <;> first | rfl | cases hk), rfl⟩)
  | fn f a b => cases j <;> first | (exact absurd rfl h) | (exact ⟨false, (fun k hk => by cases k <;> first | rfl | cases hk), rfl⟩)
  | ifc t v => cases j <;> first | (exact absurd rfl h) | (exact ⟨false, (fun k hk => by cases k <;> first | rfl | cases hk), rfl⟩)
  | _ => exact absurd rfl h
theorem eqQ1_sv (neg : Bool) (k : EK) (x y : FV) (c : FV → FR) : Sv (eqQ1 neg k x y c) c (pstep std (.eqv neg k) [αV x, αV y]) := by
  cases y
  case o j =>
    intro h
    obtain ⟨h1, h2⟩ := gT_cases (show gT (ekB k j) (nlF j x (Bool.rec (c (.b true)) (c (.b false)) neg) (Bool.rec (c (.b false)) (c (.b true)) neg)) ≠ .bad from h)
    have h : gT (ekB k j) (nlF j x (Bool.rec (c (.b true)) (c (.b false)) neg) (Bool.rec (c (.b false)) (c (.b true)) neg)) ≠ .bad := h
    show ∃ v, _ ∧ gT (ekB k j) (nlF j x (Bool.rec (c (.b true)) (c (.b false)) neg) (Bool.rec (c (.b false)) (c (.b true)) neg)) = _
    rw [h2] at h ⊢
    obtain ⟨t, h3, h4⟩ := nlF_cases h
    rw [h4]
    simp only [pstep]
    rw [h3 k h1]
    cases t <;> cases neg <;> exact ⟨.b _, rfl, rfl⟩
  all_goals exact slV_sv (pstep std (.eqv neg k) [αV x, αV _]) c
def bdQ (cs : List FV) (ss : List (Nat × Nat)) (args : List FV) (k : List FV → FR) (s : FR) : FR := List.rec (motive := fun _ => List (Nat × Nat) → List FV → (List FV → FR) → FR) (fun ss cs k => List.rec (motive := fun _ => FR) (k cs) (fun _ _ _ => .bad) ss)
  (fun a _ ih ss cs k => List.rec (motive := fun _ => FR) .bad (fun p ss _ => Prod.rec (fun i n => kC (gT (Nat.beq 1 n) (setK cs i a fun cs => ih ss cs k)) (fun m => lenK m 0 fun q => gT (Nat.beq q n) (lenK cs 0 fun L => gT (Nat.ble (Nat.add i n) L) (takeK i cs fun c1 => dropK (Nat.add i n) cs fun c2 => appK m c2 fun c2 => appK c1 c2 fun cs => ih ss cs k))) s a) p) ss) args ss cs k
theorem set_take {α : Type} : ∀ (l : List α) (i : Nat) (a : α), i < l.length → l.set i a = l.take i ++ [a] ++ l.drop (i + 1)
  | [], i, a, h => by cases h
  | x :: l, 0, a, h => rfl
  | x :: l, i + 1, a, h => by
    have := set_take l i a (by simpa using h)
    rw [List.set_cons_succ, this]; rfl
theorem bdQ_cases {k : List FV → FR} {s : FR} : ∀ (args : List FV) (ss : List (Nat × Nat)) (cs : List FV), bdQ cs ss args k s ≠ .bad → (∃ l, layL (αL cs) ss (αL args) = (true, αL l) ∧ bdQ cs ss args k s = k l) ∨ bdQ cs ss args k s = s
  | [], [], cs, h => .inl ⟨cs, rfl, rfl⟩
  | [], _ :: _, cs, h => absurd rfl h
  | _ :: _, [], cs, h => absurd rfl h
  | a :: args, (i, n) :: ss, cs, h => by
    have h : kC (gT (Nat.beq 1 n) (setK cs i a fun cs => bdQ cs ss args k s)) (fun m => lenK m 0 fun q => gT (Nat.beq q n) (lenK cs 0 fun L => gT (Nat.ble (Nat.add i n) L) (takeK i cs fun c1 => dropK (Nat.add i n) cs fun c2 => appK m c2 fun c2 => appK c1 c2 fun cs => bdQ cs ss args k s))) s a ≠ .bad := h
    show (∃ l, _ ∧ kC (gT (Nat.beq 1 n) (setK cs i a fun cs => bdQ cs ss args k s)) (fun m => lenK m 0 fun q => gT (Nat.beq q n) (lenK cs 0 fun L => gT (Nat.ble (Nat.add i n) L) (takeK i cs fun c1 => dropK (Nat.add i n) cs fun c2 => appK m c2 fun c2 => appK c1 c2 fun cs => bdQ cs ss args k s))) s a = _) ∨
      kC (gT (Nat.beq 1 n) (setK cs i a fun cs => bdQ cs ss args k s)) (fun m => lenK m 0 fun q => gT (Nat.beq q n) (lenK cs 0 fun L => gT (Nat.ble (Nat.add i n) L) (takeK i cs fun c1 => dropK (Nat.add i n) cs fun c2 => appK m c2 fun c2 => appK c1 c2 fun cs => bdQ cs ss args k s))) s a = s
    rcases kC_cases (gT (Nat.beq 1 n) (setK cs i a fun cs => bdQ cs ss args k s)) (fun m => lenK m 0 fun q => gT (Nat.beq q n) (lenK cs 0 fun L => gT (Nat.ble (Nat.add i n) L) (takeK i cs fun c1 => dropK (Nat.add i n) cs fun c2 => appK m c2 fun c2 => appK c1 c2 fun cs => bdQ cs ss args k s))) s a with ⟨h1, h2⟩ | ⟨m, rfl, h2⟩ | h2
    · rw [h2] at h ⊢
      obtain ⟨g1, g2⟩ := gT_cases h
      rw [g2] at h ⊢
      rw [setK_eq] at h ⊢
      by_cases hl : i < cs.length
      · rw [if_pos hl] at h ⊢
        rcases bdQ_cases args ss _ h with ⟨l, h3, h4⟩ | h4
        · refine .inl ⟨l, ?_, h4⟩
          obtain ⟨s1, _, s3, _⟩ := sgl_spec h1
          have hn := Nat.eq_of_beq_eq_true g1
          subst hn
          simp only [αL, layL]
          rw [s1, s3]
          have e1 : (Nat.beq [αV a].length 1 && Nat.ble (i + 1) (αL cs).length) = true := by
            rw [αL_length, Bool.and_eq_true]; exact ⟨rfl, by rw [Nat.ble_eq]; exact hl⟩
          rw [Bool.true_and, e1]
          dsimp only
          rw [αL_set, set_take _ _ _ (by rw [αL_length]; exact hl)] at h3
          exact h3
        · exact .inr h4
      · rw [if_neg hl] at h; exact absurd rfl h
    · rw [h2] at h ⊢
      rw [lenK_eq, Nat.zero_add] at h ⊢
      obtain ⟨g1, g2⟩ := gT_cases h
      rw [g2] at h ⊢
      rw [lenK_eq, Nat.zero_add] at h ⊢
      obtain ⟨g3, g4⟩ := gT_cases h
      rw [g4] at h ⊢
      rw [takeK_eq, dropK_eq, appK_eq, appK_eq] at h ⊢
      rcases bdQ_cases args ss _ h with ⟨l, h3, h4⟩ | h4
      · refine .inl ⟨l, ?_, h4⟩
        have hn := Nat.eq_of_beq_eq_true g1
        subst hn
        simp only [αL, layL, αV]
        have e1 : ((AV.agg (αL m)).known && Nat.beq (AV.agg (αL m)).cells.length m.length && Nat.ble (i + m.length) (αL cs).length) = true := by
          show (true && Nat.beq (αL m).length m.length && Nat.ble (i + m.length) (αL cs).length) = true
          rw [αL_length, αL_length, Nat.beq_refl]; exact g3
        rw [e1]
        dsimp only
        rw [αL_append, αL_append, αL_take, αL_drop] at h3
        rw [List.append_assoc]
        exact h3
      · exact .inr h4
    · rw [h2]; exact .inr rfl
def buQ (zero : List AV) (spots : List (Nat × Nat)) (l : List FV) (c : FV → FR) : FR := bdQ (βL zero) spots l (fun cs => agF cs c) (slV (pstep std (.build zero spots) (αL l)) c)
def buN (cs : List FV) (zero : List AV) (spots : List (Nat × Nat)) (l : List FV) (σ : FH) (k : KV) : FR := bdQ cs spots l (fun cs => agF cs fun v => k v σ) (slV (pstep std (.build zero spots) (αL l)) fun v => k v σ)
def mfG (f : Fn) (n : Nat) (l : List FV) (σ : FH) (k : KV) : FR := mfF f n l fun v => k v σ
theorem buQ_sv (zero : List AV) (spots : List (Nat × Nat)) (l : List FV) (c : FV → FR) : Sv (buQ zero spots l c) c (pstep std (.build zero spots) (αL l)) := by
  intro h
  unfold buQ at h ⊢
  rcases bdQ_cases _ _ _ h with ⟨l', h1, h2⟩ | h2
  · rw [h2]
    obtain ⟨v, h3, h4⟩ := agF_of l' c
    refine ⟨v, ?_, h4⟩
    rw [αβL] at h1
    simp only [pstep, h1, h3]
  · rw [h2] at h ⊢; exact slV_sv _ _ h
def eqB (neg : Bool) (ks : List CK) (x y : FV) (c : FV → FR) (s : FR) : FR := kBsF (fun a => kBsF (fun b => gT (ks.all CK.isInt && Nat.beq (bl a) ks.length && Nat.beq (bl b) ks.length && bok a && bok b) (Bool.rec (Bool.rec (c (.b false)) (c (.b true)) neg) (Bool.rec (c (.b true)) (c (.b false)) neg) (Nat.beq a b))) s y) s x
theorem unpI_inj {a b : Nat} (ha : bok a = true) (hb : bok b = true) (h : unpI a = unpI b) : a = b := by
  refine unp_inj ha hb ?_
  unfold unpI at h
  exact (List.map_inj_right fun x y hxy => UInt8.toNat_inj.1 (Int.ofNat.inj hxy)).1 h
theorem eqB_sv (neg : Bool) (ks : List CK) (x y : FV) (c : FV → FR) : Sv (eqB neg ks x y c (slV (pstep std (.eqF neg ks) [αV x, αV y]) c)) c (pstep std (.eqF neg ks) [αV x, αV y]) := by
  rcases kBsF_cases x (fun a => kBsF (fun b => gT (ks.all CK.isInt && Nat.beq (bl a) ks.length && Nat.beq (bl b) ks.length && bok a && bok b) (Bool.rec (Bool.rec (c (.b false)) (c (.b true)) neg) (Bool.rec (c (.b true)) (c (.b false)) neg) (Nat.beq a b))) (slV (pstep std (.eqF neg ks) [αV x, αV y]) c) y) (slV (pstep std (.eqF neg ks) [αV x, αV y]) c) with ⟨a, rfl, h1⟩ | h1
  · unfold eqB
    rw [h1]
    rcases kBsF_cases y (fun b => gT (ks.all CK.isInt && Nat.beq (bl a) ks.length && Nat.beq (bl b) ks.length && bok a && bok b) (Bool.rec (Bool.rec (c (.b false)) (c (.b true)) neg) (Bool.rec (c (.b true)) (c (.b false)) neg) (Nat.beq a b))) (slV (pstep std (.eqF neg ks) [αV (.bs a), αV y]) c) with ⟨b, rfl, h2⟩ | h2
    · rw [h2]
      intro h
      obtain ⟨g1, g2⟩ := gT_cases h
      rw [g2]
      simp only [Bool.and_eq_true] at g1
      obtain ⟨⟨⟨⟨g3, g4⟩, g5⟩, g6⟩, g7⟩ := g1
      simp only [pstep, αV, flatEq, std, unpI_length, g3, g4, g5, decide_true, Bool.true_and]
      cases hb : Nat.beq a b with
      | true =>
        have e := Nat.eq_of_beq_eq_true hb
        subst e
        cases neg
        · exact ⟨.b true, by simp [αV], rfl⟩
        · exact ⟨.b false, by simp [αV], rfl⟩
      | false =>
        have e : unpI a ≠ unpI b := fun e => by rw [unpI_inj g6 g7 e, Nat.beq_refl] at hb; cases hb
        cases neg
        · exact ⟨.b false, by simp [αV, e], rfl⟩
        · exact ⟨.b true, by simp [αV, e], rfl⟩
    · rw [h2]; exact slV_sv _ _
  · unfold eqB
    rw [h1]; exact slV_sv _ _
def mnQ (mx : Bool) (x y : FV) (c : FV → FR) (s : FR) : FR := FV.rec (motive_1 := fun _ => FR) (motive_2 := fun _ => FR) (fun k a => FV.rec (motive_1 := fun _ => FR) (motive_2 := fun _ => FR) (fun k' b => gK k k' (Bool.rec (c (.n k (Bool.rec b a mx))) (c (.n k (Bool.rec a b mx))) (Nat.ble (Nat.succ a) b))) (fun _ _ => s) (fun _ => s) (fun _ => s) (fun _ _ => s) (fun _ _ _ _ _ _ => s) (fun _ => s) (fun _ => s) (fun _ _ _ _ _ => s) (fun _ _ _ => s) (fun _ _ => s) (fun _ => s) (fun _ _ => s) (fun _ _ => s) (fun _ => s) .bad (fun _ _ _ _ => .bad) y) (fun _ _ => s) (fun _ => s) (fun _ => s) (fun _ _ => s) (fun _ _ _ _ _ _ => s) (fun _ => s) (fun _ => s) (fun _ _ _ _ _ => s) (fun _ _ _ => s) (fun _ _ => s) (fun _ => s) (fun _ _ => s) (fun _ _ => s) (fun _ => s) .bad (fun _ _ _ _ => .bad) x
theorem mnQ_sv (mx : Bool) (x y : FV) (c : FV → FR) {p : POp} (hp : p = bif mx then .maxI else .minI) : Sv (mnQ mx x y c (slV (pstep std p [αV x, αV y]) c)) c (pstep std p [αV x, αV y]) := by
  cases x with
  | n k a =>
    cases y with
    | n k' b =>
      show Sv (gK k k' (Bool.rec (c (.n k (Bool.rec b a mx))) (c (.n k (Bool.rec a b mx))) (Nat.ble (Nat.succ a) b))) c _
      refine gK_sv fun e => ?_
      subst e hp
      have e1 : decide (Int.ofNat a < Int.ofNat b) = Nat.ble (Nat.succ a) b := (cb_lss a b).1
      have e2 : decide (Int.ofNat b < Int.ofNat a) = Nat.ble (Nat.succ b) a := (cb_lss b a).1
      cases mx with
      | true =>
        simp only [pstep, αV, minL, std, cond_true, e1]
        cases hb : Nat.ble (Nat.succ a) b
        · exact .of (c := c) (.n k a) (by simp [αV])
        · exact .of (c := c) (.n k b) (by simp [αV])
      | false =>
        simp only [pstep, αV, minL, std, cond_false, e2]
        cases hb : Nat.ble (Nat.succ a) b
        · have : Nat.ble (Nat.succ b) a = true ∨ a = b := by
            by_cases h : a = b
            · exact .inr h
            · left; rw [Nat.ble_eq]
              have : ¬ (Nat.succ a ≤ b) := fun h => by rw [Nat.ble_eq_true_of_le h] at hb; cases hb
              omega
          rcases this with h | rfl
          · rw [h]; exact .of (c := c) (.n k b) (by simp [αV])
          · refine .of (c := c) (.n k a) ?_
            cases Nat.ble (Nat.succ a) a <;> simp [αV]
        · have : Nat.ble (Nat.succ b) a = false := by
            rw [Bool.eq_false_iff]; intro h
            have := ble_of h; have := ble_of hb; omega
          rw [this]; exact .of (c := c) (.n k a) (by simp [αV])
    | _ => exact slV_sv _ _
  | _ => exact slV_sv _ _
def pQ : POp → List FV → FH → KV → FR
  | .build zero spots => fun l σ k => buQ zero spots l fun v => k v σ
  | .field1 off => fun l σ k => k1L l fun x => f1F off x fun v => k v σ
  | .fieldN off size => fun l σ k => k1L l fun x => fnF off size x fun v => k v σ
  | .idxStr => fun l σ k => k2L l fun x i => sAt x i fun v => k v σ
  | .mkFn f n => fun l σ k => mfF f n l fun v => k v σ
  | .assertT t co z => fun l σ k => k1L l fun x => atF t co (βV z) x fun v => k v σ
  | .eqv neg ek => fun l σ k => k2L l fun x y => eqQ1 neg ek x y fun v => k v σ
  | .eqF neg ks => fun l σ k => k2L l fun x y => eqB neg ks x y (fun v => k v σ) (slV (pstep std (.eqF neg ks) [αV x, αV y]) fun v => k v σ)
  | .minI => fun l σ k => Bool.rec (slV (pstep std .minI (αL l)) fun v => k v σ) (k2L l fun x y => mnQ false x y (fun v => k v σ) (slV (pstep std .minI [αV x, αV y]) fun v => k v σ)) (isTwo l)
  | .maxI => fun l σ k => Bool.rec (slV (pstep std .maxI (αL l)) fun v => k v σ) (k2L l fun x y => mnQ true x y (fun v => k v σ) (slV (pstep std .maxI [αV x, αV y]) fun v => k v σ)) (isTwo l)
  | .idxArr len size agg => fun l σ k => slV (pstep std (.idxArr len size agg) (αL l)) fun v => k v σ
  | .same => fun l σ k => slV (pstep std .same (αL l)) fun v => k v σ
  | .capSl => fun l σ k => slV (pstep std .capSl (αL l)) fun v => k v σ
theorem pQ_sm (x : POp) (l : List FV) (σ : FH) (k : KV) : Sm (pQ x l σ k) k (match pstep std x (αL l) with | (ok, v) => (ok, v, αH σ)) := by
  cases x with
  | build zero spots => exact Sm.gv (buQ_sv zero spots l _)
  | field1 off =>
    intro h
    obtain ⟨x, rfl, h2⟩ := k1L_cases (show k1L l (fun x => f1F off x fun v => k v σ) ≠ .bad from h)
    show ∃ v σ', _ ∧ k1L [x] (fun x => f1F off x fun v => k v σ) = _
    rw [h2]; exact Sm.gv (f1F_sv off x fun v => k v σ) (by rw [← h2]; exact h)
  | fieldN off size =>
    intro h
    obtain ⟨x, rfl, h2⟩ := k1L_cases (show k1L l (fun x => fnF off size x fun v => k v σ) ≠ .bad from h)
    show ∃ v σ', _ ∧ k1L [x] (fun x => fnF off size x fun v => k v σ) = _
    rw [h2]; exact Sm.gv (fnF_sv off size x fun v => k v σ) (by rw [← h2]; exact h)
  | idxStr =>
    intro h
    obtain ⟨x, i, rfl, h2⟩ := k2L_cases (show k2L l (fun x i => sAt x i fun v => k v σ) ≠ .bad from h)
    show ∃ v σ', _ ∧ k2L [x, i] (fun x i => sAt x i fun v => k v σ) = _
    rw [h2]; exact Sm.gv (sAt_sv x i fun v => k v σ) (by rw [← h2]; exact h)
  | mkFn f n => exact Sm.gv (mfF_sv f n l _)
  | assertT t co z =>
    intro h
    have h : (k1L l fun x => atF t co (βV z) x fun v => k v σ) ≠ .bad := h
    show ∃ v σ', _ ∧ (k1L l fun x => atF t co (βV z) x fun v => k v σ) = _
    obtain ⟨x, rfl, h2⟩ := k1L_cases h
    rw [h2] at h ⊢
    exact Sm.gv (atF_sv t co (βV z) z (αβ z) x fun v => k v σ) h
  | eqv neg ek =>
    intro h
    obtain ⟨x, i, rfl, h2⟩ := k2L_cases (show k2L l (fun x i => eqQ1 neg ek x i fun v => k v σ) ≠ .bad from h)
    show ∃ v σ', _ ∧ k2L [x, i] (fun x i => eqQ1 neg ek x i fun v => k v σ) = _
    rw [h2]; exact Sm.gv (eqQ1_sv neg ek x i fun v => k v σ) (by rw [← h2]; exact h)
  | eqF neg ks =>
    intro h
    obtain ⟨x, i, rfl, h2⟩ := k2L_cases (show k2L l (fun x y => eqB neg ks x y (fun v => k v σ) (slV (pstep std (.eqF neg ks) [αV x, αV y]) fun v => k v σ)) ≠ .bad from h)
    show ∃ v σ', _ ∧ k2L [x, i] (fun x y => eqB neg ks x y (fun v => k v σ) (slV (pstep std (.eqF neg ks) [αV x, αV y]) fun v => k v σ)) = _
    rw [h2]; exact Sm.gv (eqB_sv neg ks x i fun v => k v σ) (by rw [← h2]; exact h)
  | minI =>
    show Sm (Bool.rec (slV (pstep std .minI (αL l)) fun v => k v σ) (k2L l fun x y => mnQ false x y (fun v => k v σ) (slV (pstep std .minI [αV x, αV y]) fun v => k v σ)) (isTwo l) : FR) k _
    cases hb : isTwo l with
    | false => exact Sm.gv (slV_sv _ _)
    | true =>
      obtain ⟨x, y, rfl⟩ := isTwo_eq hb
      exact Sm.gv (mnQ_sv false x y (fun v => k v σ) rfl)
  | maxI =>
    show Sm (Bool.rec (slV (pstep std .maxI (αL l)) fun v => k v σ) (k2L l fun x y => mnQ true x y (fun v => k v σ) (slV (pstep std .maxI [αV x, αV y]) fun v => k v σ)) (isTwo l) : FR) k _
    cases hb : isTwo l with
    | false => exact Sm.gv (slV_sv _ _)
    | true =>
      obtain ⟨x, y, rfl⟩ := isTwo_eq hb
      exact Sm.gv (mnQ_sv true x y (fun v => k v σ) rfl)
  | idxArr len size agg => exact Sm.gv (slV_sv _ _)
  | same => exact Sm.gv (slV_sv _ _)
  | capSl => exact Sm.gv (slV_sv _ _)
/-! What reads the memory. -/
def s2Q (x : FV) (σ : FH) (c : FV → FR) : FR := rowQ false 1 σ x fun _ R => kR (fun s => c (.s s)) (fun l => List.rec (motive := fun _ => FR) (c (.s 1)) (fun _ _ _ => .bad) l) (fun _ _ => slV (lstep std (αH σ) .sl2str [αV x]) c) R
theorem istr_unpI (s : Nat) : std.istr (unpI s) = unp s := by
  show (unpI s).map (fun n => UInt8.ofNat n.toNat) = unp s
  unfold unpI
  rw [List.map_map]
  conv => rhs; rw [← List.map_id (unp s)]
  congr 1
  funext b
  simp
theorem s2Q_sv (x : FV) (σ : FH) (c : FV → FR) : Sv (s2Q x σ c) c (lstep std (αH σ) .sl2str [αV x]) := by
  intro h
  unfold s2Q at h ⊢
  obtain ⟨n, R, h1, h2⟩ := rowQ_cases h
  rw [h2] at h ⊢
  cases R with
  | bs s =>
    refine ⟨.s s, ?_, rfl⟩
    simp only [lstep]
    rw [h1]
    simp only [αR, αV, istr_unpI, decide_true, Bool.and_true]
  | cells l =>
    cases l with
    | nil =>
      refine ⟨.s 1, ?_, rfl⟩
      simp only [lstep]
      rw [h1]
      simp only [αR, αL, αV]
      rfl
    | cons _ _ => exact absurd rfl h
  | ints k l => exact slV_sv _ _ h
def lmQ (x : FV) (σ : FH) (c : FV → FR) : FR := FV.rec (motive_1 := fun _ => FR) (motive_2 := fun _ => FR) (fun _ _ => .bad) (fun _ _ => .bad) (fun _ => .bad) (fun _ => .bad) (fun _ _ => .bad) (fun _ _ _ _ _ _ => .bad) (fun b => gM σ b (kMp fun l => lenK l 0 fun n => c (.n .i64 n))) (fun _ => .bad) (fun _ _ _ _ _ => .bad) (fun _ _ _ => .bad) (fun _ _ => .bad) (fun _ => .bad) (fun _ _ => .bad) (fun _ _ => .bad) (fun j => Nl.rec (motive := fun _ => FR) .bad .bad .bad (c (.n .i64 0)) .bad .bad j) .bad (fun _ _ _ _ => .bad) x
theorem lmQ_sv (x : FV) (σ : FH) (c : FV → FR) : Sv (lmQ x σ c) c (lstep std (αH σ) .lenMap [αV x]) := by
  intro h
  cases x with
  | m b =>
    have h : gM σ b (kMp fun l => lenK l 0 fun n => c (.n .i64 n)) ≠ .bad := h
    show ∃ v, _ ∧ gM σ b (kMp fun l => lenK l 0 fun n => c (.n .i64 n)) = _
    obtain ⟨ob, _, h3, h4⟩ := gM_cases h
    rw [h4] at h ⊢
    obtain ⟨l, rfl, h5⟩ := kMp_cases h
    rw [h5, lenK_eq, Nat.zero_add]
    refine ⟨.n .i64 l.length, ?_, rfl⟩
    simp only [αV, lstep, h3, αO, αP_map, List.length_map]
    rfl
  | o j =>
    cases j with
    | map => exact ⟨.n .i64 0, rfl, rfl⟩
    | _ => exact absurd rfl h
  | _ => exact absurd rfl h
def lkQ (sc : Bool) (ks : List CK) (co : Bool) (zero : FV) (m key : FV) (σ : FH) (c : FV → FR) : FR := FV.rec (motive_1 := fun _ => FR) (motive_2 := fun _ => FR) (fun _ _ => .bad) (fun _ _ => .bad) (fun _ => .bad) (fun _ => .bad) (fun _ _ => .bad) (fun _ _ _ _ _ _ => .bad) (fun b => gM σ b (kMp fun l => fdQ sc ks key l (fun _ v => Bool.rec (c v) (c (.tup [v, .b true])) co) (Bool.rec (c zero) (c (.tup [zero, .b false])) co))) (fun _ => .bad) (fun _ _ _ _ _ => .bad) (fun _ _ _ => .bad) (fun _ _ => .bad) (fun _ => .bad) (fun _ _ => .bad) (fun _ _ => .bad) (fun j => Nl.rec (motive := fun _ => FR) .bad .bad .bad (okQ sc ks key (Bool.rec (c zero) (c (.tup [zero, .b false])) co)) .bad .bad j) .bad (fun _ _ _ _ => .bad) m
theorem lkQ_sv (sc : Bool) (ks : List CK) (co : Bool) (zero : FV) (m key : FV) (σ : FH) (c : FV → FR) : Sv (lkQ sc ks co zero m key σ c) c (lstep std (αH σ) (.lookup sc ks co (αV zero)) [αV m, αV key]) := by
  intro h
  cases m with
  | m b =>
    have h : gM σ b (kMp fun l => fdQ sc ks key l (fun _ v => Bool.rec (c v) (c (.tup [v, .b true])) co) (Bool.rec (c zero) (c (.tup [zero, .b false])) co)) ≠ .bad := h
    show ∃ v, _ ∧ gM σ b (kMp fun l => fdQ sc ks key l (fun _ v => Bool.rec (c v) (c (.tup [v, .b true])) co) (Bool.rec (c zero) (c (.tup [zero, .b false])) co)) = _
    obtain ⟨ob, _, h3, h4⟩ := gM_cases h
    rw [h4] at h ⊢
    obtain ⟨l, rfl, h5⟩ := kMp_cases h
    rw [h5] at h ⊢
    obtain ⟨r, h8, h9⟩ := fdQ_cases h
    rw [h9]
    simp only [αV, lstep, h3, αO]
    rw [h8]
    cases r with
    | none => cases co <;> exact ⟨_, rfl, rfl⟩
    | some q => cases co <;> exact ⟨_, rfl, rfl⟩
  | o j =>
    cases j with
    | map =>
      obtain ⟨h6, h7⟩ := gT_cases (show gT (flatEq std sc ks (αV key) (αV key)).1 (Bool.rec (c zero) (c (.tup [zero, .b false])) co) ≠ .bad from h)
      have h7 : lkQ sc ks co zero (.o .map) key σ c = Bool.rec (c zero) (c (.tup [zero, .b false])) co := h7
      rw [h7]
      simp only [αV, Nl.av, lstep, h6]
      cases co <;> exact ⟨_, rfl, rfl⟩
    | _ => exact absurd rfl h
  | _ => exact absurd rfl h
def lkG (sc : Bool) (ks : List CK) (co : Bool) (zero : FV) (m key : FV) (σ : FH) (k : KV) : FR := lkQ sc ks co zero m key σ fun v => k v σ
def lQ : LOp → List FV → FH → KV → FR
  | .sl2str => fun l σ k => k1L l fun x => s2Q x σ fun v => k v σ
  | .lenMap => fun l σ k => k1L l fun x => lmQ x σ fun v => k v σ
  | .lookup sc ks co z => fun l σ k => k2L l fun m key => lkQ sc ks co (βV z) m key σ fun v => k v σ
theorem lQ_sm (x : LOp) (l : List FV) (σ : FH) (k : KV) : Sm (lQ x l σ k) k (match lstep std (αH σ) x (αL l) with | (ok, v) => (ok, v, αH σ)) := by
  cases x with
  | sl2str =>
    intro h
    obtain ⟨x, rfl, h2⟩ := k1L_cases (show k1L l (fun x => s2Q x σ fun v => k v σ) ≠ .bad from h)
    show ∃ v σ', _ ∧ k1L [x] (fun x => s2Q x σ fun v => k v σ) = _
    rw [h2]; exact Sm.gv (s2Q_sv x σ fun v => k v σ) (by rw [← h2]; exact h)
  | lenMap =>
    intro h
    obtain ⟨x, rfl, h2⟩ := k1L_cases (show k1L l (fun x => lmQ x σ fun v => k v σ) ≠ .bad from h)
    show ∃ v σ', _ ∧ k1L [x] (fun x => lmQ x σ fun v => k v σ) = _
    rw [h2]; exact Sm.gv (lmQ_sv x σ fun v => k v σ) (by rw [← h2]; exact h)
  | lookup sc ks co z =>
    intro h
    have h : (k2L l fun m key => lkQ sc ks co (βV z) m key σ fun v => k v σ) ≠ .bad := h
    show ∃ v σ', _ ∧ (k2L l fun m key => lkQ sc ks co (βV z) m key σ fun v => k v σ) = _
    obtain ⟨m, key, rfl, h2⟩ := k2L_cases h
    rw [h2] at h ⊢
    have := lkQ_sv sc ks co (βV z) m key σ fun v => k v σ
    rw [αβ] at this
    exact Sm.gv this h
/-! New blocks. -/
def slN (r : Bool × (Nat → AV) × AObj) (σ : FH) (k : KV) : FR := Prod.rec (fun ok q => Prod.rec (fun v o => gT ok (fO (βO o) fun o => nM σ o fun b σ => fV (βV (v b)) fun w => k w σ)) q) r
theorem slN_sm (r : Bool × (Nat → AV) × AObj) (σ : FH) (k : KV) : Sm (slN r σ k) k (match r with | (ok, v, o) => (ok && Nat.blt (αH σ).next 1000000, v (αH σ).next, (αH σ).new o)) := by
  obtain ⟨ok, v, o⟩ := r
  intro h
  have h : gT ok (fO (βO o) fun o => nM σ o fun b σ => fV (βV (v b)) fun w => k w σ) ≠ .bad := h
  show ∃ w σ', _ ∧ gT ok (fO (βO o) fun o => nM σ o fun b σ => fV (βV (v b)) fun w => k w σ) = _
  obtain ⟨rfl, h2⟩ := gT_cases h
  rw [h2, fO_eq] at h ⊢
  obtain ⟨h3, σ', h4, h5⟩ := nM_cases h
  rw [h5, fV_eq]
  refine ⟨βV (v σ.next), σ', ?_, rfl⟩
  dsimp only
  rw [αβ, h4, αβO, h3]; rfl
def onF (l : List FV) (r s : FR) : FR := List.rec r (fun v _ ih => kC ih (fun _ => s) s v) l
theorem onF_cases : ∀ (l : List FV) (r s : FR), ((αL l).all (fun a => a.known && Nat.beq a.cells.length 1) = true ∧ (αL l).flatMap AV.cells = αL l ∧ onF l r s = r) ∨ onF l r s = s
  | [], r, s => .inl ⟨rfl, rfl, rfl⟩
  | v :: l, r, s => by
    show (_ ∧ _ ∧ kC (onF l r s) (fun _ => s) s v = r) ∨ kC (onF l r s) (fun _ => s) s v = s
    rcases kC_cases (onF l r s) (fun _ => s) s v with ⟨h1, h2⟩ | ⟨_, _, h2⟩ | h2
    · rw [h2]
      obtain ⟨s1, _, s3, _⟩ := sgl_spec h1
      rcases onF_cases l r s with ⟨h3, h4, h5⟩ | h5
      · refine .inl ⟨?_, ?_, h5⟩
        · simp only [αL, List.all_cons, s1, s3, h3]; rfl
        · simp only [αL, List.flatMap_cons, s3, h4]; rfl
      · exact .inr h5
    · rw [h2]; exact .inr rfl
    · rw [h2]; exact .inr rfl
def bsQ (e : TypeId) (size n : Nat) (l : List FV) (σ : FH) (k : KV) : FR := Bool.rec (slN (nstep std (.bslice e size n) (αL l)) σ k) (onF l (lenK l 0 fun q => gT (Nat.beq q n) (ofQ l e .exact fun o => nM σ o fun b σ => k (.sl b 0 n n true 1) σ)) (slN (nstep std (.bslice e size n) (αL l)) σ k)) (Nat.beq size 1)
theorem bsQ_sm (e : TypeId) (size n : Nat) (l : List FV) (σ : FH) (k : KV) : Sm (bsQ e size n l σ k) k (match nstep std (.bslice e size n) (αL l) with | (ok, v, o) => (ok && Nat.blt (αH σ).next 1000000, v (αH σ).next, (αH σ).new o)) := by
  unfold bsQ
  cases hs : Nat.beq size 1 with
  | false => exact slN_sm _ _ _
  | true =>
    have hs := Nat.eq_of_beq_eq_true hs
    subst hs
    show Sm (onF l (lenK l 0 fun q => gT (Nat.beq q n) (ofQ l e .exact fun o => nM σ o fun b σ => k (.sl b 0 n n true 1) σ)) (slN (nstep std (.bslice e 1 n) (αL l)) σ k)) k _
    rcases onF_cases l (lenK l 0 fun q => gT (Nat.beq q n) (ofQ l e .exact fun o => nM σ o fun b σ => k (.sl b 0 n n true 1) σ)) (slN (nstep std (.bslice e 1 n) (αL l)) σ k) with ⟨h1, h2, h3⟩ | h3
    · rw [h3]
      intro h
      rw [lenK_eq, Nat.zero_add] at h ⊢
      obtain ⟨g1, g2⟩ := gT_cases h
      rw [g2] at h ⊢
      obtain ⟨o, g3, g4⟩ := ofQ_of l e .exact fun o => nM σ o fun b σ => k (.sl b 0 n n true 1) σ
      rw [g4] at h ⊢
      obtain ⟨g5, σ', g6, g7⟩ := nM_cases h
      rw [g7]
      refine ⟨.sl σ.next 0 n n true 1, σ', ?_, rfl⟩
      simp only [nstep]
      rw [h2, h1, αL_length, Nat.mul_one, g1, ← g3, g6, g5]; rfl
    · rw [h3]; exact slN_sm _ _ _
def ssQ (e : TypeId) (x : FV) (σ : FH) (k : KV) : FR := kS (fun s => nM σ (.bs s e .exact) fun b σ => fN (bl s) fun n => k (.sl b 0 n n false 1) σ) x
theorem ssQ_sm (e : TypeId) (x : FV) (σ : FH) (k : KV) : Sm (ssQ e x σ k) k (match nstep std (.str2sl e) [αV x] with | (ok, v, o) => (ok && Nat.blt (αH σ).next 1000000, v (αH σ).next, (αH σ).new o)) := by
  intro h
  unfold ssQ at h ⊢
  obtain ⟨s, rfl, h1⟩ := kS_cases h
  rw [h1] at h ⊢
  obtain ⟨h2, σ', h3, h4⟩ := nM_cases h
  rw [h4, fN_eq]
  refine ⟨.sl σ.next 0 (bl s) (bl s) false 1, σ', ?_, rfl⟩
  simp only [αV, nstep]
  rw [h2, h3]
  simp only [std, unp_length]
  rfl
def zbQ (zero : List AV) : Bool := match zero with
  | [.int .u8 (.ofNat 0)] => true
  | _ => false
theorem zbQ_eq {zero : List AV} (h : zbQ zero = true) : zero = [.int .u8 0] := by
  unfold zbQ at h
  split at h
  · rfl
  · cases h
def msQ (e : TypeId) (size : Nat) (zero : List AV) (l : List FV) (σ : FH) (k : KV) : FR := Bool.rec (slN (nstep std (.makeSl e size zero) (αL l)) σ k) (k2L l fun n c => kNn (fun _ n => kNn (fun _ c => gT (Nat.ble n c) (gT (Nat.ble c 1000000) (fN (top1 c) fun z => nM σ (.bs z e .exact) fun b σ => k (.sl b 0 n c true size) σ))) c) n) (zbQ zero)
theorem msQ_sm (e : TypeId) (size : Nat) (zero : List AV) (l : List FV) (σ : FH) (k : KV) : Sm (msQ e size zero l σ k) k (match nstep std (.makeSl e size zero) (αL l) with | (ok, v, o) => (ok && Nat.blt (αH σ).next 1000000, v (αH σ).next, (αH σ).new o)) := by
  unfold msQ
  cases hz : zbQ zero with
  | false => exact slN_sm _ _ _
  | true =>
    have hz := zbQ_eq hz
    subst hz
    intro h
    have h : (k2L l fun n c => kNn (fun _ n => kNn (fun _ c => gT (Nat.ble n c) (gT (Nat.ble c 1000000) (fN (top1 c) fun z => nM σ (.bs z e .exact) fun b σ => k (.sl b 0 n c true size) σ))) c) n) ≠ .bad := h
    show ∃ v σ', _ ∧ (k2L l fun n c => kNn (fun _ n => kNn (fun _ c => gT (Nat.ble n c) (gT (Nat.ble c 1000000) (fN (top1 c) fun z => nM σ (.bs z e .exact) fun b σ => k (.sl b 0 n c true size) σ))) c) n) = _
    obtain ⟨x, y, rfl, h2⟩ := k2L_cases h
    rw [h2] at h ⊢
    obtain ⟨_, n, rfl, h3⟩ := kNn_cases h
    rw [h3] at h ⊢
    obtain ⟨_, c, rfl, h4⟩ := kNn_cases h
    rw [h4] at h ⊢
    obtain ⟨g1, g2⟩ := gT_cases h
    rw [g2] at h ⊢
    obtain ⟨g3, g4⟩ := gT_cases h
    rw [g4, fN_eq] at h ⊢
    obtain ⟨g5, σ', g6, g7⟩ := nM_cases h
    rw [g7]
    refine ⟨.sl σ.next 0 n c true size, σ', ?_, rfl⟩
    simp only [αL, αV, nstep]
    rw [g5]
    have e1 : (std.le 0 (Int.ofNat n) && std.le (Int.ofNat n) (Int.ofNat c) && std.leN (std.ton (Int.ofNat c)) 1000000) = true := by
      show (decide ((0 : Int) ≤ Int.ofNat n) && decide (Int.ofNat n ≤ Int.ofNat c) && Nat.ble c 1000000) = true
      rw [dec0, (cb_leq n c).1, g1, g3]; rfl
    rw [e1, g6]
    simp only [Bool.and_self, Prod.mk.injEq, true_and]
    refine ⟨rfl, ?_⟩
    congr 1
    show newCells std c e [.int .u8 0] = .ints .u8 (unpI (top1 c)) e .exact
    rw [(unpI_zero c).1]
    rfl
def mmQ (l : List FV) (σ : FH) (k : KV) : FR := List.rec (motive := fun _ => FR) (nM σ (.map []) fun b σ => k (.m b) σ) (fun _ _ _ => slN (nstep std .makeMap (αL l)) σ k) l
theorem mmQ_sm (l : List FV) (σ : FH) (k : KV) : Sm (mmQ l σ k) k (match nstep std .makeMap (αL l) with | (ok, v, o) => (ok && Nat.blt (αH σ).next 1000000, v (αH σ).next, (αH σ).new o)) := by
  cases l with
  | cons _ _ => exact slN_sm _ _ _
  | nil =>
    intro h
    have h : (nM σ (.map []) fun b σ => k (.m b) σ) ≠ .bad := h
    show ∃ v σ', _ ∧ (nM σ (.map []) fun b σ => k (.m b) σ) = _
    obtain ⟨h2, σ', h3, h4⟩ := nM_cases h
    rw [h4]
    refine ⟨.m σ.next, σ', ?_, rfl⟩
    simp only [αL, nstep]
    rw [h2, h3]; rfl
def nQ : NOp → List FV → FH → KV → FR
  | .bslice e size n => bsQ e size n
  | .str2sl e => fun l σ k => k1L l fun x => ssQ e x σ k
  | .makeSl e size zero => msQ e size zero
  | .makeMap => mmQ
theorem nQ_sm (x : NOp) (l : List FV) (σ : FH) (k : KV) : Sm (nQ x l σ k) k (match nstep std x (αL l) with | (ok, v, o) => (ok && Nat.blt (αH σ).next 1000000, v (αH σ).next, (αH σ).new o)) := by
  cases x with
  | bslice e size n => exact bsQ_sm e size n l σ k
  | str2sl e =>
    intro h
    obtain ⟨x, rfl, h2⟩ := k1L_cases (show k1L l (fun x => ssQ e x σ k) ≠ .bad from h)
    show ∃ v σ', _ ∧ k1L [x] (fun x => ssQ e x σ k) = _
    rw [h2]; exact ssQ_sm e x σ k (by rw [← h2]; exact h)
  | makeSl e size zero => exact msQ_sm e size zero l σ k
  | makeMap => exact mmQ_sm l σ k
end
end Go.Proofs.YtjgmpdklfcmelaaGreatDoor.V2
namespace Go.Proofs.YtjgmpdklfcmelaaGreatDoor.V2
open Go
noncomputable section
abbrev HF := List FV → FH → KV → FR
inductive Phi where
  | no
  | mk (fn : FuncId → HF) (yl : Nat → HF) (up : Nat → HF → Phi)
def Phi.fn (Φ : Phi) : FuncId → HF := Phi.rec (motive := fun _ => FuncId → HF) (fun _ _ _ _ => .bad) (fun f _ _ _ => f) Φ
def Phi.yl (Φ : Phi) : Nat → HF := Phi.rec (motive := fun _ => Nat → HF) (fun _ _ _ _ => .bad) (fun _ y _ _ => y) Φ
def Phi.up (Φ : Phi) : Nat → HF → Phi := Phi.rec (motive := fun _ => Nat → HF → Phi) (fun _ _ => .no) (fun _ _ u _ => u) Φ
def Phi.bare (Φ : Phi) : Phi := Phi.rec (motive := fun _ => Phi) .no (fun f y _ _ => .mk f y (fun _ _ => .no)) Φ
def HOk (H : HF) (h : List AV → AH → Out) : Prop := ∀ l σ k, Sm (H l σ k) k (h (αL l) (αH σ))
inductive PhiOk : Phi → Gam → Prop where
  | no {Γ : Gam} : PhiOk .no Γ
  | mk {Γ : Gam} {fn : FuncId → HF} {yl : Nat → HF} {up : Nat → HF → Phi} (hf : ∀ f, HOk (fn f) (Γ.fn f)) (hy : ∀ b, HOk (yl b) (Γ.yl b)) (hu : ∀ l h H, HOk H h → PhiOk (up l H) (Γ.up l h)) : PhiOk (.mk fn yl up) Γ
theorem PhiOk.fn {Φ : Phi} {Γ : Gam} (h : PhiOk Φ Γ) (f : FuncId) : HOk (Φ.fn f) (Γ.fn f) := by
  cases h with
  | no => exact fun l σ k => Sm.bad
  | mk hf => exact hf f
theorem PhiOk.yl {Φ : Phi} {Γ : Gam} (h : PhiOk Φ Γ) (b : Nat) : HOk (Φ.yl b) (Γ.yl b) := by
  cases h with
  | no => exact fun l σ k => Sm.bad
  | mk _ hy => exact hy b
theorem PhiOk.up {Φ : Phi} {Γ : Gam} (h : PhiOk Φ Γ) {l : Nat} {g : List AV → AH → Out} {H : HF} (hH : HOk H g) : PhiOk (Φ.up l H) (Γ.up l g) := by
  cases h with
  | no => exact .no
  | mk _ _ hu => exact hu l g H hH
theorem PhiOk.bare {Φ : Phi} {Γ : Gam} (h : PhiOk Φ Γ) : PhiOk Φ.bare Γ.bare := by
  cases h with
  | no => exact .no
  | mk hf hy hu =>
    refine .mk (fun f => ?_) (fun b => ?_) (fun _ _ _ _ => .no)
    · rw [Gam.bare_fn]; exact hf f
    · rw [Gam.bare_yl]; exact hy b
abbrev Opc := Phi → E → FH → KV → FR
def RdOk (rd : Ref → Rd) (e : E) (ev : Ref → AV) : Prop := ∀ r k, rd r e k ≠ .bad → ∃ v, ev r = αV v ∧ rd r e k = k v
def rdsK (l : List Rd) (e : E) (k : List FV → FR) : FR := List.rec (motive := fun _ => (List FV → FR) → FR) (fun k => k []) (fun r _ ih k => r e fun v => ih fun l => k (v :: l)) l k
def rdO (x : Option Rd) (e : E) (k : Option FV → FR) : FR := Option.rec (k none) (fun r => r e fun v => k (some v)) x
theorem RdOk.list {rd : Ref → Rd} {e : E} {ev : Ref → AV} (h : RdOk rd e ev) : ∀ (l : List Ref) (k : List FV → FR), rdsK (l.map rd) e k ≠ .bad → ∃ vs, l.map ev = αL vs ∧ rdsK (l.map rd) e k = k vs
  | [], k, _ => ⟨[], rfl, rfl⟩
  | r :: l, k, hk => by
    have hk : (rd r e fun v => rdsK (l.map rd) e fun l => k (v :: l)) ≠ .bad := hk
    obtain ⟨v, h1, h2⟩ := h r _ hk
    rw [h2] at hk
    obtain ⟨vs, h3, h4⟩ := h.list l _ hk
    exact ⟨v :: vs, by rw [List.map_cons, h1, h3]; rfl, by show (rd r e fun v => rdsK (l.map rd) e fun l => k (v :: l)) = _; rw [h2]; exact h4⟩
theorem RdOk.opt {rd : Ref → Rd} {e : E} {ev : Ref → AV} (h : RdOk rd e ev) (x : Option Ref) (k : Option FV → FR) (hk : rdO (x.map rd) e k ≠ .bad) : ∃ v, x.map ev = v.map αV ∧ rdO (x.map rd) e k = k v := by
  cases x with
  | none => exact ⟨none, rfl, rfl⟩
  | some r =>
    have hk : (rd r e fun v => k (some v)) ≠ .bad := hk
    obtain ⟨v, h1, h2⟩ := h r _ hk
    exact ⟨some v, by rw [Option.map_some, h1]; rfl, h2⟩
/-! How operations are put together. -/
def oV (x : Rd) : Opc := fun _ e σ k => x e fun v => k v σ
def o1 (f : FV → (FV → FR) → FR) (x : Rd) : Opc := fun _ e σ k => x e fun a => f a fun v => k v σ
def o2 (f : FV → FV → (FV → FR) → FR) (x y : Rd) : Opc := fun _ e σ k => x e fun a => y e fun b => f a b fun v => k v σ
def o3 (f : FV → FV → FV → (FV → FR) → FR) (x y z : Rd) : Opc := fun _ e σ k => x e fun a => y e fun b => z e fun c => f a b c fun v => k v σ
def m1 (f : FV → FH → (FV → FR) → FR) (x : Rd) : Opc := fun _ e σ k => x e fun a => f a σ fun v => k v σ
def n0 (o : FObj) : Opc := fun _ _ σ k => alF o σ k
def n1 (f : FV → FH → KV → FR) (x : Rd) : Opc := fun _ e σ k => x e fun a => f a σ k
def n2 (f : FV → FV → FH → KV → FR) (x y : Rd) : Opc := fun _ e σ k => x e fun a => y e fun b => f a b σ k
def n3 (f : FV → FV → FV → FH → KV → FR) (x y z : Rd) : Opc := fun _ e σ k => x e fun a => y e fun b => z e fun c => f a b c σ k
def nL (f : List FV → FH → KV → FR) (l : List Rd) : Opc := fun _ e σ k => rdsK l e fun l => f l σ k
def oSs (x : Rd) (lo hi : Option Rd) : Opc := fun _ e σ k => x e fun x => rdO lo e fun lo => rdO hi e fun hi => ssF x lo hi fun v => k v σ
def oSv (size : Nat) (x : Rd) (lo hi mx : Option Rd) : Opc := fun _ e σ k => x e fun x => rdO lo e fun lo => rdO hi e fun hi => rdO mx e fun mx => svF size x lo hi mx fun v => k v σ
def oSa (len size : Nat) (x : Rd) (lo hi mx : Option Rd) : Opc := fun _ e σ k => x e fun x => rdO lo e fun lo => rdO hi e fun hi => rdO mx e fun mx => saF len size x lo hi mx σ fun v => k v σ
def oBad : Opc := fun _ _ _ _ => .bad
def miF (t : TypeId) (x : FV) (c : FV → FR) : FR := c (.ifc t x)
def exG (n : Nat) (x : FV) (c : FV → FR) : FR := exF x n c
def unG (op : UnOp) (x : FV) (c : FV → FR) : FR := slV (unI std op (αV x)) c
def bop : BinOp → FV → FV → (FV → FR) → FR
  | .add => bAdd
  | .sub => bSub
  | .mul => bMul
  | .quo => bQuo
  | .rem => bRem
  | .and => bAnd
  | .or => bOr
  | .xor => bXor
  | .shl => bShl
  | .shr => bShr
  | .andNot => bAndNot
  | .eql => bEql
  | .neq => bNeq
  | .lss => bLss
  | .leq => bLeq
  | .gtr => bGtr
  | .geq => bGeq
theorem bop_sv (op : BinOp) (x y : FV) (c : FV → FR) (σ : AH) : Sv (bop op x y c) c ((oBin std op (αV x) (αV y) σ).1, (oBin std op (αV x) (αV y) σ).2.1) := by
  cases op
  · exact bAdd_sv x y c σ
  · exact bSub_sv x y c σ
  · exact bMul_sv x y c σ
  · exact bQuo_sv x y c σ
  · exact bRem_sv x y c σ
  · exact bAnd_sv x y c σ
  · exact bOr_sv x y c σ
  · exact bXor_sv x y c σ
  · exact bShl_sv x y c σ
  · exact bShr_sv x y c σ
  · exact bAndNot_sv x y c σ
  · exact bEql_sv x y c σ
  · exact bNeq_sv x y c σ
  · exact bLss_sv x y c σ
  · exact bLeq_sv x y c σ
  · exact bGtr_sv x y c σ
  · exact bGeq_sv x y c σ
theorem oBin_mem (op : BinOp) (x y : AV) (σ : AH) : oBin std op x y σ = ((oBin std op x y σ).1, (oBin std op x y σ).2.1, σ) := by
  unfold oBin
  cases x <;> try rfl
  · cases y <;> rfl
  · cases y <;> rfl
theorem oLoad1_mem (x : AV) (σ : AH) : oLoad1 std x σ = ((oLoad1 std x σ).1, (oLoad1 std x σ).2.1, σ) := by
  unfold oLoad1
  cases x <;> try rfl
  dsimp only
  split <;> rfl
theorem oLoadN_mem (n : Nat) (x : AV) (σ : AH) : oLoadN std n x σ = ((oLoadN std n x σ).1, (oLoadN std n x σ).2.1, σ) := by
  unfold oLoadN
  cases x <;> try rfl
  dsimp only
  split <;> rfl
def thrA (rd : Ref → Rd) : AOp → Opc
  | .mov x => oV (rd x)
  | .pick c a b => o3 pkF (rd c) (rd a) (rd b)
  | .bin op x y => o2 (bop op) (rd x) (rd y)
  | .un op x => match op with
    | .not => o1 notF (rd x)
    | op => o1 (unG op) (rd x)
  | .conv k x => o1 (cvF k) (rd x)
  | .alloc e l => n0 (βO (AObj.of l e .exact))
  | .box e x => n1 (bxF e) (rd x)
  | .load1 x => m1 ldF (rd x)
  | .loadN n x => m1 (lnF n) (rd x)
  | .store n p x => n2 (stF n) (rd p) (rd x)
  | .fieldAddr off x => o1 (faF off) (rd x)
  | .idxArr len size x i => o2 (iaF len size) (rd x) (rd i)
  | .idxSl size x i => o2 (isF size) (rd x) (rd i)
  | .slStr x lo hi => oSs (rd x) (lo.map rd) (hi.map rd)
  | .slSl size x lo hi mx => oSv size (rd x) (lo.map rd) (hi.map rd) (mx.map rd)
  | .slArr len size x lo hi mx => oSa len size (rd x) (lo.map rd) (hi.map rd) (mx.map rd)
  | .extract x k => o1 (exG k) (rd x)
  | .mkIface t x => o1 (miF t) (rd x)
  | .nilCheck x => o1 ncF (rd x)
  | .lenStr x => o1 lsF (rd x)
  | .lenSl x => o1 lvF (rd x)
  | .ext x args => nL (xQ x) (args.map rd)
  | .pur x args => nL (pQ x) (args.map rd)
  | .rd x args => nL (lQ x) (args.map rd)
  | .mk x args => nL (nQ x) (args.map rd)
  | .badop => oBad
theorem o1_ok {rd : Ref → Rd} {e : E} {ev : Ref → AV} (hr : RdOk rd e ev) {f : FV → (FV → FR) → FR} {x : Ref} {g : AV → AH → Out} (hf : ∀ v σ k, Sm (f v fun w => k w σ) k (g (αV v) (αH σ))) (Φ : Phi) (σ : FH) (k : KV) : Sm (o1 f (rd x) Φ e σ k) k (g (ev x) (αH σ)) := by
  intro h
  obtain ⟨v, h1, h2⟩ := hr x _ h
  rw [h1]
  have h' : (f v fun w => k w σ) ≠ .bad := by rw [← h2]; exact h
  obtain ⟨w, σ', h3, h4⟩ := hf v σ k h'
  exact ⟨w, σ', h3, h2.trans h4⟩
theorem n1_ok {rd : Ref → Rd} {e : E} {ev : Ref → AV} (hr : RdOk rd e ev) {f : FV → FH → KV → FR} {x : Ref} {g : AV → AH → Out} (hf : ∀ v σ k, Sm (f v σ k) k (g (αV v) (αH σ))) (Φ : Phi) (σ : FH) (k : KV) : Sm (n1 f (rd x) Φ e σ k) k (g (ev x) (αH σ)) := by
  intro h
  obtain ⟨v, h1, h2⟩ := hr x _ h
  rw [h1]
  have h' : f v σ k ≠ .bad := by rw [← h2]; exact h
  obtain ⟨w, σ', h3, h4⟩ := hf v σ k h'
  exact ⟨w, σ', h3, h2.trans h4⟩
theorem n2_ok {rd : Ref → Rd} {e : E} {ev : Ref → AV} (hr : RdOk rd e ev) {f : FV → FV → FH → KV → FR} {x y : Ref} {g : AV → AV → AH → Out} (hf : ∀ v w σ k, Sm (f v w σ k) k (g (αV v) (αV w) (αH σ))) (Φ : Phi) (σ : FH) (k : KV) : Sm (n2 f (rd x) (rd y) Φ e σ k) k (g (ev x) (ev y) (αH σ)) := by
  intro h
  obtain ⟨v, h1, h2⟩ := hr x _ h
  have hy : (rd y e fun b => f v b σ k) ≠ .bad := by rw [← h2]; exact h
  obtain ⟨w, h3, h4⟩ := hr y _ hy
  rw [h1, h3]
  have h' : f v w σ k ≠ .bad := by rw [← h4]; exact hy
  obtain ⟨u, σ', h5, h6⟩ := hf v w σ k h'
  exact ⟨u, σ', h5, (h2.trans h4).trans h6⟩
theorem nL_ok {rd : Ref → Rd} {e : E} {ev : Ref → AV} (hr : RdOk rd e ev) {f : List FV → FH → KV → FR} {l : List Ref} {g : List AV → AH → Out} (hf : ∀ l σ k, Sm (f l σ k) k (g (αL l) (αH σ))) (Φ : Phi) (σ : FH) (k : KV) : Sm (nL f (l.map rd) Φ e σ k) k (g (l.map ev) (αH σ)) := by
  intro h
  obtain ⟨vs, h1, h2⟩ := hr.list l _ h
  rw [h1]
  have h' : f vs σ k ≠ .bad := by rw [← h2]; exact h
  obtain ⟨w, σ', h3, h4⟩ := hf vs σ k h'
  exact ⟨w, σ', h3, h2.trans h4⟩
theorem thrA_ok {rd : Ref → Rd} {e : E} {ev : Ref → AV} (hr : RdOk rd e ev) (a : AOp) (Φ : Phi) (σ : FH) (k : KV) : Sm (thrA rd a Φ e σ k) k (step std ev (αH σ) a) := by
  cases a with
  | mov x => exact o1_ok (f := fun v c => c v) (g := fun v s => (true, v, s)) hr (fun v σ k _ => ⟨v, σ, rfl, rfl⟩) Φ σ k
  | pick c a b =>
    intro h
    have h : (rd c e fun x => rd a e fun y => rd b e fun z => pkF x y z fun v => k v σ) ≠ .bad := h
    show ∃ v σ', _ ∧ (rd c e fun x => rd a e fun y => rd b e fun z => pkF x y z fun v => k v σ) = _
    obtain ⟨x, h1, h2⟩ := hr c _ h
    rw [h2] at h ⊢
    obtain ⟨y, h3, h4⟩ := hr a _ h
    rw [h4] at h ⊢
    obtain ⟨z, h5, h6⟩ := hr b _ h
    rw [h6] at h ⊢
    simp only [step]
    rw [h1, h3, h5]
    exact pkF_sm x y z σ k h
  | bin op x y => exact n2_ok (f := fun a b σ k => bop op a b fun v => k v σ) (g := fun a b s => oBin std op a b s) hr (fun v w σ k => by rw [oBin_mem]; exact Sm.ofv (bop_sv op v w (fun v => k v σ) (αH σ))) Φ σ k
  | un op x =>
    have slow : ∀ op, Sm (o1 (unG op) (rd x) Φ e σ k) k (step std ev (αH σ) (.un op x)) := fun op => o1_ok (g := fun v s => ((unI std op v).1, (unI std op v).2, s)) hr (fun v σ k => Sm.ofv (slV_sv _ _)) Φ σ k
    cases op with
    | not => exact o1_ok (g := fun v s => ((unI std .not v).1, (unI std .not v).2, s)) hr (fun v σ k => notF_sm v σ k) Φ σ k
    | neg => exact slow _
    | xor => exact slow _
    | plus => exact slow _
  | conv kk x => exact o1_ok (f := cvF kk) (g := fun v s => match v with | .int _ n => (true, .int kk (wr kk n), s) | _ => bad s) hr (fun v σ k => cvF_sm kk v σ k) Φ σ k
  | alloc e' l =>
    have h := alF_sm (βO (AObj.of l e' .exact)) σ k
    rw [αβO] at h; exact h
  | box e' x => exact n1_ok (f := bxF e') (g := fun v s => (Nat.blt s.next 1000000, .ptr s.next 0, s.new (boxO v e'))) hr (fun v σ k => bxF_sm e' v σ k) Φ σ k
  | load1 x => exact n1_ok (f := fun v σ k => ldF v σ fun w => k w σ) (g := fun v s => oLoad1 std v s) hr (fun v σ k => by rw [oLoad1_mem]; exact Sm.ofv (ldF_sv v σ fun w => k w σ)) Φ σ k
  | loadN n x => exact n1_ok (f := fun v σ k => lnF n v σ fun w => k w σ) (g := fun v s => oLoadN std n v s) hr (fun v σ k => by rw [oLoadN_mem]; exact Sm.ofv (lnF_sv n v σ fun w => k w σ)) Φ σ k
  | store n p x => exact n2_ok (f := stF n) (g := fun a b s => oStore std n a b s) hr (fun v w σ k => stF_sm n v w σ k) Φ σ k
  | fieldAddr off x => exact o1_ok (f := faF off) (g := fun v s => match v with | .ptr b o => (true, .ptr b (o + off), s) | _ => bad s) hr (fun v σ k => faF_sm off v σ k) Φ σ k
  | idxArr len size x i => exact n2_ok (f := fun a b σ k => iaF len size a b fun v => k v σ) (g := fun a b s => oIdxArr std len size a b s) hr (fun v w σ k => iaF_sm len size v w σ k) Φ σ k
  | idxSl size x i => exact n2_ok (f := fun a b σ k => isF size a b fun v => k v σ) (g := fun a b s => oIdxSl std size a b s) hr (fun v w σ k => isF_sm size v w σ k) Φ σ k
  | slStr x lo hi =>
    intro h
    have h : (rd x e fun x => rdO (lo.map rd) e fun lo => rdO (hi.map rd) e fun hi => ssF x lo hi fun v => k v σ) ≠ .bad := h
    show ∃ v σ', _ ∧ (rd x e fun x => rdO (lo.map rd) e fun lo => rdO (hi.map rd) e fun hi => ssF x lo hi fun v => k v σ) = _
    obtain ⟨x', h1, h2⟩ := hr x _ h
    rw [h2] at h ⊢
    obtain ⟨y, h3, h4⟩ := hr.opt lo _ h
    rw [h4] at h ⊢
    obtain ⟨z, h5, h6⟩ := hr.opt hi _ h
    rw [h6] at h ⊢
    simp only [step]
    rw [h1, h3, h5]
    exact ssF_sm x' y z σ k h
  | slSl size x lo hi mx =>
    intro h
    have h : (rd x e fun x => rdO (lo.map rd) e fun lo => rdO (hi.map rd) e fun hi => rdO (mx.map rd) e fun mx => svF size x lo hi mx fun v => k v σ) ≠ .bad := h
    show ∃ v σ', _ ∧ (rd x e fun x => rdO (lo.map rd) e fun lo => rdO (hi.map rd) e fun hi => rdO (mx.map rd) e fun mx => svF size x lo hi mx fun v => k v σ) = _
    obtain ⟨x', h1, h2⟩ := hr x _ h
    rw [h2] at h ⊢
    obtain ⟨y, h3, h4⟩ := hr.opt lo _ h
    rw [h4] at h ⊢
    obtain ⟨z, h5, h6⟩ := hr.opt hi _ h
    rw [h6] at h ⊢
    obtain ⟨w, h7, h8⟩ := hr.opt mx _ h
    rw [h8] at h ⊢
    simp only [step]
    rw [h1, h3, h5, h7]
    exact svF_sm size x' y z w σ k h
  | slArr len size x lo hi mx =>
    intro h
    have h : (rd x e fun x => rdO (lo.map rd) e fun lo => rdO (hi.map rd) e fun hi => rdO (mx.map rd) e fun mx => saF len size x lo hi mx σ fun v => k v σ) ≠ .bad := h
    show ∃ v σ', _ ∧ (rd x e fun x => rdO (lo.map rd) e fun lo => rdO (hi.map rd) e fun hi => rdO (mx.map rd) e fun mx => saF len size x lo hi mx σ fun v => k v σ) = _
    obtain ⟨x', h1, h2⟩ := hr x _ h
    rw [h2] at h ⊢
    obtain ⟨y, h3, h4⟩ := hr.opt lo _ h
    rw [h4] at h ⊢
    obtain ⟨z, h5, h6⟩ := hr.opt hi _ h
    rw [h6] at h ⊢
    obtain ⟨w, h7, h8⟩ := hr.opt mx _ h
    rw [h8] at h ⊢
    simp only [step]
    rw [h1, h3, h5, h7]
    exact saF_sm len size x' y z w σ k h
  | extract x n => exact o1_ok (f := exG n) (g := fun v s => match v with | .tup l => (Nat.blt n l.length, l.getD n .top, s) | _ => bad s) hr (fun v σ k => exF_sm v n σ k) Φ σ k
  | mkIface t x => exact o1_ok (f := miF t) (g := fun v s => (true, .ifc t v, s)) hr (fun v σ k _ => ⟨.ifc t v, σ, rfl, rfl⟩) Φ σ k
  | nilCheck x => exact o1_ok (f := ncF) (g := fun v s => match v with | .ptr b o => (true, .ptr b o, s) | .fn (.func f) first cap => (true, .fn (.func f) first cap, s) | _ => bad s) hr (fun v σ k => ncF_sm v σ k) Φ σ k
  | lenStr x => exact o1_ok (f := lsF) (g := fun v s => match v with | .str l => (true, .int .i64 (std.slen l), s) | _ => bad s) hr (fun v σ k => lsF_sm v σ k) Φ σ k
  | lenSl x => exact o1_ok (f := lvF) (g := fun v s => match v with | .sl _ _ n _ _ _ => (true, .int .i64 n, s) | .nilsl => (true, .int .i64 0, s) | _ => bad s) hr (fun v σ k => lvF_sm v σ k) Φ σ k
  | ext x args => exact nL_ok (f := xQ x) (g := fun l s => xstep std s x l) hr (fun l σ k => xQ_sm x l σ k) Φ σ k
  | pur x args => exact nL_ok (f := pQ x) (g := fun l s => match pstep std x l with | (ok, v) => (ok, v, s)) hr (fun l σ k => pQ_sm x l σ k) Φ σ k
  | rd x args => exact nL_ok (f := lQ x) (g := fun l s => match lstep std s x l with | (ok, v) => (ok, v, s)) hr (fun l σ k => lQ_sm x l σ k) Φ σ k
  | mk x args => exact nL_ok (f := nQ x) (g := fun l s => match nstep std x l with | (ok, v, o) => (ok && Nat.blt s.next 1000000, v s.next, s.new o)) hr (fun l σ k => nQ_sm x l σ k) Φ σ k
  | badop => exact Sm.bad
end
end Go.Proofs.YtjgmpdklfcmelaaGreatDoor.V2
namespace Go.Proofs.YtjgmpdklfcmelaaGreatDoor.V2
open Go
noncomputable section
abbrev K2 := E → FH → FR
def caF (vf : FV) (l : List FV) (Φ : Phi) (σ : FH) (k : KV) : FR := FV.rec (motive_1 := fun _ => FR) (motive_2 := fun _ => FR) (fun _ _ => .bad) (fun _ _ => .bad) (fun _ => .bad) (fun _ => .bad) (fun _ _ => .bad) (fun _ _ _ _ _ _ => .bad) (fun _ => .bad) (fun b => Φ.yl b l σ k) (fun f x y _ _ => Fn.rec (motive := fun _ => FR) (fun n => appK l y fun l => appK x l fun l => Φ.fn n l σ k) (fun _ => .bad) (fun _ _ => .bad) (fun _ _ _ _ => .bad) (fun _ => .bad) f) (fun _ _ _ => .bad) (fun _ _ => .bad) (fun _ => .bad) (fun _ _ => .bad) (fun _ _ => .bad) (fun _ => .bad) .bad (fun _ _ _ _ => .bad) vf
def oCall (f : Rd) (l : List Rd) : Opc := fun Φ e σ k => f e fun vf => rdsK l e fun l => caF vf l Φ σ k
def oCallS (n : Nat) (l : List Rd) : Opc := fun Φ e σ k => rdsK l e fun l => Φ.fn n l σ k
def statF : Ref → Option Nat
  | .lit v => match v with
    | .fn f x y => match f with
      | .func n => match x, y with
        | [], [] => some n
        | _, _ => none
      | _ => none
    | _ => none
  | _ => none
theorem statF_eq {r : Ref} {n : Nat} (h : statF r = some n) : r = .lit (.fn (.func n) [] []) := by
  unfold statF at h
  split at h
  · split at h
    · split at h
      · split at h
        · cases h; rfl
        · cases h
      · cases h
    · cases h
  · cases h
def thrO (rd : Ref → Rd) : COp → Opc
  | .aop a => thrA rd a
  | .call f args => match statF f with
    | some n => oCallS n (args.map rd)
    | none => oCall (rd f) (args.map rd)
  | _ => oBad
theorem thrO_ok {rd : Ref → Rd} {e : E} {ev : Ref → AV} (hr : RdOk rd e ev) (hl : ∀ v, ev (.lit v) = v) {Φ : Phi} {Γ : Gam} (hΦ : PhiOk Φ Γ) (c : COp) (σ : FH) (k : KV) : Sm (thrO rd c Φ e σ k) k (cstep std Γ ev (αH σ) c) := by
  cases c with
  | aop a => exact thrA_ok hr a Φ σ k
  | rng _ => exact Sm.bad
  | nxt _ => exact Sm.bad
  | ent _ => exact Sm.bad
  | call f args =>
    simp only [thrO]
    cases hs : statF f with
    | some n =>
      have e1 := statF_eq hs
      subst e1
      intro h
      have h : (rdsK (args.map rd) e fun l => Φ.fn n l σ k) ≠ .bad := h
      show ∃ v σ', _ ∧ (rdsK (args.map rd) e fun l => Φ.fn n l σ k) = _
      obtain ⟨l, h1, h2⟩ := hr.list args _ h
      rw [h2] at h ⊢
      simp only [cstep]
      rw [hl]
      dsimp only
      rw [h1, List.nil_append, List.append_nil]
      exact hΦ.fn n l σ k h
    | none =>
      intro h
      have h : ((rd f) e fun vf => rdsK (args.map rd) e fun l => caF vf l Φ σ k) ≠ .bad := h
      show ∃ v σ', _ ∧ ((rd f) e fun vf => rdsK (args.map rd) e fun l => caF vf l Φ σ k) = _
      obtain ⟨vf, h1, h2⟩ := hr f _ h
      rw [h2] at h ⊢
      obtain ⟨l, h3, h4⟩ := hr.list args _ h
      rw [h4] at h ⊢
      simp only [cstep]
      rw [h1, h3]
      cases vf with
      | fn g x y =>
        cases g with
        | func n =>
          have h : (appK l y fun l => appK x l fun l => Φ.fn n l σ k) ≠ .bad := h
          show ∃ v σ', _ ∧ (appK l y fun l => appK x l fun l => Φ.fn n l σ k) = _
          rw [appK_eq, appK_eq] at h ⊢
          have := hΦ.fn n (x ++ (l ++ y)) σ k h
          rw [αL_append, αL_append] at this
          exact this
        | _ => exact absurd rfl h
      | y b => exact hΦ.yl b l σ k h
      | _ => exact absurd rfl h
def oG (want : Bool) (r : Rd) (op : Opc) : Opc := fun Φ e σ k => r e fun g => FV.rec (motive_1 := fun _ => FR) (motive_2 := fun _ => FR) (fun _ _ => .bad) (fun _ _ => .bad) (fun t => Bool.rec (Bool.rec (op Φ e σ k) (k (.tup []) σ) want) (Bool.rec (k (.tup []) σ) (op Φ e σ k) want) t) (fun _ => .bad) (fun _ _ => .bad) (fun _ _ _ _ _ _ => .bad) (fun _ => .bad) (fun _ => .bad) (fun _ _ _ _ _ => .bad) (fun _ _ _ => .bad) (fun _ _ => .bad) (fun _ => .bad) (fun _ _ => .bad) (fun l _ => k (.tup []) σ) (fun _ => .bad) .bad (fun _ _ _ _ => .bad) g
def thrR (rd : Ref → Rd) (r : CRow) : Opc := match r.guard with
  | none => thrO rd r.op
  | some g => oG g.2 (rd g.1) (thrO rd r.op)
theorem thrR_ok {rd : Ref → Rd} {e : E} {ev : Ref → AV} (hr : RdOk rd e ev) (hl : ∀ v, ev (.lit v) = v) {Φ : Phi} {Γ : Gam} (hΦ : PhiOk Φ Γ) (r : CRow) (σ : FH) (k : KV) : Sm (thrR rd r Φ e σ k) k (gstep std Γ ev (αH σ) r) := by
  unfold thrR gstep
  cases r.guard with
  | none => exact thrO_ok hr hl hΦ _ σ k
  | some g =>
    obtain ⟨g, want⟩ := g
    dsimp only
    intro h
    have hop := thrO_ok hr hl hΦ r.op σ k
    unfold oG at h ⊢
    obtain ⟨v, h1, h2⟩ := hr g _ h
    rw [h2] at h ⊢
    rw [h1]
    cases v with
    | b t =>
      cases t <;> cases want
      · exact hop h
      · exact ⟨.tup [], σ, rfl, rfl⟩
      · exact ⟨.tup [], σ, rfl, rfl⟩
      · exact hop h
    | tup l => exact ⟨.tup [], σ, rfl, rfl⟩
    | _ => exact absurd rfl h
/-! Slots: those whose value is at hand, those of the frame; dr: slots that the frame does not hold. -/
abbrev M := List (Nat × FV)
abbrev bsel {α : Type} (c : Bool) (a b : α) : α := Bool.rec b a c
def rdV (v : FV) : Rd := fun _ k => k v
def rdX : Rd := fun _ _ => .bad
def wrX : Wr := fun _ _ _ => .bad
def lkM : M → Nat → Option FV
  | [], _ => none
  | p :: l, t => bif Nat.beq p.1 t then some p.2 else lkM l t
def hasN (k : Nat) : List Nat → Bool
  | [] => false
  | j :: l => bif Nat.beq j k then true else hasN k l
theorem hasN_append (k : Nat) : ∀ l m : List Nat, hasN k (l ++ m) = (hasN k l || hasN k m)
  | [], m => rfl
  | j :: l, m => by
    show (bif Nat.beq j k then true else hasN k (l ++ m)) = ((bif Nat.beq j k then true else hasN k l) || hasN k m)
    rw [hasN_append k l m]
    cases Nat.beq j k <;> rfl
def inE (nt : Nat) (dr : List Nat) (t : Nat) : Bool := Nat.blt t nt && Nat.blt t 1024 && !hasN t dr
def rdM (nt : Nat) (dr : List Nat) (m : M) : Ref → Rd
  | .op _ => rdX
  | .slot t => match lkM m t with
    | some v => rdV v
    | none => bsel (inE nt dr t) (rdE t) rdX
  | .lit v => rdV (βV v)
def Ee (nt : Nat) (dr : List Nat) (e : E) (env : T AV) : Prop := ∀ t, inE nt dr t = true → evS env (.slot t) = αV (e.at t)
structure Em (nt : Nat) (dr : List Nat) (m : M) (e : E) (env : T AV) : Prop where
  e : Ee nt dr e env
  m : ∀ t v, lkM m t = some v → evS env (.slot t) = αV v
theorem inE_lt {nt : Nat} {dr : List Nat} {t : Nat} (h : inE nt dr t = true) : t < nt ∧ t < 1024 := by
  unfold inE at h
  rw [Bool.and_eq_true, Bool.and_eq_true, Nat.blt_eq, Nat.blt_eq] at h
  exact h.1
theorem rdM_ok {nt : Nat} {dr : List Nat} {m : M} {e : E} {env : T AV} (h : Em nt dr m e env) : RdOk (rdM nt dr m) e (evS env) := fun r k hk => by
  cases r with
  | op j => exact absurd rfl hk
  | slot t =>
    simp only [rdM] at hk ⊢
    cases hm : lkM m t with
    | some v => exact ⟨v, h.m t v hm, rfl⟩
    | none =>
      rw [hm] at hk
      dsimp only at hk ⊢
      cases hb : inE nt dr t
      · rw [hb] at hk; exact absurd rfl hk
      · dsimp only [bsel]
        exact ⟨e.at t, h.e t hb, rdE_eq (inE_lt hb).2 e k⟩
  | lit v => exact ⟨βV v, (αβ v).symm, rfl⟩
theorem evS_put {env : T AV} {d t : Nat} (hd : d < 1024) (v : AV) : evS (env.put d v) (.slot t) = if t = d then v else evS env (.slot t) := by
  simp only [evS, T.get_put _ _ _ _ (show d < 1048576 by omega)]
  by_cases h : t = d
  · rw [if_pos h, if_pos h]
  · rw [if_neg h, if_neg h]
def Fr (S : List Nat) (env env' : T AV) : Prop := ∀ t, hasN t S = false → evS env' (.slot t) = evS env (.slot t)
theorem Fr.refl (S : List Nat) (env : T AV) : Fr S env env := fun _ _ => rfl
theorem Fr.trans {S T' : List Nat} {a b c : T AV} (h : Fr S a b) (h' : Fr T' b c) : Fr (S ++ T') a c := fun t ht => by
  rw [hasN_append, Bool.or_eq_false_iff] at ht
  exact (h' t ht.2).trans (h t ht.1)
theorem Fr.left {S T' : List Nat} {a b : T AV} (h : Fr S a b) : Fr (S ++ T') a b := fun t ht => by
  rw [hasN_append, Bool.or_eq_false_iff] at ht
  exact h t ht.1
theorem Fr.right {S T' : List Nat} {a b : T AV} (h : Fr T' a b) : Fr (S ++ T') a b := fun t ht => by
  rw [hasN_append, Bool.or_eq_false_iff] at ht
  exact h t ht.2
def filt (S : List Nat) : M → M
  | [] => []
  | p :: l => bif hasN p.1 S then filt S l else p :: filt S l
theorem filt_lk {S : List Nat} {t : Nat} {v : FV} : ∀ {m : M}, lkM (filt S m) t = some v → hasN t S = false ∧ lkM m t = some v
  | [], h => by cases h
  | p :: l, h => by
    unfold filt at h
    unfold lkM
    cases hp : hasN p.1 S with
    | true =>
      rw [hp] at h
      obtain ⟨h1, h2⟩ := filt_lk (m := l) h
      refine ⟨h1, ?_⟩
      cases hb : Nat.beq p.1 t
      · exact h2
      · rw [← Nat.eq_of_beq_eq_true hb, hp] at h1; cases h1
    | false =>
      rw [hp] at h
      have h : (bif Nat.beq p.1 t then some p.2 else lkM (filt S l) t) = some v := h
      cases hb : Nat.beq p.1 t
      · rw [hb] at h; exact filt_lk (m := l) h
      · rw [hb] at h; exact ⟨by rw [← Nat.eq_of_beq_eq_true hb]; exact hp, h⟩
theorem Em.filt {nt : Nat} {dr S : List Nat} {m : M} {e e' : E} {env env' : T AV} (h : Em nt dr m e env) (hf : Fr S env env') (he : Ee nt dr e' env') : Em nt dr (filt S m) e' env' := ⟨he, fun t v ht => by
  obtain ⟨h1, h2⟩ := filt_lk ht
  rw [hf t h1]; exact h.m t v h2⟩
/-! Code. -/
abbrev Cd := Phi → Nat → K2 → K2 → (Nat → K2) → K2
def cSkip : Cd := fun _ _ kn _ _ => kn
def cRet : Cd := fun _ _ _ kr _ => kr
def cExit (i : Nat) : Cd := fun _ _ _ _ ke => ke i
def cSeq (a b : Cd) : Cd := fun Φ N kn kr ke => a Φ N (b Φ N kn kr ke) kr ke
def cCond (c : Rd) (a b : Cd) : Cd := fun Φ N kn kr ke e σ => c e fun v => kB (fun t => Bool.rec (b Φ N kn kr ke e σ) (a Φ N kn kr ke e σ) t) v
def cBlk (id : Nat) (c : Cd) : Cd := fun Φ N kn kr ke => c Φ N kn kr fun i e σ => Bool.rec (ke i e σ) (kn e σ) (Nat.beq i id)
def cLoop (fuel : Nat) (c : Cd) : Cd := fun Φ N _ kr ke e σ => Nat.rec (motive := fun _ => K2) (fun _ _ => .bad) (fun _ ih e σ => FH.rec (motive := fun _ => FR) (fun n m => gT (Nat.ble N n) (c Φ N ih kr ke e ⟨n, m⟩)) σ) fuel e σ
def cBad : Cd := fun _ _ _ _ _ _ _ => .bad
def cLet (op : Opc) (f : FV → Cd) : Cd := fun Φ N kn kr ke e σ => op Φ e σ fun v σ => f v Φ N kn kr ke e σ
def cLetW (op : Opc) (w : Wr) (f : FV → Cd) : Cd := fun Φ N kn kr ke e σ => op Φ e σ fun v σ => w e v fun e => f v Φ N kn kr ke e σ
def cDo (op : Opc) (c : Cd) : Cd := fun Φ N kn kr ke e σ => op Φ e σ fun _ σ => c Φ N kn kr ke e σ
def cWr (w : Wr) (v : FV) (c : Cd) : Cd := fun Φ N kn kr ke e σ => w e v fun e => c Φ N kn kr ke e σ
def stM (nt : Nat) (dr : List Nat) (d : Nat) (op : Opc) (f : FV → Cd) : Cd := bsel (Nat.blt d nt && Nat.blt d 1024) (bsel (hasN d dr) (cLet op f) (cLetW op (wrE d) f)) cBad
def wvM (nt : Nat) (dr : List Nat) (d : Nat) (v : FV) (c : Cd) : Cd := bsel (Nat.blt d nt && Nat.blt d 1024) (bsel (hasN d dr) c (cWr (wrE d) v c)) cBad
theorem wr_ok {nt : Nat} {dr : List Nat} {d : Nat} {m : M} {e : E} {env : T AV} {v : FV} {k : E → FR} (he : Em nt dr m e env) (hd : d < 1024) : ∃ e', Em nt dr ((d, v) :: m) e' (env.put d (αV v)) ∧ wrE d e v k = k e' := by
  obtain ⟨e', h1, h2⟩ := wrE_eq hd e v k
  refine ⟨e', ⟨fun t ht => ?_, fun t u ht => ?_⟩, h1⟩
  · rw [evS_put hd, h2 t (inE_lt ht).2]
    by_cases h : t = d
    · rw [if_pos h, if_pos h]
    · rw [if_neg h, if_neg h]; exact he.e t ht
  · rw [evS_put hd]
    have ht : (bif Nat.beq d t then some v else lkM m t) = some u := ht
    cases hb : Nat.beq d t
    · rw [hb] at ht
      rw [if_neg (fun e => by rw [e, Nat.beq_refl] at hb; cases hb)]; exact he.m t u ht
    · rw [hb] at ht; cases ht
      rw [if_pos (Nat.eq_of_beq_eq_true hb).symm]
theorem nowr_ok {nt : Nat} {dr : List Nat} {d : Nat} {m : M} {e : E} {env : T AV} {v : FV} (he : Em nt dr m e env) (hd : d < 1024) (hn : hasN d dr = true) : Em nt dr ((d, v) :: m) e (env.put d (αV v)) := by
  refine ⟨fun t ht => ?_, fun t u ht => ?_⟩
  · rw [evS_put hd]
    have : t ≠ d := fun e => by
      rw [e] at ht; unfold inE at ht; rw [hn] at ht; simp at ht
    rw [if_neg this]; exact he.e t ht
  · rw [evS_put hd]
    have ht : (bif Nat.beq d t then some v else lkM m t) = some u := ht
    cases hb : Nat.beq d t
    · rw [hb] at ht
      rw [if_neg (fun e => by rw [e, Nat.beq_refl] at hb; cases hb)]; exact he.m t u ht
    · rw [hb] at ht; cases ht
      rw [if_pos (Nat.eq_of_beq_eq_true hb).symm]
theorem put_fr {d : Nat} {env : T AV} {v : AV} (hd : d < 1024) : Fr [d] env (env.put d v) := fun t ht => by
  rw [evS_put hd, if_neg]
  rintro rfl
  have ht : (bif Nat.beq t t then true else false) = false := ht
  rw [Nat.beq_refl] at ht; cases ht
def asgR : List CRow → List Nat
  | [] => []
  | r :: l => match r.dst with
    | some d => [d] ++ asgR l
    | none => asgR l
def movV (m : M) (r : CRow) : Option FV := match r.guard with
  | some _ => none
  | none => match r.op with
    | .aop a => match a with
      | .mov x => match x with
        | .slot t => lkM m t
        | .lit v => some (βV v)
        | _ => none
      | _ => none
    | _ => none
theorem movV_ok {nt : Nat} {dr : List Nat} {m : M} {e : E} {env : T AV} {r : CRow} {v : FV} (h : Em nt dr m e env) (hv : movV m r = some v) (Γ : Gam) (σ : AH) : gstep std Γ (evS env) σ r = (true, αV v, σ) := by
  unfold movV at hv
  unfold gstep
  split at hv
  · cases hv
  · rename_i hg
    rw [hg]
    split at hv
    · rename_i a ha
      split at hv
      · rename_i x
        split at hv
        · rename_i t
          dsimp only
          rw [ha]
          show (true, evS env (.slot t), σ) = _
          rw [h.m t v hv]
        · rename_i w
          cases hv
          dsimp only
          rw [ha]
          show (true, w, σ) = _
          rw [αβ w]
        · cases hv
      · cases hv
    · cases hv
def rowsK (nt : Nat) (dr : List Nat) (rest : M → Cd) : List CRow → M → Cd
  | [], m => rest m
  | r :: l, m => match r.dst with
    | some d => match movV m r with
      | some v => wvM nt dr d v (rowsK nt dr rest l ((d, v) :: m))
      | none => stM nt dr d (thrR (rdM nt dr m) r) fun v => rowsK nt dr rest l ((d, v) :: m)
    | none => cDo (thrR (rdM nt dr m) r) (rowsK nt dr rest l m)
theorem rowsK_ok {nt : Nat} {dr : List Nat} {rest : M → Cd} {Φ : Phi} {Γ : Gam} (hΦ : PhiOk Φ Γ) {N : Nat} {kn kr : K2} {ke : Nat → K2} : ∀ (l : List CRow) (m : M) (e : E) (env : T AV) (σ : FH), Em nt dr m e env → rowsK nt dr rest l m Φ N kn kr ke e σ ≠ .bad →
    ∃ m' e' env' σ', evP std Γ l env (αH σ) = (true, env', αH σ') ∧ Fr (asgR l) env env' ∧ Em nt dr m' e' env' ∧ rowsK nt dr rest l m Φ N kn kr ke e σ = rest m' Φ N kn kr ke e' σ'
  | [], m, e, env, σ, he, _ => ⟨m, e, env, σ, rfl, Fr.refl _ _, he, rfl⟩
  | r :: l, m, e, env, σ, he, h => by
    have key := fun k => thrR_ok (rdM_ok he) (fun v => rfl) hΦ r σ k
    unfold rowsK at h ⊢
    unfold evP asgR
    cases hd : r.dst with
    | none =>
      rw [hd] at h
      have h : (thrR (rdM nt dr m) r Φ e σ fun _ σ => rowsK nt dr rest l m Φ N kn kr ke e σ) ≠ .bad := h
      show ∃ m' e' env' σ', _ ∧ _ ∧ _ ∧ (thrR (rdM nt dr m) r Φ e σ fun _ σ => rowsK nt dr rest l m Φ N kn kr ke e σ) = _
      obtain ⟨v, σ1, h1, h2⟩ := key _ h
      rw [h2] at h ⊢
      try dsimp only at h ⊢
      rw [h1]
      dsimp only
      obtain ⟨m', e', env', σ', h3, h4, h5, h6⟩ := rowsK_ok hΦ l m e env σ1 he h
      exact ⟨m', e', env', σ', by simp only [putD]; rw [h3]; rfl, h4, h5, h6⟩
    | some d =>
      rw [hd] at h
      dsimp only at h ⊢
      have go : d < 1024 → ∀ (e1 : E) (v : FV) (σ1 : FH), gstep std Γ (evS env) (αH σ) r = (true, αV v, αH σ1) → Em nt dr ((d, v) :: m) e1 (env.put d (αV v)) → rowsK nt dr rest l ((d, v) :: m) Φ N kn kr ke e1 σ1 ≠ .bad →
          ∃ m' e' env' σ', (match gstep std Γ (evS env) (αH σ) r with | (ok, v, σ') => match evP std Γ l (putD env (some d) v) σ' with | (ok', x) => (ok && ok', x)) = (true, env', αH σ') ∧ Fr ([d] ++ asgR l) env env' ∧ Em nt dr m' e' env' ∧ rowsK nt dr rest l ((d, v) :: m) Φ N kn kr ke e1 σ1 = rest m' Φ N kn kr ke e' σ' := fun hd1 e1 v σ1 h1 h2 h => by
        obtain ⟨m', e', env', σ', h3, h4, h5, h6⟩ := rowsK_ok hΦ l _ e1 _ σ1 h2 h
        refine ⟨m', e', env', σ', ?_, (put_fr hd1).trans h4, h5, h6⟩
        rw [h1]
        dsimp only [putD]
        rw [h3]; rfl
      cases hmv : movV m r with
      | some v =>
        rw [hmv] at h
        have hgs := movV_ok he hmv Γ (αH σ)
        dsimp only at h ⊢
        unfold wvM at h ⊢
        cases hb : Nat.blt d nt && Nat.blt d 1024 with
        | false => rw [hb] at h; exact absurd rfl h
        | true =>
          rw [hb] at h
          rw [Bool.and_eq_true, Nat.blt_eq, Nat.blt_eq] at hb
          dsimp only [bsel] at h ⊢
          cases hn : hasN d dr with
          | true =>
            rw [hn] at h
            exact go hb.2 e v σ hgs (nowr_ok he hb.2 hn) h
          | false =>
            rw [hn] at h
            have h : (wrE d e v fun e => rowsK nt dr rest l ((d, v) :: m) Φ N kn kr ke e σ) ≠ .bad := h
            show ∃ m' e' env' σ', _ ∧ _ ∧ _ ∧ (wrE d e v fun e => rowsK nt dr rest l ((d, v) :: m) Φ N kn kr ke e σ) = _
            obtain ⟨e1, h3, h4⟩ := wr_ok (v := v) (k := fun e => rowsK nt dr rest l ((d, v) :: m) Φ N kn kr ke e σ) he hb.2
            rw [h4] at h ⊢
            exact go hb.2 e1 v σ hgs h3 h
      | none =>
      rw [hmv] at h
      dsimp only at h ⊢
      unfold stM at h ⊢
      cases hb : Nat.blt d nt && Nat.blt d 1024 with
      | false => rw [hb] at h; exact absurd rfl h
      | true =>
        rw [hb] at h
        rw [Bool.and_eq_true, Nat.blt_eq, Nat.blt_eq] at hb
        dsimp only [bsel] at h ⊢
        cases hn : hasN d dr with
        | true =>
          rw [hn] at h
          have h : (thrR (rdM nt dr m) r Φ e σ fun v σ => rowsK nt dr rest l ((d, v) :: m) Φ N kn kr ke e σ) ≠ .bad := h
          show ∃ m' e' env' σ', _ ∧ _ ∧ _ ∧ (thrR (rdM nt dr m) r Φ e σ fun v σ => rowsK nt dr rest l ((d, v) :: m) Φ N kn kr ke e σ) = _
          obtain ⟨v, σ1, h1, h2⟩ := key _ h
          rw [h2] at h ⊢
          exact go hb.2 e v σ1 h1 (nowr_ok he hb.2 hn) h
        | false =>
          rw [hn] at h
          have h : (thrR (rdM nt dr m) r Φ e σ fun v σ => wrE d e v fun e => rowsK nt dr rest l ((d, v) :: m) Φ N kn kr ke e σ) ≠ .bad := h
          show ∃ m' e' env' σ', _ ∧ _ ∧ _ ∧ (thrR (rdM nt dr m) r Φ e σ fun v σ => wrE d e v fun e => rowsK nt dr rest l ((d, v) :: m) Φ N kn kr ke e σ) = _
          obtain ⟨v, σ1, h1, h2⟩ := key _ h
          rw [h2] at h ⊢
          try dsimp only at h ⊢
          obtain ⟨e1, h3, h4⟩ := wr_ok (v := v) (k := fun e => rowsK nt dr rest l ((d, v) :: m) Φ N kn kr ke e σ1) he hb.2
          rw [h4] at h ⊢
          exact go hb.2 e1 v σ1 h1 h3 h
/-! Regions that draw their order. -/
def rdD (nt : Nat) (dr : List Nat) (m vo : M) : Ref → Rd
  | .op k => match lkM vo k with
    | some v => rdV v
    | none => rdX
  | r => rdM nt dr m r
def Vo (vo : M) (vals : T AV) : Prop := ∀ k v, lkM vo k = some v → valD vals k = αV v
theorem rdD_ok {nt : Nat} {dr : List Nat} {m vo : M} {e : E} {env vals : T AV} (h : Em nt dr m e env) (hv : Vo vo vals) : RdOk (rdD nt dr m vo) e (evR env vals) := fun r k hk => by
  cases r with
  | op j =>
    simp only [rdD] at hk ⊢
    cases hm : lkM vo j with
    | some v => exact ⟨v, hv j v hm, rfl⟩
    | none => rw [hm] at hk; exact absurd rfl hk
  | slot t => exact rdM_ok h (.slot t) k hk
  | lit v => exact ⟨βV v, (αβ v).symm, rfl⟩
theorem Vo.put {vo : M} {vals : T AV} {p : Nat} {v : FV} (h : Vo vo vals) (hp : p < 1048576) : Vo ((p, v) :: vo) (vals.put p (αV v)) := fun k u hk => by
  have hk : (bif Nat.beq p k then some v else lkM vo k) = some u := hk
  simp only [valD, T.get_put _ _ _ _ hp]
  cases hb : Nat.beq p k
  · rw [hb] at hk
    rw [if_neg (fun e => by rw [e, Nat.beq_refl] at hb; cases hb)]; exact h k u hk
  · rw [hb] at hk; cases hk
    rw [if_pos (Nat.eq_of_beq_eq_true hb).symm]
def eqQ (v w : FV) (r : FR) : FR := gT (same std (αV v) (αV w)) r
def cRck (op : Opc) (w : FV) (c : Cd) : Cd := fun Φ N kn kr ke e σ => op Φ e σ fun v _ => eqQ v w (c Φ N kn kr ke e σ)
def rckK (nt : Nat) (dr : List Nat) (m vo : M) (all : List (Nat × CRow)) : List Nat → Cd → Cd
  | [], c => c
  | j :: l, c => match all.find? fun p => Nat.beq p.1 j with
    | some q => match lkM vo j with
      | some w => cRck (thrR (rdD nt dr m vo) q.2) w (rckK nt dr m vo all l c)
      | none => cBad
    | none => cBad
theorem rckK_ok {nt : Nat} {dr : List Nat} {m vo : M} {all : List (Nat × CRow)} {Φ : Phi} {Γ : Gam} (hΦ : PhiOk Φ Γ) {e : E} {env vals : T AV} (he : Em nt dr m e env) (hv : Vo vo vals) {σ : FH} {c : Cd} {N : Nat} {kn kr : K2} {ke : Nat → K2} : ∀ (l : List Nat), rckK nt dr m vo all l c Φ N kn kr ke e σ ≠ .bad → rechk std Γ env all vals (αH σ) l = true ∧ rckK nt dr m vo all l c Φ N kn kr ke e σ = c Φ N kn kr ke e σ
  | [], _ => ⟨rfl, rfl⟩
  | j :: l, h => by
    unfold rckK at h ⊢
    unfold rechk
    cases hf : all.find? fun p => Nat.beq p.1 j with
    | none => rw [hf] at h; exact absurd rfl h
    | some q =>
      rw [hf] at h
      dsimp only at h ⊢
      cases hl : lkM vo j with
      | none => rw [hl] at h; exact absurd rfl h
      | some w =>
        rw [hl] at h
        have h : (thrR (rdD nt dr m vo) q.2 Φ e σ fun v _ => eqQ v w (rckK nt dr m vo all l c Φ N kn kr ke e σ)) ≠ .bad := h
        show _ ∧ (thrR (rdD nt dr m vo) q.2 Φ e σ fun v _ => eqQ v w (rckK nt dr m vo all l c Φ N kn kr ke e σ)) = _
        obtain ⟨v, σ1, h1, h2⟩ := thrR_ok (rdD_ok he hv) (fun v => rfl) hΦ q.2 σ _ h
        rw [h2] at h ⊢
        try dsimp only at h ⊢
        obtain ⟨h5, h6⟩ := gT_cases (show gT (same std (αV v) (αV w)) (rckK nt dr m vo all l c Φ N kn kr ke e σ) ≠ .bad from h)
        unfold eqQ at h ⊢
        rw [h6] at h ⊢
        obtain ⟨h7, h8⟩ := rckK_ok hΦ he hv l h
        refine ⟨?_, h8⟩
        try dsimp only
        rw [h1]
        simp only [Bool.true_and]
        rw [hv j w hl, h5, h7]; rfl
def movD1 (m vo : M) (r : CRow) : Option FV := match r.guard with
  | some _ => none
  | none => match r.op with
    | .aop a => match a with
      | .mov x => match x with
        | .slot t => lkM m t
        | .op j => lkM vo j
        | .lit v => some (βV v)
      | _ => none
    | _ => none
theorem movD1_ok {nt : Nat} {dr : List Nat} {m vo : M} {e : E} {env vals : T AV} {r : CRow} {v : FV} (h : Em nt dr m e env) (hV : Vo vo vals) (hv : movD1 m vo r = some v) (Γ : Gam) (σ : AH) : gstep std Γ (evR env vals) σ r = (true, αV v, σ) := by
  unfold movD1 at hv
  unfold gstep
  split at hv
  · cases hv
  · rename_i hg
    rw [hg]
    split at hv
    · rename_i a ha
      split at hv
      · rename_i x
        split at hv
        · rename_i t
          dsimp only
          rw [ha]
          show (true, evR env vals (.slot t), σ) = _
          rw [show evR env vals (.slot t) = αV v from h.m t v hv]
        · rename_i j
          dsimp only
          rw [ha]
          show (true, valD vals j, σ) = _
          rw [hV j v hv]
        · rename_i w
          cases hv
          dsimp only
          rw [ha]
          show (true, w, σ) = _
          rw [αβ w]
      · cases hv
    · cases hv
def rowsD (nt : Nat) (dr : List Nat) (m : M) (all : List (Nat × CRow)) (rc : Nat → List Nat) (fin : M → Cd) : List (Nat × CRow) → M → Cd
  | [], vo => fin vo
  | p :: l, vo => bsel (Nat.blt p.1 1024) (match movD1 m vo p.2 with
    | some v => rckK nt dr m ((p.1, v) :: vo) all (rc p.1) (rowsD nt dr m all rc fin l ((p.1, v) :: vo))
    | none => cLet (thrR (rdD nt dr m vo) p.2) fun v => rckK nt dr m ((p.1, v) :: vo) all (rc p.1) (rowsD nt dr m all rc fin l ((p.1, v) :: vo))) cBad
theorem rowsD_ok {nt : Nat} {dr : List Nat} {m : M} {all : List (Nat × CRow)} {rc : Nat → List Nat} {fin : M → Cd} {Φ : Phi} {Γ : Gam} (hΦ : PhiOk Φ Γ) {e : E} {env : T AV} (he : Em nt dr m e env) {N : Nat} {kn kr : K2} {ke : Nat → K2} : ∀ (l : List (Nat × CRow)) (vo : M) (vals : T AV) (σ : FH), Vo vo vals → rowsD nt dr m all rc fin l vo Φ N kn kr ke e σ ≠ .bad →
    ∃ vo' vals' σ', evD std Γ env all rc l vals (αH σ) = (true, vals', αH σ') ∧ Vo vo' vals' ∧ rowsD nt dr m all rc fin l vo Φ N kn kr ke e σ = fin vo' Φ N kn kr ke e σ'
  | [], vo, vals, σ, hv, _ => ⟨vo, vals, σ, rfl, hv, rfl⟩
  | p :: l, vo, vals, σ, hv, h => by
    rw [evD_cons]
    unfold rowsD at h ⊢
    cases hp : Nat.blt p.1 1024 with
    | false => rw [hp] at h; exact absurd rfl h
    | true =>
      rw [hp] at h
      rw [Nat.blt_eq] at hp
      cases hmv : movD1 m vo p.2 with
      | some v =>
        rw [hmv] at h
        have h : rckK nt dr m ((p.1, v) :: vo) all (rc p.1) (rowsD nt dr m all rc fin l ((p.1, v) :: vo)) Φ N kn kr ke e σ ≠ .bad := h
        show ∃ vo' vals' σ', _ ∧ _ ∧ rckK nt dr m ((p.1, v) :: vo) all (rc p.1) (rowsD nt dr m all rc fin l ((p.1, v) :: vo)) Φ N kn kr ke e σ = _
        rw [movD1_ok he hv hmv Γ (αH σ)]
        dsimp only
        have g2 : Vo ((p.1, v) :: vo) (vals.put p.1 (αV v)) := hv.put (by omega)
        obtain ⟨g4, g5⟩ := rckK_ok hΦ he g2 _ h
        rw [g5] at h ⊢
        obtain ⟨vo', vals', σ', h3, h4, h5⟩ := rowsD_ok hΦ he l _ _ σ g2 h
        refine ⟨vo', vals', σ', ?_, h4, h5⟩
        rw [h3, g4]; rfl
      | none =>
      rw [hmv] at h
      have h : (thrR (rdD nt dr m vo) p.2 Φ e σ fun v σ => rckK nt dr m ((p.1, v) :: vo) all (rc p.1) (rowsD nt dr m all rc fin l ((p.1, v) :: vo)) Φ N kn kr ke e σ) ≠ .bad := h
      show ∃ vo' vals' σ', _ ∧ _ ∧ (thrR (rdD nt dr m vo) p.2 Φ e σ fun v σ => rckK nt dr m ((p.1, v) :: vo) all (rc p.1) (rowsD nt dr m all rc fin l ((p.1, v) :: vo)) Φ N kn kr ke e σ) = _
      obtain ⟨v, σ1, h1, h2⟩ := thrR_ok (rdD_ok he hv) (fun v => rfl) hΦ p.2 σ _ h
      rw [h2] at h ⊢
      try dsimp only at h ⊢
      rw [h1]
      dsimp only
      have g2 : Vo ((p.1, v) :: vo) (vals.put p.1 (αV v)) := hv.put (by omega)
      obtain ⟨g4, g5⟩ := rckK_ok hΦ he g2 _ h
      rw [g5] at h ⊢
      obtain ⟨vo', vals', σ', h3, h4, h5⟩ := rowsD_ok hΦ he l _ _ σ1 g2 h
      refine ⟨vo', vals', σ', ?_, h4, h5⟩
      rw [h3, g4]; rfl
def movD (nt : Nat) (dr : List Nat) (vo : M) (rest : M → Cd) : List (Option Nat) → Nat → M → Cd
  | [], _, m => rest m
  | d :: l, i, m => match d with
    | none => movD nt dr vo rest l (i + 1) m
    | some d => match lkM vo i with
      | some v => wvM nt dr d v (movD nt dr vo rest l (i + 1) ((d, v) :: m))
      | none => cBad
def asgD : List (Option Nat) → List Nat
  | [] => []
  | d :: l => match d with
    | none => asgD l
    | some d => [d] ++ asgD l
theorem movD_ok {nt : Nat} {dr : List Nat} {vo : M} {rest : M → Cd} {Φ : Phi} {vals : T AV} (hv : Vo vo vals) {σ : FH} {N : Nat} {kn kr : K2} {ke : Nat → K2} : ∀ (l : List (Option Nat)) (i : Nat) (m : M) (e : E) (env : T AV), Em nt dr m e env → movD nt dr vo rest l i m Φ N kn kr ke e σ ≠ .bad → ∃ m' e', Fr (asgD l) env (putAll vals l i env) ∧ Em nt dr m' e' (putAll vals l i env) ∧ movD nt dr vo rest l i m Φ N kn kr ke e σ = rest m' Φ N kn kr ke e' σ
  | [], i, m, e, env, he, _ => ⟨m, e, Fr.refl _ _, he, rfl⟩
  | d :: l, i, m, e, env, he, h => by
    unfold movD at h ⊢
    unfold putAll asgD
    cases d with
    | none => exact movD_ok hv l (i + 1) m e env he h
    | some d =>
      dsimp only at h ⊢
      cases hl : lkM vo i with
      | none => rw [hl] at h; exact absurd rfl h
      | some v =>
        rw [hl] at h
        dsimp only at h ⊢
        unfold wvM at h ⊢
        cases hb : Nat.blt d nt && Nat.blt d 1024 with
        | false => rw [hb] at h; exact absurd rfl h
        | true =>
          rw [hb] at h
          rw [Bool.and_eq_true, Nat.blt_eq, Nat.blt_eq] at hb
          dsimp only [bsel] at h ⊢
          have h1 : valD vals i = αV v := hv i v hl
          simp only [putD]
          rw [h1]
          cases hn : hasN d dr with
          | true =>
            rw [hn] at h
            dsimp only [bsel] at h ⊢
            obtain ⟨m', e', h3, h4, h5⟩ := movD_ok hv l (i + 1) _ e _ (nowr_ok he hb.2 hn) h
            exact ⟨m', e', (put_fr hb.2).trans h3, h4, h5⟩
          | false =>
            rw [hn] at h
            have h : (wrE d e v fun e => movD nt dr vo rest l (i + 1) ((d, v) :: m) Φ N kn kr ke e σ) ≠ .bad := h
            show ∃ m' e', _ ∧ _ ∧ (wrE d e v fun e => movD nt dr vo rest l (i + 1) ((d, v) :: m) Φ N kn kr ke e σ) = _
            obtain ⟨e1, h3, h4⟩ := wr_ok (v := v) (k := fun e => movD nt dr vo rest l (i + 1) ((d, v) :: m) Φ N kn kr ke e σ) he hb.2
            rw [h4] at h ⊢
            obtain ⟨m', e', h5, h6, h7⟩ := movD_ok hv l (i + 1) _ e1 _ h3 h
            exact ⟨m', e', (put_fr hb.2).trans h5, h6, h7⟩
/-! Code. -/
def bdK (ws : List Wr) : List FV → E → (E → FR) → FR := List.rec (motive := fun _ => List FV → E → (E → FR) → FR) (fun l e k => List.rec (motive := fun _ => FR) (k e) (fun _ _ _ => .bad) l) (fun w _ ih l e k => List.rec (motive := fun _ => FR) .bad (fun v l _ => w e v fun e => ih l e k) l) ws
def kX : K2 := fun _ _ => .bad
def kXe : Nat → K2 := fun _ _ _ => .bad
def rnQ (ws : List Wr) (a b : Cd) (Φ : Phi) (e : E) : HF := fun l σ k => bdK ws l e fun e => FH.rec (motive := fun _ => FR) (fun N m => a Φ N (b Φ N (fun _ σ => k (.b true) σ) kX kXe) kX kXe e ⟨N, m⟩) σ
def shO : FObj := .cells [] 0 .ro
def cRf (f : Rd) (ws : List Wr) (a b : Cd) : Cd := fun Φ _ kn _ _ e σ => f e fun v => FV.rec (motive_1 := fun _ => FR) (motive_2 := fun _ => FR) (fun _ _ => .bad) (fun _ _ => .bad) (fun _ => .bad) (fun _ => .bad) (fun _ _ => .bad) (fun _ _ _ _ _ _ => .bad) (fun _ => .bad) (fun _ => .bad) (fun g x y _ _ => Fn.rec (motive := fun _ => FR) (fun n => nM σ shO fun bl σ => appK x (FV.y bl :: y) fun l => (Φ.up bl (rnQ ws a b Φ.bare e)).fn n l σ fun _ σ => kn e σ) (fun _ => .bad) (fun _ _ => .bad) (fun _ _ _ _ => .bad) (fun _ => .bad) g) (fun _ _ _ => .bad) (fun _ _ => .bad) (fun _ => .bad) (fun _ _ => .bad) (fun _ _ => .bad) (fun _ => .bad) .bad (fun _ _ _ _ => .bad) v
def wrB (nt : Nat) (dr : List Nat) (t : Nat) : Wr := bsel (inE nt dr t) (wrE t) wrX
def asg : ACode → List Nat
  | .seq a b => asg a ++ asg b
  | .cond _ a b => asg a ++ asg b
  | .block _ c => asg c
  | .loop c => asg c
  | .reg rows => asgR rows
  | .regd _ _ ds => asgD ds
  | _ => []
def cS : M → Cd := fun _ => cSkip
def thrK (fuel nt : Nat) (dr : List Nat) : ACode → M → (M → Cd) → Cd
  | .skip, m, rest => rest m
  | .ret, _, _ => cRet
  | .exit id, _, _ => cExit id
  | .seq a b, m, rest => thrK fuel nt dr a m fun m => thrK fuel nt dr b m rest
  | .cond c a b, m, rest => cSeq (cCond (rdM nt dr m c) (thrK fuel nt dr a m cS) (thrK fuel nt dr b m cS)) (rest (filt (asg a ++ asg b) m))
  | .block id c, m, rest => cSeq (cBlk id (thrK fuel nt dr c m cS)) (rest (filt (asg c) m))
  | .loop c, m, _ => cLoop fuel (thrK fuel nt dr c (filt (asg c) m) cS)
  | .reg rows, m, rest => rowsK nt dr rest rows m
  | .regd st rcs ds, m, rest => rowsD nt dr m st (rcGet rcs) (fun vo => movD nt dr vo rest ds 0 m) st []
  | .bad, _, _ => cBad
  | .rfun f ps a b, m, rest => cSeq (cRf (rdM nt dr m f) (ps.map (wrB nt dr)) (thrK fuel nt dr a (filt ps m) cS) (thrK fuel nt dr b (filt (asg a) (filt ps m)) cS)) (rest m)
  | .mfor _ _ _ _ _, _, _ => cBad
def KEnd (nt : Nat) (dr : List Nat) (rest : M → Cd) (Φ : Phi) (N : Nat) (kn kr : K2) (ke : Nat → K2) (fr : FR) (e' : E) (env' : T AV) (σ' : FH) : AX → Prop
  | .normal => ∃ m', Em nt dr m' e' env' ∧ fr = rest m' Φ N kn kr ke e' σ'
  | .ret => Ee nt dr e' env' ∧ fr = kr e' σ'
  | .exit i => Ee nt dr e' env' ∧ fr = ke i e' σ'
def KOk (fuel nt : Nat) (dr : List Nat) (c : ACode) : Prop := ∀ m rest Φ Γ, PhiOk Φ Γ → ∀ N kn kr ke e σ env, Em nt dr m e env → thrK fuel nt dr c m rest Φ N kn kr ke e σ ≠ .bad →
  ∃ x env' e' σ', run std Γ N fuel c env (αH σ) = .ok x env' (αH σ') ∧ Fr (asg c) env env' ∧ KEnd nt dr rest Φ N kn kr ke (thrK fuel nt dr c m rest Φ N kn kr ke e σ) e' env' σ' x
theorem bindP_fr : ∀ (ps : List Nat) (l : List AV) (env : T AV), (∀ p ∈ ps, p < 1024) → Fr ps env (bindP env ps l)
  | [], l, env, _ => by cases l <;> exact Fr.refl _ _
  | p :: ps, [], env, _ => Fr.refl _ _
  | p :: ps, v :: l, env, h => (put_fr (h p List.mem_cons_self)).trans (bindP_fr ps l _ fun q hq => h q (List.mem_cons_of_mem _ hq))
theorem bdK_ok {nt : Nat} {dr : List Nat} : ∀ (ps : List Nat) (l : List FV) (e : E) (env : T AV) (k : E → FR), Ee nt dr e env → bdK (ps.map (wrB nt dr)) l e k ≠ .bad → (∀ p ∈ ps, p < 1024) ∧ Nat.beq ps.length (αL l).length = true ∧ ∃ e', Ee nt dr e' (bindP env ps (αL l)) ∧ bdK (ps.map (wrB nt dr)) l e k = k e'
  | [], [], e, env, k, he, _ => ⟨fun p hp => (by cases hp), rfl, e, he, rfl⟩
  | [], _ :: _, e, env, k, he, h => absurd rfl h
  | _ :: _, [], e, env, k, he, h => absurd rfl h
  | p :: ps, v :: l, e, env, k, he, h => by
    have h : (wrB nt dr p e v fun e => bdK (ps.map (wrB nt dr)) l e k) ≠ .bad := h
    show _ ∧ _ ∧ ∃ e', _ ∧ (wrB nt dr p e v fun e => bdK (ps.map (wrB nt dr)) l e k) = _
    unfold wrB at h ⊢
    cases hb : inE nt dr p with
    | false => rw [hb] at h; exact absurd rfl h
    | true =>
      rw [hb] at h
      have hp := inE_lt hb
      dsimp only [bsel] at h ⊢
      obtain ⟨e1, h3, h4⟩ := wr_ok (m := []) (v := v) (k := fun e => bdK (ps.map (wrB nt dr)) l e k) ⟨he, fun t u hu => by cases hu⟩ hp.2
      have h4' : (wrE p e v fun e => bdK (ps.map (fun t => bsel (inE nt dr t) (wrE t) wrX)) l e k) = bdK (ps.map (wrB nt dr)) l e1 k := h4
      rw [h4'] at h ⊢
      obtain ⟨h0, h1, e', h2, h5⟩ := bdK_ok ps l e1 _ k h3.e h
      refine ⟨fun q hq => ?_, ?_, e', h2, h5⟩
      · rcases List.mem_cons.1 hq with rfl | hq
        · exact hp.2
        · exact h0 q hq
      · show Nat.beq (ps.length + 1) ((αL l).length + 1) = true
        exact h1
theorem rnQ_ok {fuel nt : Nat} {dr : List Nat} {a b : ACode} (ha : KOk fuel nt dr a) (hb : KOk fuel nt dr b) {Φ : Phi} {Γ : Gam} (hΦ : PhiOk Φ Γ) (ps : List Nat) {m : M} {e : E} {env : T AV} (he : Em nt dr m e env) :
    HOk (rnQ (ps.map (wrB nt dr)) (thrK fuel nt dr a (filt ps m) cS) (thrK fuel nt dr b (filt (asg a) (filt ps m)) cS) Φ.bare e) (rnd (both std Γ.bare fuel a b) env ps) := fun l σ k h => by
  unfold rnQ at h ⊢
  obtain ⟨h0, h1, e1, h2, h3⟩ := bdK_ok ps l e env _ he.e h
  rw [h3] at h ⊢
  obtain ⟨N, mm⟩ := σ
  have h : thrK fuel nt dr a (filt ps m) cS Φ.bare N (thrK fuel nt dr b (filt (asg a) (filt ps m)) cS Φ.bare N (fun _ σ => k (.b true) σ) kX kXe) kX kXe e1 ⟨N, mm⟩ ≠ .bad := h
  show ∃ v σ', _ ∧ thrK fuel nt dr a (filt ps m) cS Φ.bare N (thrK fuel nt dr b (filt (asg a) (filt ps m)) cS Φ.bare N (fun _ σ => k (.b true) σ) kX kXe) kX kXe e1 ⟨N, mm⟩ = _
  have hm1 := he.filt (bindP_fr ps (αL l) env h0) h2
  obtain ⟨x, env1, e2, σ1, g1, g2, g3⟩ := ha _ _ _ _ hΦ.bare N _ _ _ e1 _ _ hm1 h
  cases x with
  | ret => rw [g3.2] at h; exact absurd rfl h
  | exit i => rw [g3.2] at h; exact absurd rfl h
  | normal =>
    obtain ⟨m', g4, g5⟩ := g3
    rw [g5] at h ⊢
    have h : thrK fuel nt dr b (filt (asg a) (filt ps m)) cS Φ.bare N (fun _ σ => k (.b true) σ) kX kXe e2 σ1 ≠ .bad := h
    show ∃ v σ', _ ∧ thrK fuel nt dr b (filt (asg a) (filt ps m)) cS Φ.bare N (fun _ σ => k (.b true) σ) kX kXe e2 σ1 = _
    obtain ⟨y, env2, e3, σ2, g6, _, g7⟩ := hb _ _ _ _ hΦ.bare N _ _ _ e2 σ1 env1 (hm1.filt g2 g4.e) h
    cases y with
    | ret => rw [g7.2] at h; exact absurd rfl h
    | exit i => rw [g7.2] at h; exact absurd rfl h
    | normal =>
      obtain ⟨m'', _, g8⟩ := g7
      rw [g8]
      refine ⟨.b true, σ2, ?_, rfl⟩
      unfold rnd
      rw [h1]
      dsimp only [cond_true]
      have e4 : both std Γ.bare fuel a b (bindP env ps (αL l)) (αH ⟨N, mm⟩) = .ok .normal env2 (αH σ2) := by
        unfold both
        rw [show (αH ⟨N, mm⟩).next = N from rfl, g1]
        exact g6
      rw [e4]; rfl
theorem thrK_ok {fuel nt : Nat} {dr : List Nat} : ∀ c : ACode, KOk fuel nt dr c := by
  intro c
  induction c with
  | skip => intro m rest Φ Γ hΦ N kn kr ke e σ env he _; exact ⟨.normal, env, e, σ, rfl, Fr.refl _ _, m, he, rfl⟩
  | ret => intro m rest Φ Γ hΦ N kn kr ke e σ env he _; exact ⟨.ret, env, e, σ, rfl, Fr.refl _ _, he.e, rfl⟩
  | exit i => intro m rest Φ Γ hΦ N kn kr ke e σ env he _; exact ⟨.exit i, env, e, σ, rfl, Fr.refl _ _, he.e, rfl⟩
  | bad => intro m rest Φ Γ hΦ N kn kr ke e σ env he h; exact absurd rfl h
  | mfor => intro m rest Φ Γ hΦ N kn kr ke e σ env he h; exact absurd rfl h
  | seq a b ia ib =>
    intro m rest Φ Γ hΦ N kn kr ke e σ env he h
    have h : thrK fuel nt dr a m (fun m => thrK fuel nt dr b m rest) Φ N kn kr ke e σ ≠ .bad := h
    show ∃ x env' e' σ', (run std Γ N fuel a env (αH σ)).next (run std Γ N fuel b) = _ ∧ Fr (asg a ++ asg b) env env' ∧ KEnd nt dr rest Φ N kn kr ke (thrK fuel nt dr a m (fun m => thrK fuel nt dr b m rest) Φ N kn kr ke e σ) e' env' σ' x
    obtain ⟨x, env1, e1, σ1, h1, h2, h3⟩ := ia m _ Φ Γ hΦ N kn kr ke e σ env he h
    rw [h1]
    cases x with
    | normal =>
      obtain ⟨m', g1, g2⟩ := h3
      rw [g2] at h ⊢
      obtain ⟨y, env2, e2, σ2, h4, h5, h6⟩ := ib m' rest Φ Γ hΦ N kn kr ke e1 σ1 env1 g1 h
      exact ⟨y, env2, e2, σ2, h4, h2.trans h5, h6⟩
    | ret => exact ⟨.ret, env1, e1, σ1, rfl, h2.left, h3⟩
    | exit i => exact ⟨.exit i, env1, e1, σ1, rfl, h2.left, h3⟩
  | cond c a b ia ib =>
    intro m rest Φ Γ hΦ N kn kr ke e σ env he h
    have h : cCond (rdM nt dr m c) (thrK fuel nt dr a m cS) (thrK fuel nt dr b m cS) Φ N (rest (filt (asg a ++ asg b) m) Φ N kn kr ke) kr ke e σ ≠ .bad := h
    show ∃ x env' e' σ', (match evS env c with | .bool t => bif t then run std Γ N fuel a env (αH σ) else run std Γ N fuel b env (αH σ) | _ => .bad) = _ ∧ Fr (asg a ++ asg b) env env' ∧ KEnd nt dr rest Φ N kn kr ke (cCond (rdM nt dr m c) (thrK fuel nt dr a m cS) (thrK fuel nt dr b m cS) Φ N (rest (filt (asg a ++ asg b) m) Φ N kn kr ke) kr ke e σ) e' env' σ' x
    unfold cCond at h ⊢
    obtain ⟨v, h1, h2⟩ := rdM_ok he c _ h
    rw [h2] at h ⊢
    rw [h1]
    obtain ⟨t, rfl, h3⟩ := kB_cases h
    rw [h3] at h ⊢
    have fin : ∀ (q : ACode), KOk fuel nt dr q → (∀ e1, Fr (asg q) env e1 → Fr (asg a ++ asg b) env e1) → thrK fuel nt dr q m cS Φ N (rest (filt (asg a ++ asg b) m) Φ N kn kr ke) kr ke e σ ≠ .bad →
        ∃ x env' e' σ', run std Γ N fuel q env (αH σ) = .ok x env' (αH σ') ∧ Fr (asg a ++ asg b) env env' ∧ KEnd nt dr rest Φ N kn kr ke (thrK fuel nt dr q m cS Φ N (rest (filt (asg a ++ asg b) m) Φ N kn kr ke) kr ke e σ) e' env' σ' x := fun q iq hf h => by
      obtain ⟨x, env1, e1, σ1, g1, g2, g3⟩ := iq m _ Φ Γ hΦ N _ kr ke e σ env he h
      refine ⟨x, env1, e1, σ1, g1, hf _ g2, ?_⟩
      cases x with
      | normal => obtain ⟨m', g4, g5⟩ := g3; exact ⟨_, he.filt (hf _ g2) g4.e, g5⟩
      | ret => exact g3
      | exit i => exact g3
    cases t with
    | true => exact fin a ia (fun _ h => h.left) h
    | false => exact fin b ib (fun _ h => h.right) h
  | block id c ic =>
    intro m rest Φ Γ hΦ N kn kr ke e σ env he h
    have h : thrK fuel nt dr c m cS Φ N (rest (filt (asg c) m) Φ N kn kr ke) kr (fun i e σ => Bool.rec (ke i e σ) (rest (filt (asg c) m) Φ N kn kr ke e σ) (Nat.beq i id)) e σ ≠ .bad := h
    show ∃ x env' e' σ', (run std Γ N fuel c env (αH σ)).block id = _ ∧ Fr (asg c) env env' ∧ KEnd nt dr rest Φ N kn kr ke (thrK fuel nt dr c m cS Φ N (rest (filt (asg c) m) Φ N kn kr ke) kr (fun i e σ => Bool.rec (ke i e σ) (rest (filt (asg c) m) Φ N kn kr ke e σ) (Nat.beq i id)) e σ) e' env' σ' x
    obtain ⟨x, env1, e1, σ1, h1, h2, h3⟩ := ic m _ Φ Γ hΦ N _ kr _ e σ env he h
    rw [h1]
    cases x with
    | normal => obtain ⟨m', g4, g5⟩ := h3; exact ⟨.normal, env1, e1, σ1, rfl, h2, _, he.filt h2 g4.e, g5⟩
    | ret => exact ⟨.ret, env1, e1, σ1, rfl, h2, h3⟩
    | exit i =>
      obtain ⟨g4, g5⟩ := h3
      rw [g5]
      show ∃ x env' e' σ', (bif Nat.beq i id then RR.ok .normal env1 (αH σ1) else .ok (.exit i) env1 (αH σ1)) = _ ∧ _ ∧ KEnd nt dr rest Φ N kn kr ke (Bool.rec (ke i e1 σ1) (rest (filt (asg c) m) Φ N kn kr ke e1 σ1) (Nat.beq i id) : FR) e' env' σ' x
      cases hb : Nat.beq i id with
      | true => exact ⟨.normal, env1, e1, σ1, rfl, h2, _, he.filt h2 g4, rfl⟩
      | false => exact ⟨.exit i, env1, e1, σ1, rfl, h2, g4, rfl⟩
  | loop c ic =>
    intro m rest Φ Γ hΦ N kn kr ke e σ env he h
    have key : ∀ (n : Nat) (e1 : E) (σ : FH) (env1 : T AV), Fr (asg c) env env1 → Ee nt dr e1 env1 → (Nat.rec (motive := fun _ => K2) (fun _ _ => .bad) (fun _ ih e σ => FH.rec (motive := fun _ => FR) (fun n mm => gT (Nat.ble N n) (thrK fuel nt dr c (filt (asg c) m) cS Φ N ih kr ke e ⟨n, mm⟩)) σ) n e1 σ : FR) ≠ .bad →
        ∃ x env' e' σ', runLoop N (run std Γ N fuel c) n env1 (αH σ) = .ok x env' (αH σ') ∧ Fr (asg c) env env' ∧ KEnd nt dr rest Φ N kn kr ke (Nat.rec (motive := fun _ => K2) (fun _ _ => .bad) (fun _ ih e σ => FH.rec (motive := fun _ => FR) (fun n mm => gT (Nat.ble N n) (thrK fuel nt dr c (filt (asg c) m) cS Φ N ih kr ke e ⟨n, mm⟩)) σ) n e1 σ : FR) e' env' σ' x := by
      intro n
      induction n with
      | zero => intro e1 σ env1 _ _ h; exact absurd rfl h
      | succ n ih =>
        intro e1 σ env1 hf he1 h
        obtain ⟨q, mm⟩ := σ
        have h : gT (Nat.ble N q) (thrK fuel nt dr c (filt (asg c) m) cS Φ N (Nat.rec (motive := fun _ => K2) (fun _ _ => .bad) (fun _ ih e σ => FH.rec (motive := fun _ => FR) (fun n mm => gT (Nat.ble N n) (thrK fuel nt dr c (filt (asg c) m) cS Φ N ih kr ke e ⟨n, mm⟩)) σ) n) kr ke e1 ⟨q, mm⟩) ≠ .bad := h
        show ∃ x env' e' σ', (bif Nat.ble N q then (run std Γ N fuel c env1 (αH ⟨q, mm⟩)).next (runLoop N (run std Γ N fuel c) n) else .bad) = _ ∧ _ ∧ KEnd nt dr rest Φ N kn kr ke (gT (Nat.ble N q) (thrK fuel nt dr c (filt (asg c) m) cS Φ N (Nat.rec (motive := fun _ => K2) (fun _ _ => .bad) (fun _ ih e σ => FH.rec (motive := fun _ => FR) (fun n mm => gT (Nat.ble N n) (thrK fuel nt dr c (filt (asg c) m) cS Φ N ih kr ke e ⟨n, mm⟩)) σ) n) kr ke e1 ⟨q, mm⟩)) e' env' σ' x
        obtain ⟨g1, g2⟩ := gT_cases h
        rw [g2] at h ⊢
        rw [g1]
        dsimp only [cond_true]
        obtain ⟨x, env2, e2, σ2, h1, h2, h3⟩ := ic _ _ Φ Γ hΦ N _ kr ke e1 ⟨q, mm⟩ env1 (he.filt hf he1) h
        have h2' : Fr (asg c) env env2 := fun t ht => (h2 t ht).trans (hf t ht)
        rw [h1]
        cases x with
        | normal =>
          obtain ⟨m', g4, g5⟩ := h3
          rw [g5] at h ⊢
          exact ih e2 σ2 env2 h2' g4.e h
        | ret => exact ⟨.ret, env2, e2, σ2, rfl, h2', h3⟩
        | exit i => exact ⟨.exit i, env2, e2, σ2, rfl, h2', h3⟩
    exact key fuel e σ env (Fr.refl _ _) he.e h
  | reg rows =>
    intro m rest Φ Γ hΦ N kn kr ke e σ env he h
    obtain ⟨m', e', env', σ', h1, h2, h3, h4⟩ := rowsK_ok hΦ rows m e env σ he h
    refine ⟨.normal, env', e', σ', ?_, h2, m', h3, h4⟩
    show (match evP std Γ rows env (αH σ) with | (ok, env', σ') => bif ok then RR.ok .normal env' σ' else .bad) = _
    rw [h1]; rfl
  | regd st rcs ds =>
    intro m rest Φ Γ hΦ N kn kr ke e σ env he h
    have h : rowsD nt dr m st (rcGet rcs) (fun vo => movD nt dr vo rest ds 0 m) st [] Φ N kn kr ke e σ ≠ .bad := h
    show ∃ x env' e' σ', (match evDr std Γ st rcs ds env (αH σ) with | (ok, env', σ') => bif ok then RR.ok .normal env' σ' else .bad) = _ ∧ Fr (asgD ds) env env' ∧ KEnd nt dr rest Φ N kn kr ke (rowsD nt dr m st (rcGet rcs) (fun vo => movD nt dr vo rest ds 0 m) st [] Φ N kn kr ke e σ) e' env' σ' x
    obtain ⟨vo, vals, σ1, h1, h2, h3⟩ := rowsD_ok hΦ he st [] .leaf σ (fun k v hk => by cases hk) h
    rw [h3] at h ⊢
    obtain ⟨m', e2, h4, h5, h6⟩ := movD_ok h2 ds 0 m e env he h
    refine ⟨.normal, _, e2, σ1, ?_, h4, m', h5, h6⟩
    unfold evDr
    rw [h1]; rfl
  | rfun f ps a b ia ib =>
    intro m rest Φ Γ hΦ N kn kr ke e σ env he h
    have h : cRf (rdM nt dr m f) (ps.map (wrB nt dr)) (thrK fuel nt dr a (filt ps m) cS) (thrK fuel nt dr b (filt (asg a) (filt ps m)) cS) Φ N (rest m Φ N kn kr ke) kr ke e σ ≠ .bad := h
    show ∃ x env' e' σ', (match evS env f with
      | .fn g first cap => (match g with
        | .func n => (match (Γ.up (αH σ).next (rnd (both std Γ.bare fuel a b) env ps)).fn n (first ++ (AV.yld (αH σ).next :: cap)) ((αH σ).new AObj.shut) with
          | (ok, _, σ') => bif Nat.blt (αH σ).next 1000000 && ok then RR.ok .normal env σ' else .bad)
        | _ => .bad)
      | _ => .bad) = _ ∧ Fr [] env env' ∧ KEnd nt dr rest Φ N kn kr ke (cRf (rdM nt dr m f) (ps.map (wrB nt dr)) (thrK fuel nt dr a (filt ps m) cS) (thrK fuel nt dr b (filt (asg a) (filt ps m)) cS) Φ N (rest m Φ N kn kr ke) kr ke e σ) e' env' σ' x
    unfold cRf at h ⊢
    obtain ⟨v, h1, h2⟩ := rdM_ok he f _ h
    rw [h2] at h ⊢
    rw [h1]
    cases v with
    | fn g x y =>
      cases g with
      | func n =>
        have h : (nM σ shO fun bl σ => appK x (FV.y bl :: y) fun l => (Φ.up bl (rnQ (ps.map (wrB nt dr)) (thrK fuel nt dr a (filt ps m) cS) (thrK fuel nt dr b (filt (asg a) (filt ps m)) cS) Φ.bare e)).fn n l σ fun _ σ => rest m Φ N kn kr ke e σ) ≠ .bad := h
        show ∃ x' env' e' σ', _ ∧ _ ∧ KEnd nt dr rest Φ N kn kr ke (nM σ shO fun bl σ => appK x (FV.y bl :: y) fun l => (Φ.up bl (rnQ (ps.map (wrB nt dr)) (thrK fuel nt dr a (filt ps m) cS) (thrK fuel nt dr b (filt (asg a) (filt ps m)) cS) Φ.bare e)).fn n l σ fun _ σ => rest m Φ N kn kr ke e σ) e' env' σ' x'
        obtain ⟨h3, σ1, h4, h5⟩ := nM_cases h
        rw [h5, appK_eq] at h ⊢
        obtain ⟨w, σ2, h6, h7⟩ := (hΦ.up (l := σ.next) (rnQ_ok ia ib hΦ ps he)).fn n _ σ1 _ h
        rw [h7]
        refine ⟨.normal, env, e, σ2, ?_, Fr.refl _ _, m, he, rfl⟩
        rw [αL_append, h4] at h6
        simp only [αV]
        have h6 : (Γ.up (αH σ).next (rnd (both std Γ.bare fuel a b) env ps)).fn n (αL x ++ (AV.yld (αH σ).next :: αL y)) ((αH σ).new AObj.shut) = (true, αV w, αH σ2) := h6
        rw [h6]
        dsimp only
        rw [h3]; rfl
      | _ => exact absurd rfl h
    | _ => exact absurd rfl h
end
end Go.Proofs.YtjgmpdklfcmelaaGreatDoor.V2
