/- Part 7 of the proof: texts of the proof. -/
import Derived.Test.YtjoakhpdajlhiaaGreatDoorQY6
namespace Go.Proofs.YtjoakhpdajlhiaaGreatDoor.V2
open Go
noncomputable section
inductive RowF where
  | bs (c : Nat)
  | cells (l : List FV)
  | ints (k : IntKind) (l : List Int)
def αR : RowF → Row
  | .bs c => .ints .u8 (B4 c)
  | .cells l => .cells (αL l)
  | .ints k l => .ints k l
def J0 (size : Nat) (σ : FH) (b o n z : Nat) (c : Nat → RowF → FR) : FR := gM σ b fun ob => FObj.rec (motive := fun _ => FR) (gT (Nat.beq n 0) (c 0 (.cells []))) (fun l _ _ => gT (Nat.beq z size) (Ep l (Bj l 0 fun q => gT (Nat.ble (Nat.add o (Nat.mul n size)) q) (Ce o l fun l => Bw (Nat.mul n size) l fun l => c n (.cells l))))) (fun s _ _ => gT (Nat.beq z size) (gT (Nat.ble (Nat.add o (Nat.mul n size)) (bl s)) (fN (Au s o (Nat.mul n size)) fun q => c n (.bs q)))) (fun k l _ _ => gT (Nat.beq z size) (Bj l 0 fun q => gT (Nat.ble (Nat.add o (Nat.mul n size)) q) (Ce o l fun l => Bw (Nat.mul n size) l fun l => c n (.ints k l)))) (fun _ => .bad) .bad ob
def rowQ (str : Bool) (size : Nat) (σ : FH) (v : FV) (c : Nat → RowF → FR) : FR := FV.rec (motive_1 := fun _ => FR) (motive_2 := fun _ => FR) (fun _ _ => .bad) (fun _ _ => .bad) (fun _ => .bad) (fun q => Bool.rec .bad (gT (Nat.beq size 1) (fN (bl q) fun n => c n (.bs q))) str) (fun _ _ => .bad) (fun b o n _ _ z => Bool.rec (J0 size σ b o n z c) .bad str) (fun _ => .bad) (fun _ => .bad) (fun _ _ _ _ _ => .bad) (fun _ _ _ => .bad) (fun _ _ => .bad) (fun _ => .bad) (fun _ _ => .bad) (fun _ _ => .bad) (fun j => Nl.rec (motive := fun _ => FR) .bad .bad (Bool.rec (c 0 (.cells [])) .bad str) .bad .bad .bad j) .bad (fun _ _ _ _ => .bad) v
theorem rowS_cases {size : Nat} {σ : FH} {b o n k : Nat} {e : Bool} {z : Nat} {c : Nat → RowF → FR} (h : J0 size σ b o n z c ≠ .bad) : ∃ m R, C8 std false size (αH σ) (.sl b o n k e z) = (true, m, αR R) ∧ J0 size σ b o n z c = c m R := by
  unfold J0 at h ⊢
  obtain ⟨ob, _, h3, h4⟩ := Bz h
  rw [h4] at h ⊢
  unfold C8
  dsimp only
  rw [h3]
  cases ob with
  | dead =>
    obtain ⟨h5, h6⟩ := Ah (show gT (Nat.beq n 0) (c 0 (.cells [])) ≠ .bad from h)
    exact ⟨0, .cells [], by simp only [αO, h5]; rfl, h6⟩
  | cells l e' t =>
    obtain ⟨h5, h6⟩ := Ah (show gT (Nat.beq z size) (Ep l (Bj l 0 fun q => gT (Nat.ble (Nat.add o (Nat.mul n size)) q) (Ce o l fun l => Bw (Nat.mul n size) l fun l => c n (.cells l)))) ≠ .bad from h)
    have h : gT (Nat.beq z size) (Ep l (Bj l 0 fun q => gT (Nat.ble (Nat.add o (Nat.mul n size)) q) (Ce o l fun l => Bw (Nat.mul n size) l fun l => c n (.cells l)))) ≠ .bad := h
    show ∃ m R, _ ∧ gT (Nat.beq z size) (Ep l (Bj l 0 fun q => gT (Nat.ble (Nat.add o (Nat.mul n size)) q) (Ce o l fun l => Bw (Nat.mul n size) l fun l => c n (.cells l)))) = _
    rw [h6] at h ⊢
    obtain ⟨h7, h8⟩ := Jg h
    rw [h8] at h ⊢
    rw [Bv, Nat.zero_add] at h ⊢
    obtain ⟨g1, g2⟩ := Ah h
    rw [g2, Cr, Ca]
    refine ⟨n, .cells ((l.drop o).take (Nat.mul n size)), ?_, rfl⟩
    have g1 : Nat.ble (o + n * size) l.length = true := g1
    simp only [αO, h5, h7, αL_length, g1, αR, αL_take, αL_drop]
    rfl
  | bs s e' t =>
    have h : gT (Nat.beq z size) (gT (Nat.ble (Nat.add o (Nat.mul n size)) (bl s)) (fN (Au s o (Nat.mul n size)) fun q => c n (.bs q))) ≠ .bad := h
    show ∃ m R, _ ∧ gT (Nat.beq z size) (gT (Nat.ble (Nat.add o (Nat.mul n size)) (bl s)) (fN (Au s o (Nat.mul n size)) fun q => c n (.bs q))) = _
    obtain ⟨h5, h6⟩ := Ah h
    rw [h6] at h ⊢
    obtain ⟨g1, g2⟩ := Ah h
    rw [g2, Aj]
    refine ⟨n, .bs (Au s o (Nat.mul n size)), ?_, rfl⟩
    have g1 : Nat.ble (o + n * size) (bl s) = true := g1
    have e1 : B4 (Au s o (Nat.mul n size)) = ((B4 s).drop o).take (n * size) := E0 (Ds g1)
    simp only [αO, αR, h5, std, Ba, g1]
    rw [e1]
    rfl
  | ints k' l e' t =>
    have h : gT (Nat.beq z size) (Bj l 0 fun q => gT (Nat.ble (Nat.add o (Nat.mul n size)) q) (Ce o l fun l => Bw (Nat.mul n size) l fun l => c n (.ints k' l))) ≠ .bad := h
    show ∃ m R, _ ∧ gT (Nat.beq z size) (Bj l 0 fun q => gT (Nat.ble (Nat.add o (Nat.mul n size)) q) (Ce o l fun l => Bw (Nat.mul n size) l fun l => c n (.ints k' l))) = _
    obtain ⟨h5, h6⟩ := Ah h
    rw [h6] at h ⊢
    rw [Bv, Nat.zero_add] at h ⊢
    obtain ⟨g1, g2⟩ := Ah h
    rw [g2, Cr, Ca]
    refine ⟨n, .ints k' ((l.drop o).take (Nat.mul n size)), ?_, rfl⟩
    have g1 : Nat.ble (o + n * size) l.length = true := g1
    simp only [αO, αR, h5, std, g1]
    rfl
  | _ => exact absurd rfl h
theorem Gp {str : Bool} {size : Nat} {σ : FH} {v : FV} {c : Nat → RowF → FR} (h : rowQ str size σ v c ≠ .bad) : ∃ m R, C8 std str size (αH σ) (αV v) = (true, m, αR R) ∧ rowQ str size σ v c = c m R := by
  cases v with
  | s q =>
    cases str with
    | false => exact absurd rfl h
    | true =>
      have h : gT (Nat.beq size 1) (fN (bl q) fun n => c n (.bs q)) ≠ .bad := h
      show ∃ m R, _ ∧ gT (Nat.beq size 1) (fN (bl q) fun n => c n (.bs q)) = _
      obtain ⟨h1, h2⟩ := Ah h
      rw [h2, Aj]
      refine ⟨bl q, .bs q, ?_, rfl⟩
      unfold C8
      simp only [αV, h1, std, B8]
      rfl
  | sl b o n k e z =>
    cases str with
    | true => exact absurd rfl h
    | false => exact rowS_cases (k := k) (e := e) h
  | o j =>
    cases j with
    | sl =>
      cases str with
      | true => exact absurd rfl h
      | false => exact ⟨0, .cells [], rfl, rfl⟩
    | _ => exact absurd rfl h
  | _ => exact absurd rfl h
def ofQ (l : List FV) (e : TypeId) (t : Tl) (c : FObj → FR) : FR := List.rec (motive := fun _ => FR) (c (.cells [] e t)) (fun v q _ => FV.rec (motive_1 := fun _ => FR) (motive_2 := fun _ => FR) (fun _ _ => Bool.rec (c (.cells l e t)) (fO (βO (AObj.of (αL l) e t)) c) (Hd q)) (fun _ _ => Bool.rec (c (.cells l e t)) (fO (βO (AObj.of (αL l) e t)) c) (Hd q)) (fun _ => c (.cells l e t)) (fun _ => c (.cells l e t)) (fun _ _ => c (.cells l e t)) (fun _ _ _ _ _ _ => c (.cells l e t)) (fun _ => c (.cells l e t)) (fun _ => c (.cells l e t)) (fun _ _ _ _ _ => c (.cells l e t)) (fun _ _ _ => c (.cells l e t)) (fun _ _ => c (.cells l e t)) (fun _ => c (.cells l e t)) (fun _ _ => c (.cells l e t)) (fun _ _ => c (.cells l e t)) (fun _ => c (.cells l e t)) .bad (fun _ _ _ _ => .bad) v) l
theorem ofQ_of (l : List FV) (e : TypeId) (t : Tl) (c : FObj → FR) : ∃ o, αO o = AObj.of (αL l) e t ∧ ofQ l e t c = c o := by
  cases l with
  | nil => exact ⟨.cells [] e t, rfl, rfl⟩
  | cons v l =>
    have slow : ∃ o, αO o = AObj.of (αL (v :: l)) e t ∧ fO (βO (AObj.of (αL (v :: l)) e t)) c = c o := ⟨βO (AObj.of (αL (v :: l)) e t), αβO _, Gf _ _⟩
    cases v
    case n k m =>
      show ∃ o, _ ∧ (Bool.rec (c (.cells (.n k m :: l) e t)) (fO (βO (AObj.of (αL (.n k m :: l)) e t)) c) (Hd l) : FR) = c o
      cases hb : Hd l with
      | true => exact slow
      | false =>
        refine ⟨.cells (.n k m :: l) e t, ?_, rfl⟩
        simp only [αO, αL, αV, AObj.of, Ey k l hb]
    case z k m =>
      show ∃ o, _ ∧ (Bool.rec (c (.cells (.z k m :: l) e t)) (fO (βO (AObj.of (αL (.z k m :: l)) e t)) c) (Hd l) : FR) = c o
      cases hb : Hd l with
      | true => exact slow
      | false =>
        refine ⟨.cells (.z k m :: l) e t, ?_, rfl⟩
        simp only [αO, αL, αV, AObj.of, Ey k l hb]
    case o j => cases j <;> exact ⟨.cells _ e t, rfl, rfl⟩
    all_goals exact ⟨.cells _ e t, rfl, rfl⟩
def kR (fb : Nat → FR) (fc : List FV → FR) (fi : IntKind → List Int → FR) (R : RowF) : FR := RowF.rec (motive := fun _ => FR) fb fc fi R
def slC (e : TypeId) (R1 R2 : RowF) (c : FObj → FR) : FR := Prod.rec (fun ok o => gT ok (fO (βO o) c)) (Gx std e (αR R1) (αR R2))
theorem F7 {e : TypeId} {R1 R2 : RowF} {c : FObj → FR} (h : slC e R1 R2 c ≠ .bad) : ∃ o, Gx std e (αR R1) (αR R2) = (true, αO o) ∧ slC e R1 R2 c = c o := by
  unfold slC at h ⊢
  generalize Gx std e (αR R1) (αR R2) = r at h
  obtain ⟨ok, o⟩ := r
  obtain ⟨h1, h2⟩ := Ah (show gT ok (fO (βO o) c) ≠ .bad from h)
  exact ⟨βO o, by rw [h1, αβO], h2.trans (Gf _ _)⟩
def catQ (e : TypeId) (R1 R2 : RowF) (c : FObj → FR) : FR := kR
  (fun a => kR (fun b => fN (Be a b) fun s => c (.bs s e .more)) (fun m => List.rec (motive := fun _ => FR) (c (.bs a e .more)) (fun _ _ _ => slC e R1 R2 c) m) (fun _ _ => slC e R1 R2 c) R2)
  (fun l => kR (fun b => List.rec (motive := fun _ => FR) (c (.bs b e .more)) (fun _ _ _ => slC e R1 R2 c) l) (fun m => Dn l m fun l => ofQ l e .more c) (fun _ _ => slC e R1 R2 c) R2)
  (fun _ _ => slC e R1 R2 c) R1
theorem catQ_cases {e : TypeId} {R1 R2 : RowF} {c : FObj → FR} (h : catQ e R1 R2 c ≠ .bad) : ∃ o, Gx std e (αR R1) (αR R2) = (true, αO o) ∧ catQ e R1 R2 c = c o := by
  cases R1 with
  | bs a =>
    cases R2 with
    | bs b =>
      refine ⟨.bs (Be a b) e .more, ?_, Aj (Be a b) fun s => c (.bs s e .more)⟩
      simp only [αR, Gx, αO, Ky]
      rfl
    | cells m =>
      cases m with
      | nil => exact ⟨.bs a e .more, rfl, rfl⟩
      | cons v m => exact F7 h
    | ints k l => exact F7 h
  | cells l =>
    cases R2 with
    | bs b =>
      cases l with
      | nil => exact ⟨.bs b e .more, rfl, rfl⟩
      | cons v m => exact F7 h
    | cells m =>
      show ∃ o, _ ∧ (Dn l m fun l => ofQ l e .more c) = c o
      rw [Dk]
      obtain ⟨o, h1, h2⟩ := ofQ_of (l ++ m) e .more c
      refine ⟨o, ?_, h2⟩
      simp only [αR, Gx]
      rw [h1, αL_append]
    | ints k m => exact F7 h
  | ints k l => exact F7 h
def baQ (e : TypeId) (N : Nat) (s : FV) (σ : FH) (f : FH → FR) : FR := kSN (fun b _ _ k ex _ => gM σ b fun ob => FObj.rec (motive := fun _ => FR) .bad (fun _ el t => Bool.rec (gT (Nat.beq el e) (gW t (pM σ b .dead f))) (Bool.rec (gT (Nat.beq el e) (gW t (pM σ b .dead f))) (f σ) (Nat.ble (Nat.succ k) N)) ex) (fun _ el t => Bool.rec (gT (Nat.beq el e) (gW t (pM σ b .dead f))) (Bool.rec (gT (Nat.beq el e) (gW t (pM σ b .dead f))) (f σ) (Nat.ble (Nat.succ k) N)) ex) (fun _ _ el t => Bool.rec (gT (Nat.beq el e) (gW t (pM σ b .dead f))) (Bool.rec (gT (Nat.beq el e) (gW t (pM σ b .dead f))) (f σ) (Nat.ble (Nat.succ k) N)) ex) (fun _ => .bad) .bad ob) (f σ) s
theorem baQ_cases {e : TypeId} {N : Nat} {s : FV} {σ : FH} {f : FH → FR} (h : baQ e N s σ f ≠ .bad) : ∃ σ', Gz std (αH σ) e N (αV s) = true ∧ αH σ' = G5 std (αH σ) N (αV s) ∧ baQ e N s σ f = f σ' := by
  unfold baQ at h ⊢
  rcases kSN_cases h with ⟨b, o, n, k, ex, z, rfl, h1⟩ | ⟨rfl, h1⟩
  · rw [h1] at h ⊢
    obtain ⟨ob, _, h3, h4⟩ := Bz h
    rw [h4] at h ⊢
    have key : ∀ (el : TypeId) (t : Tl), (αO ob).cellsy = true → (αO ob).elem = el → (αO ob).isRo = t.isRo → (Bool.rec (gT (Nat.beq el e) (gW t (pM σ b .dead f))) (Bool.rec (gT (Nat.beq el e) (gW t (pM σ b .dead f))) (f σ) (Nat.ble (Nat.succ k) N)) ex : FR) ≠ .bad →
        ∃ σ', Gz std (αH σ) e N (.sl b o n k ex z) = true ∧ αH σ' = G5 std (αH σ) N (.sl b o n k ex z) ∧ (Bool.rec (gT (Nat.beq el e) (gW t (pM σ b .dead f))) (Bool.rec (gT (Nat.beq el e) (gW t (pM σ b .dead f))) (f σ) (Nat.ble (Nat.succ k) N)) ex : FR) = f σ' := by
      intro el t c1 c2 c3 h
      have dead : gT (Nat.beq el e) (gW t (pM σ b .dead f)) ≠ .bad → (Nat.beq el e && !(αO ob).isRo) = true ∧ ∃ σ', αH σ' = (αH σ).put b .dead ∧ gT (Nat.beq el e) (gW t (pM σ b .dead f)) = f σ' := fun h => by
        obtain ⟨g1, g2⟩ := Ah h
        rw [g2] at h ⊢
        obtain ⟨g3, g4⟩ := Gb h
        rw [g4, pM_eq]
        exact ⟨by rw [g1, c3, g3]; rfl, _, pM_α σ b .dead, rfl⟩
      cases ex with
      | false =>
        obtain ⟨g1, σ', g2, g3⟩ := dead h
        refine ⟨σ', ?_, g2, g3⟩
        simp only [Gz, h3]
        rw [c1, c2, g1]; rfl
      | true =>
        have h : (Bool.rec (gT (Nat.beq el e) (gW t (pM σ b .dead f))) (f σ) (Nat.ble (Nat.succ k) N) : FR) ≠ .bad := h
        show ∃ σ', _ ∧ _ ∧ (Bool.rec (gT (Nat.beq el e) (gW t (pM σ b .dead f))) (f σ) (Nat.ble (Nat.succ k) N) : FR) = _
        cases hb : Nat.ble (Nat.succ k) N with
        | false =>
          rw [hb] at h
          obtain ⟨g1, σ', g2, g3⟩ := dead h
          refine ⟨σ', ?_, ?_, g3⟩
          · simp only [Gz, h3]
            rw [c1, c2, g1]; rfl
          · rw [g2]
            show _ = bif Nat.ble (Nat.succ k) N then αH σ else (αH σ).put b .dead
            rw [hb]; rfl
        | true =>
          refine ⟨σ, ?_, ?_, rfl⟩
          · simp only [Gz, h3]
            have hb : std.ltN k N = true := hb
            rw [c1, hb, Bool.true_and, Bool.and_self, Bool.or_true]
          · show _ = bif Nat.ble (Nat.succ k) N then αH σ else (αH σ).put b .dead
            rw [hb]; rfl
    cases ob with
    | cells l el t => exact key el t rfl rfl rfl h
    | bs s el t => exact key el t rfl rfl rfl h
    | ints k' l el t => exact key el t rfl rfl rfl h
    | _ => exact absurd rfl h
  · exact ⟨σ, rfl, rfl, h1⟩
theorem unpI_zero (n : Nat) : B4 (Bh n) = List.replicate n 0 ∧ bl (Bh n) = n := by
  have hb : bl (Bh n) = n := by rw [Ie]; exact (by simpa using bl_of (n := n) (v := 0) (Nat.pow_pos (by omega)))
  refine ⟨?_, hb⟩
  unfold B4 unp
  rw [hb, Ie]
  apply List.ext_getElem?
  intro i
  rw [List.getElem?_map, List.getElem?_replicate]
  by_cases hi : i < n
  · rw [Gi _ _ _ hi, if_pos hi, Option.map_some]
    obtain ⟨q, rfl⟩ := Nat.exists_eq_add_of_lt hi
    have : 256 ^ (i + q + 1) / 256 ^ i % 256 = 0 := by
      rw [show i + q + 1 = i + (q + 1) by omega, Nat.pow_add, Nat.mul_div_cancel_left _ (Nat.pow_pos (by omega)), Nat.pow_succ, Nat.mul_mod_left]
    rw [this]; rfl
  · rw [List.getElem?_eq_none (by rw [Cg]; omega), if_neg hi]; rfl
theorem unpI_zero' (n : Nat) : B4 (Bh n) = List.replicate n 0 := (unpI_zero n).1
def apR (e : TypeId) (size : Nat) (s : FV) (m : Nat) (R2 : RowF) (σ : FH) (k : KV) : FR := Nat.rec (kSN (fun _ _ _ _ _ z => gT (Nat.beq z size) (k s σ)) (k s σ) s) (fun p _ => rowQ false size σ s fun n R1 => fN (Nat.add n (Nat.succ p)) fun N => gT (Nat.ble N 1000000000000) (baQ e N s σ fun σ => catQ e R1 R2 fun o => nM σ o fun b σ => k (.sl b 0 N N false size) σ)) m
theorem apR_sm (e : TypeId) (size : Nat) (s : FV) (m : Nat) (R2 : RowF) (σ : FH) (k : KV) : Sm (apR e size s m R2 σ k) k (bif std.eqN m 0 && isSl size (αV s) then (true, αV s, αH σ) else appR std (αH σ) e size (αV s) (true, m, αR R2)) := by
  intro h
  unfold apR at h ⊢
  cases m with
  | zero =>
    have h : kSN (fun _ _ _ _ _ z => gT (Nat.beq z size) (k s σ)) (k s σ) s ≠ .bad := h
    show ∃ v σ', _ ∧ kSN (fun _ _ _ _ _ z => gT (Nat.beq z size) (k s σ)) (k s σ) s = _
    rcases kSN_cases h with ⟨b, o, n, kk, ex, z, rfl, g1⟩ | ⟨rfl, g1⟩
    · rw [g1] at h ⊢
      obtain ⟨g2, g3⟩ := Ah h
      refine ⟨.sl b o n kk ex z, σ, ?_, g3⟩
      simp only [αV, isSl, g2, std]; rfl
    · exact ⟨.o .sl, σ, rfl, g1⟩
  | succ p =>
    have h : (rowQ false size σ s fun n R1 => fN (Nat.add n (Nat.succ p)) fun N => gT (Nat.ble N 1000000000000) (baQ e N s σ fun σ => catQ e R1 R2 fun o => nM σ o fun b σ => k (.sl b 0 N N false size) σ)) ≠ .bad := h
    show ∃ v σ', _ ∧ (rowQ false size σ s fun n R1 => fN (Nat.add n (Nat.succ p)) fun N => gT (Nat.ble N 1000000000000) (baQ e N s σ fun σ => catQ e R1 R2 fun o => nM σ o fun b σ => k (.sl b 0 N N false size) σ)) = _
    obtain ⟨n, R1, h3, h4⟩ := Gp h
    rw [h4] at h ⊢
    try dsimp only at h ⊢
    rw [Aj] at h ⊢
    obtain ⟨g1, g2⟩ := Ah h
    rw [g2] at h ⊢
    obtain ⟨σ1, g3, g4, g5⟩ := baQ_cases h
    rw [g5] at h ⊢
    try dsimp only at h ⊢
    obtain ⟨o, g6, g7⟩ := catQ_cases h
    rw [g7] at h ⊢
    try dsimp only at h ⊢
    obtain ⟨g8, σ2, g9, g10⟩ := Dp h
    rw [g10]
    refine ⟨.sl σ1.next 0 (n + (p + 1)) (n + (p + 1)) false size, σ2, ?_, rfl⟩
    show appR std (αH σ) e size (αV s) (true, p + 1, αR R2) = _
    unfold appR
    rw [h3]
    dsimp only
    rw [g6]
    dsimp only
    have k1 : Gz std (αH σ) e (std.addN n (p + 1)) (αV s) = true := g3
    have k2 : std.leN (std.addN n (p + 1)) 1000000000000 = true := g1
    have k3 : αH σ1 = G5 std (αH σ) (std.addN n (p + 1)) (αV s) := g4
    have k4 : (αH σ1).next = (αH σ).next := by
      rw [k3]
      cases αV s <;> try rfl
      rename_i b0 o0 n0 k0 ex0 z0
      cases ex0
      · rfl
      · show (bif std.ltN k0 (std.addN n (p + 1)) then αH σ else (αH σ).put b0 .dead).next = _
        cases std.ltN k0 (std.addN n (p + 1)) <;> rfl
    rw [k1, k2, ← k3, g9]
    have k5 : Nat.blt (αH σ).next 1000000 = true := by rw [← k4]; exact g8
    rw [k5]
    have k6 : std.eqN (p + 1) 0 = false := rfl
    rw [k6, ← k4]; rfl
def apQ (e : TypeId) (str : Bool) (size : Nat) (s x : FV) (σ : FH) (k : KV) : FR := rowQ str size σ x fun m R2 => apR e size s m R2 σ k
theorem apQ_sm (e : TypeId) (str : Bool) (size : Nat) (s x : FV) (σ : FH) (k : KV) : Sm (apQ e str size s x σ k) k (Bf std (αH σ) (.append e str size) [αV s, αV x]) := by
  intro h
  unfold apQ at h ⊢
  obtain ⟨m, R2, h1, h2⟩ := Gp h
  rw [h2] at h ⊢
  try dsimp only at h ⊢
  simp only [Bf, appN]
  rw [h1]
  exact apR_sm e size s m R2 σ k h
def azQ (e : TypeId) (kd : IntKind) (s x : FV) (σ : FH) (k : KV) : FR := kNn (fun _ n => gT (Nat.ble n 1000000) (gK .u8 kd (fN (Bh n) fun z => apR e 1 s n (.bs z) σ k))) x
theorem azQ_sm (hz : ∀ n, B4 (Bh n) = List.replicate n 0) (e : TypeId) (kd : IntKind) (s x : FV) (σ : FH) (k : KV) : Sm (azQ e kd s x σ k) k (Bf std (αH σ) (.appz e kd) [αV s, αV x]) := by
  intro h
  unfold azQ at h ⊢
  obtain ⟨kk, n, rfl, h1⟩ := Dv h
  rw [h1] at h ⊢
  obtain ⟨h2, h3⟩ := Ah h
  rw [h3] at h ⊢
  obtain ⟨rfl, h4⟩ := Gc h
  rw [h4, Aj] at h ⊢
  have := apR_sm e 1 s n (.bs (Bh n)) σ k h
  simp only [αV, Bf, appX]
  have hr : zrow std .u8 (Int.ofNat n) = (true, n, αR (.bs (Bh n))) := by
    unfold zrow
    show (decide ((0 : Int) ≤ Int.ofNat n) && Nat.ble n 1000000, n, Row.ints .u8 (List.replicate n 0)) = _
    rw [dec0, h2]
    show _ = (true, n, Row.ints .u8 (B4 (Bh n)))
    rw [hz]; rfl
  rw [hr]
  exact this
def pcQ (R : RowF) (q : Nat) (c : FV → FR) : FR := kR (fun s => gT (Nat.ble q (bl s)) (fN (Au s 0 q) fun m => c (.bs m))) (fun l => Bw q l fun l => agF l c) (fun k l => Bw q l fun l => c (.ints k l)) R
theorem pcQ_cases {R : RowF} {q : Nat} {c : FV → FR} (h : pcQ R q c ≠ .bad) : ∃ v, αV v = Lc std q (αR R) ∧ pcQ R q c = c v := by
  cases R with
  | bs s =>
    have h : gT (Nat.ble q (bl s)) (fN (Au s 0 q) fun m => c (.bs m)) ≠ .bad := h
    obtain ⟨h1, h2⟩ := Ah h
    refine ⟨.bs (Au s 0 q), ?_, h2.trans (Aj _ _)⟩
    simp only [αV, αR, Lc, std]
    rw [E0 (by rw [Nat.zero_add]; exact Ds h1)]
  | cells l =>
    show ∃ v, _ ∧ (Bw q l fun l => agF l c) = _
    rw [Ca]
    obtain ⟨v, h1, h2⟩ := agF_of (l.take q) c
    exact ⟨v, by rw [h1, αL_take]; rfl, h2⟩
  | ints k l =>
    show ∃ v, _ ∧ (Bw q l fun l => c (.ints k l)) = _
    rw [Ca]
    exact ⟨.ints k (l.take q), rfl, rfl⟩
def cpQ (size : Nat) (str : Bool) (d x : FV) (σ : FH) (k : KV) : FR := rowQ str size σ x fun m R => kSN (fun b o n _ _ z => gT (Nat.beq z size) (fN (Bool.rec n m (Nat.ble m n)) fun cnt => Nat.rec (k (.n .i64 0) σ) (fun _ _ => pcQ R (Nat.mul cnt size) fun v => gM σ b fun ob => woF ob (Nat.mul cnt size) o v fun ob => pM σ b ob fun σ => k (.n .i64 cnt) σ) cnt)) (k (.n .i64 0) σ) d
theorem cpQ_sm (size : Nat) (str : Bool) (d x : FV) (σ : FH) (k : KV) : Sm (cpQ size str d x σ k) k (Bf std (αH σ) (.copy size str) [αV d, αV x]) := by
  intro h
  unfold cpQ at h ⊢
  obtain ⟨m, R, h1, h2⟩ := Gp h
  rw [h2] at h ⊢
  try dsimp only at h ⊢
  rcases kSN_cases h with ⟨b, o, n, kk, ex, z, rfl, g1⟩ | ⟨rfl, g1⟩
  · rw [g1] at h ⊢
    obtain ⟨g2, g3⟩ := Ah h
    rw [g3, Aj] at h ⊢
    simp only [αV, Bf]
    rw [h1]
    dsimp only
    have e1 : (bif std.leN m n then m else n) = (Bool.rec n m (Nat.ble m n) : Nat) := by
      show (bif Nat.ble m n then m else n) = _
      cases Nat.ble m n <;> rfl
    rw [e1]
    generalize (Bool.rec n m (Nat.ble m n) : Nat) = cnt at h ⊢
    cases cnt with
    | zero =>
      refine ⟨.n .i64 0, σ, ?_, rfl⟩
      simp only [cpyA, g2]; rfl
    | succ p =>
      have h : (pcQ R (Nat.mul (p + 1) size) fun v => gM σ b fun ob => woF ob (Nat.mul (p + 1) size) o v fun ob => pM σ b ob fun σ => k (.n .i64 (p + 1)) σ) ≠ .bad := h
      show ∃ v σ', _ ∧ (pcQ R (Nat.mul (p + 1) size) fun v => gM σ b fun ob => woF ob (Nat.mul (p + 1) size) o v fun ob => pM σ b ob fun σ => k (.n .i64 (p + 1)) σ) = _
      obtain ⟨v, h3, h4⟩ := pcQ_cases h
      rw [h4] at h ⊢
      try dsimp only at h ⊢
      obtain ⟨ob, _, h5, h6⟩ := Bz h
      rw [h6] at h ⊢
      obtain ⟨ob', g4, g5, g6⟩ := woF_ok _ _ _ _ _ h
      rw [g6]
      dsimp only
      rw [pM_eq]
      refine ⟨.n .i64 (p + 1), _, ?_, rfl⟩
      unfold cpyA
      rw [show std.eqN (p + 1) 0 = false from rfl, cond_false]
      rw [h5]
      dsimp only
      rw [pM_α, g5, h3]
      rw [Bool.and_eq_true, h3] at g4
      have g4 : (αO ob).writeOk std o (Lc std (std.mulN (p + 1) size) (αR R)) = true := g4.1
      rw [g4, g2]; rfl
  · rw [g1]
    refine ⟨.n .i64 0, σ, ?_, rfl⟩
    simp only [αV, Nl.av, Bf]
    rw [h1]; rfl
/-! Maps. -/
def kyI (x y : FV) (yes no : FR) : FR := FV.rec (motive_1 := fun _ => FR) (motive_2 := fun _ => FR) (fun k a => kNn (fun k' b => gK k k' (Bool.rec no yes (Nat.beq a b))) y) (fun k a => kI (fun k' _ => gK k k' no) (fun k' b => gK k k' (Bool.rec no yes (Nat.beq a b))) y) (fun _ => .bad) (fun _ => .bad) (fun _ _ => .bad) (fun _ _ _ _ _ _ => .bad) (fun _ => .bad) (fun _ => .bad) (fun _ _ _ _ _ => .bad) (fun _ _ _ => .bad) (fun _ _ => .bad) (fun _ => .bad) (fun _ _ => .bad) (fun _ _ => .bad) (fun _ => .bad) .bad (fun _ _ _ _ => .bad) x
def kyQ (ck : CK) (x y : FV) (yes no : FR) : FR := CK.rec (motive := fun _ => FR) (kyI x y yes no) (kS (fun a => kS (fun b => sEq a b yes no) y) x) (kB (fun a => kB (fun b => Bool.rec (Bool.rec yes no b) (Bool.rec no yes b) a) y) x) ck
theorem kyQ_cases {ck : CK} {x y : FV} {yes no : FR} (h : kyQ ck x y yes no ≠ .bad) : ∃ e, B0 std true [ck] (αV x) (αV y) = (true, e) ∧ kyQ ck x y yes no = bif e then yes else no := by
  have fl : ∀ {a b : AV} {e : Bool}, Cf std ck a b = (true, e) → B0 std true [ck] a b = (true, e) := fun {a b e} h => by
    simp only [B0, Az, h]; cases e <;> rfl
  cases ck with
  | int =>
    cases x with
    | n k a =>
      obtain ⟨k', b, rfl, h1⟩ := Dv (show kNn (fun k' b => gK k k' (Bool.rec no yes (Nat.beq a b))) y ≠ .bad from h)
      have h : gK k k' (Bool.rec no yes (Nat.beq a b)) ≠ .bad := by rw [← h1]; exact h
      obtain ⟨rfl, h2⟩ := Gc h
      refine ⟨Nat.beq a b, fl ?_, (h1.trans h2).trans (by cases Nat.beq a b <;> rfl)⟩
      simp only [αV, Cf, std, decide_true, (Fd a b).1]
    | z k a =>
      rcases kI_cases (show kI (fun k' _ => gK k k' no) (fun k' b => gK k k' (Bool.rec no yes (Nat.beq a b))) y ≠ .bad from h) with ⟨k', b, rfl, h1⟩ | ⟨k', b, rfl, h1⟩
      · have h : gK k k' no ≠ .bad := by rw [← h1]; exact h
        obtain ⟨rfl, h2⟩ := Gc h
        refine ⟨false, fl ?_, h1.trans h2⟩
        simp only [αV, Cf, std, decide_true, (Fd a b).2.2.1]
      · have h : gK k k' (Bool.rec no yes (Nat.beq a b)) ≠ .bad := by rw [← h1]; exact h
        obtain ⟨rfl, h2⟩ := Gc h
        refine ⟨Nat.beq a b, fl ?_, (h1.trans h2).trans (by cases Nat.beq a b <;> rfl)⟩
        simp only [αV, Cf, std, decide_true, (Fd a b).2.2.2]
    | _ => exact absurd rfl h
  | str =>
    have h : kS (fun a => kS (fun b => sEq a b yes no) y) x ≠ .bad := h
    show ∃ e, _ ∧ kS (fun a => kS (fun b => sEq a b yes no) y) x = _
    obtain ⟨a, rfl, h1⟩ := C2 h
    rw [h1] at h ⊢
    obtain ⟨b, rfl, h2⟩ := C2 h
    rw [h2] at h ⊢
    rcases sEq_cases h with ⟨h3, h4⟩ | ⟨h3, h4⟩
    · exact ⟨true, fl (by simp [αV, Cf, std, h3]), h4⟩
    · exact ⟨false, fl (by simp [αV, Cf, std, h3]), h4⟩
  | bool =>
    have h : kB (fun a => kB (fun b => Bool.rec (Bool.rec yes no b) (Bool.rec no yes b) a) y) x ≠ .bad := h
    show ∃ e, _ ∧ kB (fun a => kB (fun b => Bool.rec (Bool.rec yes no b) (Bool.rec no yes b) a) y) x = _
    obtain ⟨a, rfl, h1⟩ := Hw h
    rw [h1] at h ⊢
    obtain ⟨b, rfl, h2⟩ := Hw h
    rw [h2]
    refine ⟨a == b, fl rfl, ?_⟩
    cases a <;> cases b <;> rfl
def fiQ (ck : CK) (key : FV) (l : List (FV × FV)) (i : Nat) (found : Nat → FV → FR) (nn : FR) : FR := List.rec (motive := fun _ => Nat → FR) (fun _ => nn) (fun p _ ih i => Prod.rec (fun x y => kyQ ck key x (found i y) (fN (Nat.succ i) ih)) p) l i
theorem fiQ_cases {ck : CK} {key : FV} {found : Nat → FV → FR} {nn : FR} : ∀ {l : List (FV × FV)} {i : Nat}, fiQ ck key l i found nn ≠ .bad → ∃ r : Option (Nat × FV), Cc std true [ck] (αV key) (αP l) i = (true, r.map fun q => (q.1, αV q.2)) ∧ fiQ ck key l i found nn = (match r with | some q => found q.1 q.2 | none => nn)
  | [], i, _ => ⟨none, rfl, rfl⟩
  | p :: l, i, h => by
    obtain ⟨x, y⟩ := p
    have h : kyQ ck key x (found i y) (fN (Nat.succ i) fun i => fiQ ck key l i found nn) ≠ .bad := h
    show ∃ r : Option (Nat × FV), _ ∧ kyQ ck key x (found i y) (fN (Nat.succ i) fun i => fiQ ck key l i found nn) = _
    obtain ⟨e, h1, h2⟩ := kyQ_cases h
    rw [h2] at h ⊢
    simp only [αP, Cc]
    rw [h1]
    cases e with
    | true => exact ⟨some (i, y), rfl, rfl⟩
    | false =>
      dsimp only [cond_false] at h ⊢
      rw [Aj] at h ⊢
      obtain ⟨r, h3, h4⟩ := fiQ_cases (l := l) (i := i + 1) h
      refine ⟨r, ?_, h4⟩
      rw [h3]; rfl
theorem findA_at {sc : Bool} {ks : List CK} {k : AV} : ∀ {l : List (AV × AV)} {i j : Nat} {v : AV} {ok : Bool}, Cc std sc ks k l i = (ok, some (j, v)) → ∃ m p, j = i + m ∧ l[m]? = some p ∧ p.2 = v
  | [], i, j, v, ok, h => by cases h
  | p :: l, i, j, v, ok, h => by
    unfold Cc at h
    generalize B0 std sc ks k p.1 = r at h
    obtain ⟨o1, e⟩ := r
    cases e with
    | true => cases h; exact ⟨0, p, rfl, rfl, rfl⟩
    | false =>
      dsimp only at h
      generalize hq : Cc std sc ks k l (i + 1) = q at h
      obtain ⟨o2, r2⟩ := q
      simp only [Prod.mk.injEq] at h
      obtain ⟨_, rfl⟩ := h
      obtain ⟨m, p', h1, h2, h3⟩ := findA_at hq
      exact ⟨m + 1, p', by omega, h2, h3⟩
def fsQ (sc : Bool) (ks : List CK) (key : FV) (l : List (FV × FV)) (found : Nat → FV → FR) (nn : FR) : FR := Prod.rec (fun ok r => gT ok (Option.rec nn (fun q => Prod.rec (fun i _ => fN i fun i => Fh l i fun p => Prod.rec (fun _ y => found i y) p) q) r)) (Cc std sc ks (αV key) (αP l) 0)
def fdQ (sc : Bool) (ks : List CK) (key : FV) (l : List (FV × FV)) (found : Nat → FV → FR) (nn : FR) : FR := Bool.rec (fsQ false ks key l found nn) (List.rec (motive := fun _ => FR) (fsQ true ks key l found nn) (fun ck m _ => List.rec (motive := fun _ => FR) (fiQ ck key l 0 found nn) (fun _ _ _ => fsQ true ks key l found nn) m) ks) sc
theorem Lt {sc : Bool} {ks : List CK} {key : FV} {l : List (FV × FV)} {found : Nat → FV → FR} {nn : FR} (h : fsQ sc ks key l found nn ≠ .bad) : ∃ r : Option (Nat × FV), Cc std sc ks (αV key) (αP l) 0 = (true, r.map fun q => (q.1, αV q.2)) ∧ fsQ sc ks key l found nn = (match r with | some q => found q.1 q.2 | none => nn) := by
  unfold fsQ at h ⊢
  generalize hf : Cc std sc ks (αV key) (αP l) 0 = r at h
  obtain ⟨ok, r⟩ := r
  have h : gT ok (Option.rec nn (fun q => Prod.rec (fun i _ => fN i fun i => Fh l i fun p => Prod.rec (fun _ y => found i y) p) q) r) ≠ .bad := h
  show ∃ r', _ ∧ gT ok (Option.rec nn (fun q => Prod.rec (fun i _ => fN i fun i => Fh l i fun p => Prod.rec (fun _ y => found i y) p) q) r) = _
  obtain ⟨h1, h2⟩ := Ah h
  rw [h2] at h ⊢
  subst h1
  cases r with
  | none => exact ⟨none, rfl, rfl⟩
  | some q =>
    obtain ⟨i, v⟩ := q
    have h : (fN i fun i => Fh l i fun p => (Prod.rec (fun _ y => found i y) p : FR)) ≠ .bad := h
    show ∃ r', _ ∧ (fN i fun i => Fh l i fun p => (Prod.rec (fun _ y => found i y) p : FR)) = _
    rw [Aj] at h ⊢
    obtain ⟨p, h3, h4⟩ := D9 h
    rw [h4]
    obtain ⟨m, p', e1, e2, e3⟩ := findA_at hf
    rw [αP_map, List.getElem?_map] at e2
    rw [Nat.zero_add] at e1
    subst e1
    rw [h3] at e2
    cases e2
    refine ⟨some (i, p.2), ?_, rfl⟩
    rw [← e3]; rfl
theorem Lv {sc : Bool} {ks : List CK} {key : FV} {l : List (FV × FV)} {found : Nat → FV → FR} {nn : FR} (h : fdQ sc ks key l found nn ≠ .bad) : ∃ r : Option (Nat × FV), Cc std sc ks (αV key) (αP l) 0 = (true, r.map fun q => (q.1, αV q.2)) ∧ fdQ sc ks key l found nn = (match r with | some q => found q.1 q.2 | none => nn) := by
  cases sc with
  | false => exact Lt h
  | true =>
    cases ks with
    | nil => exact Lt h
    | cons ck m =>
      cases m with
      | nil => exact fiQ_cases h
      | cons _ _ => exact Lt h
def kMp (f : List (FV × FV) → FR) (ob : FObj) : FR := FObj.rec (motive := fun _ => FR) .bad (fun _ _ _ => .bad) (fun _ _ _ => .bad) (fun _ _ _ _ => .bad) (fun l => f l) .bad ob
theorem Ea {f : List (FV × FV) → FR} {ob : FObj} (h : kMp f ob ≠ .bad) : ∃ l, ob = .map l ∧ kMp f ob = f l := by
  cases ob <;> first | exact ⟨_, rfl, rfl⟩ | exact absurd rfl h
theorem αP_append (l m : List (FV × FV)) : αP (l ++ m) = αP l ++ αP m := by rw [αP_map, αP_map, αP_map, List.map_append]
theorem αP_set (l : List (FV × FV)) (i : Nat) (p : FV × FV) : αP (l.set i p) = (αP l).set i (αV p.1, αV p.2) := by rw [αP_map, αP_map, List.map_set]
def erK {α : Type} (l : List α) (i : Nat) (k : List α → FR) : FR := List.rec (motive := fun _ => Nat → (List α → FR) → FR) (fun _ k => k []) (fun x l ih i k => Nat.rec (k l) (fun j _ => ih j fun l => k (x :: l)) i) l i k
theorem erK_eq {α : Type} : ∀ (l : List α) (i : Nat) (k : List α → FR), erK l i k = k (l.eraseIdx i)
  | [], i, k => rfl
  | x :: l, 0, k => rfl
  | x :: l, i + 1, k => by show erK l i (fun l => k (x :: l)) = _; rw [erK_eq l i]; rfl
theorem αP_erase : ∀ (l : List (FV × FV)) (i : Nat), αP (l.eraseIdx i) = (αP l).eraseIdx i
  | [], i => rfl
  | p :: l, 0 => rfl
  | p :: l, i + 1 => by rw [List.eraseIdx_cons_succ, αP, αP_erase l i]; rfl
def okQ (sc : Bool) (ks : List CK) (key : FV) (r : FR) : FR := gT (B0 std sc ks (αV key) (αV key)).1 r
def muQ (sc : Bool) (ks : List CK) (m key v : FV) (σ : FH) (k : KV) : FR := kM (fun b => gM σ b (kMp fun l => okQ sc ks key (fdQ sc ks key l (fun i _ => gT sc (Hk l i (key, v) fun l => pM σ b (.map l) fun σ => k (.tup []) σ)) (gT (sc || (αV key).isInts) (Dn l [(key, v)] fun l => pM σ b (.map l) fun σ => k (.tup []) σ))))) m
theorem muQ_sm (sc : Bool) (ks : List CK) (m key v : FV) (σ : FH) (k : KV) : Sm (muQ sc ks m key v σ k) k (Bf std (αH σ) (.mapUpd sc ks) [αV m, αV key, αV v]) := by
  intro h
  unfold muQ at h ⊢
  obtain ⟨b, rfl, h1⟩ := Ka h
  rw [h1] at h ⊢
  obtain ⟨ob, _, h3, h4⟩ := Bz h
  rw [h4] at h ⊢
  obtain ⟨l, rfl, h5⟩ := Ea h
  rw [h5] at h ⊢
  obtain ⟨h6, h7⟩ := Ah (show gT _ _ ≠ .bad from h)
  unfold okQ at h ⊢
  rw [h7] at h ⊢
  obtain ⟨r, h8, h9⟩ := Lv h
  rw [h9] at h ⊢
  simp only [αV, Bf, h3, αO]
  rw [h8]
  cases r with
  | none =>
    try dsimp only at h ⊢
    obtain ⟨g1, g2⟩ := Ah h
    rw [g2, Dk, pM_eq]
    refine ⟨.tup [], _, ?_, rfl⟩
    rw [pM_α]
    simp only [αO, αP_append, h6, Option.map_none, Option.isNone_none, Bool.true_and]
    rw [g1]; rfl
  | some q =>
    try dsimp only at h ⊢
    obtain ⟨g1, g2⟩ := Ah h
    rw [g2] at h ⊢
    subst g1
    rw [Gl] at h ⊢
    by_cases hl : q.1 < l.length
    · rw [if_pos hl, pM_eq]
      refine ⟨.tup [], _, ?_, rfl⟩
      rw [pM_α]
      simp only [αO, αP_set, h6, Option.map_some, Bool.true_and, Bool.true_or]
      rfl
    · rw [if_neg hl] at h; exact absurd rfl h
def mdQ (sc : Bool) (ks : List CK) (m key : FV) (σ : FH) (k : KV) : FR := FV.rec (motive_1 := fun _ => FR) (motive_2 := fun _ => FR) (fun _ _ => .bad) (fun _ _ => .bad) (fun _ => .bad) (fun _ => .bad) (fun _ _ => .bad) (fun _ _ _ _ _ _ => .bad) (fun b => gM σ b (kMp fun l => fdQ sc ks key l (fun i _ => erK l i fun l => pM σ b (.map l) fun σ => k (.tup []) σ) (pM σ b (.map l) fun σ => k (.tup []) σ))) (fun _ => .bad) (fun _ _ _ _ _ => .bad) (fun _ _ _ => .bad) (fun _ _ => .bad) (fun _ => .bad) (fun _ _ => .bad) (fun _ _ => .bad) (fun j => Nl.rec (motive := fun _ => FR) .bad .bad .bad (okQ sc ks key (k (.tup []) σ)) .bad .bad j) .bad (fun _ _ _ _ => .bad) m
theorem mdQ_sm (sc : Bool) (ks : List CK) (m key : FV) (σ : FH) (k : KV) : Sm (mdQ sc ks m key σ k) k (Bf std (αH σ) (.mapDel sc ks) [αV m, αV key]) := by
  intro h
  cases m with
  | m b =>
    have h : gM σ b (kMp fun l => fdQ sc ks key l (fun i _ => erK l i fun l => pM σ b (.map l) fun σ => k (.tup []) σ) (pM σ b (.map l) fun σ => k (.tup []) σ)) ≠ .bad := h
    show ∃ v σ', _ ∧ gM σ b (kMp fun l => fdQ sc ks key l (fun i _ => erK l i fun l => pM σ b (.map l) fun σ => k (.tup []) σ) (pM σ b (.map l) fun σ => k (.tup []) σ)) = _
    obtain ⟨ob, _, h3, h4⟩ := Bz h
    rw [h4] at h ⊢
    obtain ⟨l, rfl, h5⟩ := Ea h
    rw [h5] at h ⊢
    obtain ⟨r, h8, h9⟩ := Lv h
    rw [h9] at h ⊢
    simp only [αV, Bf, h3, αO]
    rw [h8]
    cases r with
    | none =>
      dsimp only
      rw [pM_eq]
      refine ⟨.tup [], _, ?_, rfl⟩
      rw [pM_α]; rfl
    | some q =>
      dsimp only
      rw [erK_eq, pM_eq]
      refine ⟨.tup [], _, ?_, rfl⟩
      rw [pM_α]
      simp only [αO, αP_erase]; rfl
  | o j =>
    cases j with
    | map =>
      obtain ⟨h6, h7⟩ := Ah (show gT (B0 std sc ks (αV key) (αV key)).1 (k (.tup []) σ) ≠ .bad from h)
      refine ⟨.tup [], σ, ?_, h7⟩
      simp only [αV, Nl.av, Bf, h6]; rfl
    | _ => exact absurd rfl h
  | _ => exact absurd rfl h
theorem T.set_self {α : Type} : ∀ (f : Nat) (t : T α) (n : Nat) (x : α), n < 2 ^ f → t.get n = some x → T.set f t n x = t
  | 0, t, n, x, h, hx => by
    have hn : n = 0 := by simpa using h
    subst hn
    cases t with
    | leaf => cases hx
    | node v l r => rw [T.get_eq] at hx; cases hx; rfl
  | f + 1, t, n, x, h, hx => by
    rw [T.set_succ]
    rw [T.get_eq] at hx
    rw [Nat.pow_succ] at h
    cases t with
    | leaf =>
      exfalso
      cases h0 : Nat.beq n 0 <;> rw [h0] at hx
      · cases h1 : Nat.beq (n % 2) 1 <;> rw [h1] at hx <;> cases hx
      · cases hx
    | node v l r =>
      cases h0 : Nat.beq n 0 with
      | true => rw [h0] at hx; cases hx; rfl
      | false =>
        rw [h0] at hx
        have hn : n ≠ 0 := fun e => by rw [e] at h0; cases h0
        cases h1 : Nat.beq (n % 2) 1 with
        | true =>
          rw [h1] at hx
          have := T.set_self f l (n / 2) x (by omega) hx
          show T.node v (T.set f l (n / 2) x) r = _
          rw [this]
        | false =>
          rw [h1] at hx
          have := T.set_self f r (n / 2 - 1) x (by omega) hx
          show T.node v l (T.set f r (n / 2 - 1) x) = _
          rw [this]
def mkQ (v : FV) (σ : FH) (k : KV) : FR := kSl (fun b _ _ c e _ => gT (Nat.ble (Nat.succ b) 1000000) (gM σ b fun ob => FObj.rec (motive := fun _ => FR) .bad (fun _ _ t => gW t (Nat.rec (gT e (k v σ)) (fun _ _ => k v σ) c)) (fun _ _ t => gW t (Nat.rec (gT e (k v σ)) (fun _ _ => k v σ) c)) (fun _ _ _ t => gW t (Nat.rec (gT e (k v σ)) (fun _ _ => k v σ) c)) (fun _ => .bad) .bad ob)) v
theorem mkQ_sm (v : FV) (σ : FH) (k : KV) : Sm (mkQ v σ k) k (Bf std (αH σ) .mark [αV v]) := by
  intro h
  unfold mkQ at h ⊢
  obtain ⟨b, o, n, c, e, z, rfl, h1⟩ := kSl_cases h
  rw [h1] at h ⊢
  obtain ⟨hb, h2⟩ := Ah h
  rw [h2] at h ⊢
  obtain ⟨ob, h0, h3, h4⟩ := Bz h
  rw [h4] at h ⊢
  have hput : (αH σ).put b (αO ob) = αH σ := by
    have : (αH σ).mem.put b (αO ob) = (αH σ).mem := T.set_self 20 _ _ _ (by have := Ds hb; omega) h3
    unfold AH.put; rw [this]
  have key : ∀ t : Tl, (αO ob).cellsy = true → (αO ob).isRo = t.isRo → gW t (Nat.rec (gT e (k (.sl b o n c e z) σ)) (fun _ _ => k (.sl b o n c e z) σ) c) ≠ .bad → ∃ v σ', Bf std (αH σ) .mark [αV (.sl b o n c e z)] = (true, αV v, αH σ') ∧ gW t (Nat.rec (gT e (k (.sl b o n c e z) σ)) (fun _ _ => k (.sl b o n c e z) σ) c) = k v σ' := by
    intro t c1 c2 h
    obtain ⟨g1, g2⟩ := Gb h
    rw [g2] at h ⊢
    have fin : (αV (.sl b o n c e z)).sure = true → Bf std (αH σ) .mark [αV (.sl b o n c e z)] = (true, αV (.sl b o n c e z), αH σ) := fun hs => by
      have hs : (AV.sl b o n c e z).sure = true := hs
      simp only [αV, Bf, h3]
      rw [c1, c2, g1, hs, hput]; rfl
    cases c with
    | zero =>
      obtain ⟨g3, g4⟩ := Ah (show gT e (k (.sl b o n 0 e z) σ) ≠ .bad from h)
      exact ⟨_, σ, fin g3, g4⟩
    | succ c => exact ⟨_, σ, fin rfl, rfl⟩
  cases ob with
  | cells l e' t => exact key t rfl rfl h
  | bs s e' t => exact key t rfl rfl h
  | ints k' l e' t => exact key t rfl rfl h
  | _ => exact absurd rfl h
/-! By their lists of operands. -/
def k1L (l : List FV) (f : FV → FR) : FR := List.rec (motive := fun _ => FR) .bad (fun x m _ => List.rec (motive := fun _ => FR) (f x) (fun _ _ _ => .bad) m) l
def k2L (l : List FV) (f : FV → FV → FR) : FR := List.rec (motive := fun _ => FR) .bad (fun x m _ => k1L m (f x)) l
def k3L (l : List FV) (f : FV → FV → FV → FR) : FR := List.rec (motive := fun _ => FR) .bad (fun x m _ => k2L m (f x)) l
theorem Cp {l : List FV} {f : FV → FR} (h : k1L l f ≠ .bad) : ∃ x, l = [x] ∧ k1L l f = f x := by
  match l, h with
  | [], h => exact absurd rfl h
  | [x], _ => exact ⟨x, rfl, rfl⟩
  | _ :: _ :: _, h => exact absurd rfl h
theorem B7 {l : List FV} {f : FV → FV → FR} (h : k2L l f ≠ .bad) : ∃ x y, l = [x, y] ∧ k2L l f = f x y := by
  match l, h with
  | [], h => exact absurd rfl h
  | x :: m, h =>
    obtain ⟨y, rfl, h2⟩ := Cp (show k1L m (f x) ≠ .bad from h)
    exact ⟨x, y, rfl, h2⟩
theorem k3L_cases {l : List FV} {f : FV → FV → FV → FR} (h : k3L l f ≠ .bad) : ∃ x y z, l = [x, y, z] ∧ k3L l f = f x y z := by
  match l, h with
  | [], h => exact absurd rfl h
  | x :: m, h =>
    obtain ⟨y, z, rfl, h2⟩ := B7 (show k2L m (f x) ≠ .bad from h)
    exact ⟨x, y, z, rfl, h2⟩
def xQ : XOp → List FV → FH → KV → FR
  | .append e str size => fun l σ k => k2L l fun s x => apQ e str size s x σ k
  | .copy size str => fun l σ k => k2L l fun d x => cpQ size str d x σ k
  | .appz e kd => fun l σ k => k2L l fun s x => azQ e kd s x σ k
  | .mapUpd sc ks => fun l σ k => k3L l fun m key v => muQ sc ks m key v σ k
  | .mapDel sc ks => fun l σ k => k2L l fun m key => mdQ sc ks m key σ k
  | .mark => fun l σ k => k1L l fun v => mkQ v σ k
theorem xQ_sm (x : XOp) (l : List FV) (σ : FH) (k : KV) : Sm (xQ x l σ k) k (Bf std (αH σ) x (αL l)) := by
  cases x with
  | append e str size =>
    intro h
    obtain ⟨s, x, rfl, h2⟩ := B7 (show k2L l (fun s x => apQ e str size s x σ k) ≠ .bad from h)
    show ∃ v σ', _ ∧ k2L [s, x] (fun s x => apQ e str size s x σ k) = _
    rw [h2]; exact apQ_sm e str size s x σ k (by rw [← h2]; exact h)
  | appz e kd =>
    intro h
    obtain ⟨s, x, rfl, h2⟩ := B7 (show k2L l (fun s x => azQ e kd s x σ k) ≠ .bad from h)
    show ∃ v σ', _ ∧ k2L [s, x] (fun s x => azQ e kd s x σ k) = _
    rw [h2]; exact azQ_sm unpI_zero' e kd s x σ k (by rw [← h2]; exact h)
  | copy size str =>
    intro h
    obtain ⟨s, x, rfl, h2⟩ := B7 (show k2L l (fun s x => cpQ size str s x σ k) ≠ .bad from h)
    show ∃ v σ', _ ∧ k2L [s, x] (fun s x => cpQ size str s x σ k) = _
    rw [h2]; exact cpQ_sm size str s x σ k (by rw [← h2]; exact h)
  | mapUpd sc ks =>
    intro h
    obtain ⟨s, x, y, rfl, h2⟩ := k3L_cases (show k3L l (fun m key v => muQ sc ks m key v σ k) ≠ .bad from h)
    show ∃ v σ', _ ∧ k3L [s, x, y] (fun m key v => muQ sc ks m key v σ k) = _
    rw [h2]; exact muQ_sm sc ks s x y σ k (by rw [← h2]; exact h)
  | mapDel sc ks =>
    intro h
    obtain ⟨s, x, rfl, h2⟩ := B7 (show k2L l (fun m key => mdQ sc ks m key σ k) ≠ .bad from h)
    show ∃ v σ', _ ∧ k2L [s, x] (fun m key => mdQ sc ks m key σ k) = _
    rw [h2]; exact mdQ_sm sc ks s x σ k (by rw [← h2]; exact h)
  | mark =>
    intro h
    obtain ⟨s, rfl, h2⟩ := Cp (show k1L l (fun v => mkQ v σ k) ≠ .bad from h)
    show ∃ v σ', _ ∧ k1L [s] (fun v => mkQ v σ k) = _
    rw [h2]; exact mkQ_sm s σ k (by rw [← h2]; exact h)
end
end Go.Proofs.YtjoakhpdajlhiaaGreatDoor.V2
namespace Go.Proofs.YtjoakhpdajlhiaaGreatDoor.V2
open Go
noncomputable section
theorem Sm.gv {r : FR} {k : KV} {o : Bool × AV} {σ : FH} (h : Sv r (fun v => k v σ) o) : Sm r k (match o with | (ok, v) => (ok, v, αH σ)) := Sm.ofv h
/-! Values alone. -/
def kBsF (f : Nat → FR) (s : FR) (v : FV) : FR := FV.rec (motive_1 := fun _ => FR) (motive_2 := fun _ => FR) (fun _ _ => s) (fun _ _ => s) (fun _ => s) (fun _ => s) (fun _ _ => s) (fun _ _ _ _ _ _ => s) (fun _ => s) (fun _ => s) (fun _ _ _ _ _ => s) (fun _ _ _ => s) (fun _ _ => s) (fun c => f c) (fun _ _ => s) (fun _ _ => s) (fun _ => s) .bad (fun _ _ _ _ => .bad) v
theorem kBsF_cases (v : FV) (f : Nat → FR) (s : FR) : (∃ c, v = .bs c ∧ kBsF f s v = f c) ∨ kBsF f s v = s := by
  cases v <;> first | exact .inl ⟨_, rfl, rfl⟩ | exact .inr rfl
def isTwo (l : List FV) : Bool := List.rec false (fun _ m _ => List.rec false (fun _ q _ => List.rec true (fun _ _ _ => false) q) m) l
theorem isTwo_eq {l : List FV} (h : isTwo l = true) : ∃ x y, l = [x, y] := by
  match l, h with
  | [], h => cases h
  | [_], h => cases h
  | [x, y], _ => exact ⟨x, y, rfl⟩
  | _ :: _ :: _ :: _, h => cases h
def ekB (k : EK) (j : Nl) : Bool := Nl.rec (motive := fun _ => Bool) false (EK.rec (motive := fun _ => Bool) false true false false false false k) (EK.rec (motive := fun _ => Bool) false false true false false false k) (EK.rec (motive := fun _ => Bool) false false false true false false k) (EK.rec (motive := fun _ => Bool) false false false false true false k) (EK.rec (motive := fun _ => Bool) false false false false false true k) j
def eqQ1 (neg : Bool) (k : EK) (x y : FV) (c : FV → FR) : FR := FV.rec (motive_1 := fun _ => FR) (motive_2 := fun _ => FR) (fun _ _ => slV (Aq std (.eqv neg k) [αV x, αV y]) c) (fun _ _ => slV (Aq std (.eqv neg k) [αV x, αV y]) c) (fun _ => slV (Aq std (.eqv neg k) [αV x, αV y]) c) (fun _ => slV (Aq std (.eqv neg k) [αV x, αV y]) c) (fun _ _ => slV (Aq std (.eqv neg k) [αV x, αV y]) c) (fun _ _ _ _ _ _ => slV (Aq std (.eqv neg k) [αV x, αV y]) c) (fun _ => slV (Aq std (.eqv neg k) [αV x, αV y]) c) (fun _ => slV (Aq std (.eqv neg k) [αV x, αV y]) c) (fun _ _ _ _ _ => slV (Aq std (.eqv neg k) [αV x, αV y]) c) (fun _ _ _ => slV (Aq std (.eqv neg k) [αV x, αV y]) c) (fun _ _ => slV (Aq std (.eqv neg k) [αV x, αV y]) c) (fun _ => slV (Aq std (.eqv neg k) [αV x, αV y]) c) (fun _ _ => slV (Aq std (.eqv neg k) [αV x, αV y]) c) (fun _ _ => slV (Aq std (.eqv neg k) [αV x, αV y]) c) (fun j => gT (ekB k j) (nlF j x (Bool.rec (c (.b true)) (c (.b false)) neg) (Bool.rec (c (.b false)) (c (.b true)) neg))) .bad (fun _ _ _ _ => .bad) y
theorem nlF_cases {j : Nl} {x : FV} {y n : FR} (h : nlF j x y n ≠ .bad) : ∃ t : Bool, (∀ k, ekB k j = true → eqvA std k (αV x) (αV (.o j)) = (true, t)) ∧ nlF j x y n = bif t then y else n := by
  cases x with
  | o i => cases i <;> cases j <;> first | (exact absurd rfl h) | (exact ⟨true, (fun k hk => by cases k <;> first | rfl | cases hk), rfl⟩)
  | p b o => cases j <;> first | (exact absurd rfl h) | (exact ⟨false, (fun k hk => by cases k <;> first | rfl | cases hk), rfl⟩)
  | sl b o n k e z => cases j <;> first | (exact absurd rfl h) | (exact ⟨false, (fun k hk => by cases k <;> first | rfl | cases hk), rfl⟩)
  | m b => cases j <;> first | (exact absurd rfl h) | (exact ⟨false, (fun k hk => by cases k <;> first | rfl | cases hk), rfl⟩)
  | fn f a b => cases j <;> first | (exact absurd rfl h) | (exact ⟨false, (fun k hk => by cases k <;> first | rfl | cases hk), rfl⟩)
  | ifc t v => cases j <;> first | (exact absurd rfl h) | (exact ⟨false, (fun k hk => by cases k <;> first | rfl | cases hk), rfl⟩)
  | _ => exact absurd rfl h
theorem eqQ1_sv (neg : Bool) (k : EK) (x y : FV) (c : FV → FR) : Sv (eqQ1 neg k x y c) c (Aq std (.eqv neg k) [αV x, αV y]) := by
  cases y
  case o j =>
    intro h
    obtain ⟨h1, h2⟩ := Ah (show gT (ekB k j) (nlF j x (Bool.rec (c (.b true)) (c (.b false)) neg) (Bool.rec (c (.b false)) (c (.b true)) neg)) ≠ .bad from h)
    have h : gT (ekB k j) (nlF j x (Bool.rec (c (.b true)) (c (.b false)) neg) (Bool.rec (c (.b false)) (c (.b true)) neg)) ≠ .bad := h
    show ∃ v, _ ∧ gT (ekB k j) (nlF j x (Bool.rec (c (.b true)) (c (.b false)) neg) (Bool.rec (c (.b false)) (c (.b true)) neg)) = _
    rw [h2] at h ⊢
    obtain ⟨t, h3, h4⟩ := nlF_cases h
    rw [h4]
    simp only [Aq]
    rw [h3 k h1]
    cases t <;> cases neg <;> exact ⟨.b _, rfl, rfl⟩
  all_goals exact Dr (Aq std (.eqv neg k) [αV x, αV _]) c
def bdQ (cs : List FV) (ss : List (Nat × Nat)) (args : List FV) (k : List FV → FR) (s : FR) : FR := List.rec (motive := fun _ => List (Nat × Nat) → List FV → (List FV → FR) → FR) (fun ss cs k => List.rec (motive := fun _ => FR) (k cs) (fun _ _ _ => .bad) ss)
  (fun a _ ih ss cs k => List.rec (motive := fun _ => FR) .bad (fun p ss _ => Prod.rec (fun i n => kC (gT (Nat.beq 1 n) (Hk cs i a fun cs => ih ss cs k)) (fun m => Bj m 0 fun q => gT (Nat.beq q n) (Bj cs 0 fun L => gT (Nat.ble (Nat.add i n) L) (Bw i cs fun c1 => Ce (Nat.add i n) cs fun c2 => Dn m c2 fun c2 => Dn c1 c2 fun cs => ih ss cs k))) s a) p) ss) args ss cs k
theorem set_take {α : Type} : ∀ (l : List α) (i : Nat) (a : α), i < l.length → l.set i a = l.take i ++ [a] ++ l.drop (i + 1)
  | [], i, a, h => by cases h
  | x :: l, 0, a, h => rfl
  | x :: l, i + 1, a, h => by
    have := set_take l i a (by simpa using h)
    rw [List.set_cons_succ, this]; rfl
theorem bdQ_cases {k : List FV → FR} {s : FR} : ∀ (args : List FV) (ss : List (Nat × Nat)) (cs : List FV), bdQ cs ss args k s ≠ .bad → (∃ l, layL (αL cs) ss (αL args) = (true, αL l) ∧ bdQ cs ss args k s = k l) ∨ bdQ cs ss args k s = s
  | [], [], cs, h => .inl ⟨cs, rfl, rfl⟩
  | [], _ :: _, cs, h => absurd rfl h
  | _ :: _, [], cs, h => absurd rfl h
  | a :: args, (i, n) :: ss, cs, h => by
    have h : kC (gT (Nat.beq 1 n) (Hk cs i a fun cs => bdQ cs ss args k s)) (fun m => Bj m 0 fun q => gT (Nat.beq q n) (Bj cs 0 fun L => gT (Nat.ble (Nat.add i n) L) (Bw i cs fun c1 => Ce (Nat.add i n) cs fun c2 => Dn m c2 fun c2 => Dn c1 c2 fun cs => bdQ cs ss args k s))) s a ≠ .bad := h
    show (∃ l, _ ∧ kC (gT (Nat.beq 1 n) (Hk cs i a fun cs => bdQ cs ss args k s)) (fun m => Bj m 0 fun q => gT (Nat.beq q n) (Bj cs 0 fun L => gT (Nat.ble (Nat.add i n) L) (Bw i cs fun c1 => Ce (Nat.add i n) cs fun c2 => Dn m c2 fun c2 => Dn c1 c2 fun cs => bdQ cs ss args k s))) s a = _) ∨
      kC (gT (Nat.beq 1 n) (Hk cs i a fun cs => bdQ cs ss args k s)) (fun m => Bj m 0 fun q => gT (Nat.beq q n) (Bj cs 0 fun L => gT (Nat.ble (Nat.add i n) L) (Bw i cs fun c1 => Ce (Nat.add i n) cs fun c2 => Dn m c2 fun c2 => Dn c1 c2 fun cs => bdQ cs ss args k s))) s a = s
    rcases kC_cases (gT (Nat.beq 1 n) (Hk cs i a fun cs => bdQ cs ss args k s)) (fun m => Bj m 0 fun q => gT (Nat.beq q n) (Bj cs 0 fun L => gT (Nat.ble (Nat.add i n) L) (Bw i cs fun c1 => Ce (Nat.add i n) cs fun c2 => Dn m c2 fun c2 => Dn c1 c2 fun cs => bdQ cs ss args k s))) s a with ⟨h1, h2⟩ | ⟨m, rfl, h2⟩ | h2
    · rw [h2] at h ⊢
      obtain ⟨g1, g2⟩ := Ah h
      rw [g2] at h ⊢
      rw [Gl] at h ⊢
      by_cases hl : i < cs.length
      · rw [if_pos hl] at h ⊢
        rcases bdQ_cases args ss _ h with ⟨l, h3, h4⟩ | h4
        · refine .inl ⟨l, ?_, h4⟩
          obtain ⟨s1, _, s3, _⟩ := Jv h1
          have hn := Nat.eq_of_beq_eq_true g1
          subst hn
          simp only [αL, layL]
          rw [s1, s3]
          have e1 : (Nat.beq [αV a].length 1 && Nat.ble (i + 1) (αL cs).length) = true := by
            rw [αL_length, Bool.and_eq_true]; exact ⟨rfl, by rw [Nat.ble_eq]; exact hl⟩
          rw [Bool.true_and, e1]
          dsimp only
          rw [αL_set, set_take _ _ _ (by rw [αL_length]; exact hl)] at h3
          exact h3
        · exact .inr h4
      · rw [if_neg hl] at h; exact absurd rfl h
    · rw [h2] at h ⊢
      rw [Bv, Nat.zero_add] at h ⊢
      obtain ⟨g1, g2⟩ := Ah h
      rw [g2] at h ⊢
      rw [Bv, Nat.zero_add] at h ⊢
      obtain ⟨g3, g4⟩ := Ah h
      rw [g4] at h ⊢
      rw [Ca, Cr, Dk, Dk] at h ⊢
      rcases bdQ_cases args ss _ h with ⟨l, h3, h4⟩ | h4
      · refine .inl ⟨l, ?_, h4⟩
        have hn := Nat.eq_of_beq_eq_true g1
        subst hn
        simp only [αL, layL, αV]
        have e1 : ((AV.agg (αL m)).known && Nat.beq (AV.agg (αL m)).cells.length m.length && Nat.ble (i + m.length) (αL cs).length) = true := by
          show (true && Nat.beq (αL m).length m.length && Nat.ble (i + m.length) (αL cs).length) = true
          rw [αL_length, αL_length, Nat.beq_refl]; exact g3
        rw [e1]
        dsimp only
        rw [αL_append, αL_append, αL_take, αL_drop] at h3
        rw [List.append_assoc]
        exact h3
      · exact .inr h4
    · rw [h2]; exact .inr rfl
def buQ (zero : List AV) (spots : List (Nat × Nat)) (l : List FV) (c : FV → FR) : FR := bdQ (βL zero) spots l (fun cs => agF cs c) (slV (Aq std (.build zero spots) (αL l)) c)
def buN (cs : List FV) (zero : List AV) (spots : List (Nat × Nat)) (l : List FV) (σ : FH) (k : KV) : FR := bdQ cs spots l (fun cs => agF cs fun v => k v σ) (slV (Aq std (.build zero spots) (αL l)) fun v => k v σ)
def mfG (f : Fn) (n : Nat) (l : List FV) (σ : FH) (k : KV) : FR := mfF f n l fun v => k v σ
theorem buQ_sv (zero : List AV) (spots : List (Nat × Nat)) (l : List FV) (c : FV → FR) : Sv (buQ zero spots l c) c (Aq std (.build zero spots) (αL l)) := by
  intro h
  unfold buQ at h ⊢
  rcases bdQ_cases _ _ _ h with ⟨l', h1, h2⟩ | h2
  · rw [h2]
    obtain ⟨v, h3, h4⟩ := agF_of l' c
    refine ⟨v, ?_, h4⟩
    rw [αβL] at h1
    simp only [Aq, h1, h3]
  · rw [h2] at h ⊢; exact Dr _ _ h
def eqB (neg : Bool) (ks : List CK) (x y : FV) (c : FV → FR) (s : FR) : FR := kBsF (fun a => kBsF (fun b => gT (ks.all CK.isInt && Nat.beq (bl a) ks.length && Nat.beq (bl b) ks.length && bok a && bok b) (Bool.rec (Bool.rec (c (.b false)) (c (.b true)) neg) (Bool.rec (c (.b true)) (c (.b false)) neg) (Nat.beq a b))) s y) s x
theorem unpI_inj {a b : Nat} (ha : bok a = true) (hb : bok b = true) (h : B4 a = B4 b) : a = b := by
  refine Mv ha hb ?_
  unfold B4 at h
  exact (List.map_inj_right fun x y hxy => UInt8.toNat_inj.1 (Int.ofNat.inj hxy)).1 h
theorem eqB_sv (neg : Bool) (ks : List CK) (x y : FV) (c : FV → FR) : Sv (eqB neg ks x y c (slV (Aq std (.eqF neg ks) [αV x, αV y]) c)) c (Aq std (.eqF neg ks) [αV x, αV y]) := by
  rcases kBsF_cases x (fun a => kBsF (fun b => gT (ks.all CK.isInt && Nat.beq (bl a) ks.length && Nat.beq (bl b) ks.length && bok a && bok b) (Bool.rec (Bool.rec (c (.b false)) (c (.b true)) neg) (Bool.rec (c (.b true)) (c (.b false)) neg) (Nat.beq a b))) (slV (Aq std (.eqF neg ks) [αV x, αV y]) c) y) (slV (Aq std (.eqF neg ks) [αV x, αV y]) c) with ⟨a, rfl, h1⟩ | h1
  · unfold eqB
    rw [h1]
    rcases kBsF_cases y (fun b => gT (ks.all CK.isInt && Nat.beq (bl a) ks.length && Nat.beq (bl b) ks.length && bok a && bok b) (Bool.rec (Bool.rec (c (.b false)) (c (.b true)) neg) (Bool.rec (c (.b true)) (c (.b false)) neg) (Nat.beq a b))) (slV (Aq std (.eqF neg ks) [αV (.bs a), αV y]) c) with ⟨b, rfl, h2⟩ | h2
    · rw [h2]
      intro h
      obtain ⟨g1, g2⟩ := Ah h
      rw [g2]
      simp only [Bool.and_eq_true] at g1
      obtain ⟨⟨⟨⟨g3, g4⟩, g5⟩, g6⟩, g7⟩ := g1
      simp only [Aq, αV, B0, std, Ba, g3, g4, g5, decide_true, Bool.true_and]
      cases hb : Nat.beq a b with
      | true =>
        have e := Nat.eq_of_beq_eq_true hb
        subst e
        cases neg
        · exact ⟨.b true, by simp [αV], rfl⟩
        · exact ⟨.b false, by simp [αV], rfl⟩
      | false =>
        have e : B4 a ≠ B4 b := fun e => by rw [unpI_inj g6 g7 e, Nat.beq_refl] at hb; cases hb
        cases neg
        · exact ⟨.b false, by simp [αV, e], rfl⟩
        · exact ⟨.b true, by simp [αV, e], rfl⟩
    · rw [h2]; exact Dr _ _
  · unfold eqB
    rw [h1]; exact Dr _ _
def mnQ (mx : Bool) (x y : FV) (c : FV → FR) (s : FR) : FR := FV.rec (motive_1 := fun _ => FR) (motive_2 := fun _ => FR) (fun k a => FV.rec (motive_1 := fun _ => FR) (motive_2 := fun _ => FR) (fun k' b => gK k k' (Bool.rec (c (.n k (Bool.rec b a mx))) (c (.n k (Bool.rec a b mx))) (Nat.ble (Nat.succ a) b))) (fun _ _ => s) (fun _ => s) (fun _ => s) (fun _ _ => s) (fun _ _ _ _ _ _ => s) (fun _ => s) (fun _ => s) (fun _ _ _ _ _ => s) (fun _ _ _ => s) (fun _ _ => s) (fun _ => s) (fun _ _ => s) (fun _ _ => s) (fun _ => s) .bad (fun _ _ _ _ => .bad) y) (fun _ _ => s) (fun _ => s) (fun _ => s) (fun _ _ => s) (fun _ _ _ _ _ _ => s) (fun _ => s) (fun _ => s) (fun _ _ _ _ _ => s) (fun _ _ _ => s) (fun _ _ => s) (fun _ => s) (fun _ _ => s) (fun _ _ => s) (fun _ => s) .bad (fun _ _ _ _ => .bad) x
theorem mnQ_sv (mx : Bool) (x y : FV) (c : FV → FR) {p : POp} (hp : p = bif mx then .maxI else .minI) : Sv (mnQ mx x y c (slV (Aq std p [αV x, αV y]) c)) c (Aq std p [αV x, αV y]) := by
  cases x with
  | n k a =>
    cases y with
    | n k' b =>
      show Sv (gK k k' (Bool.rec (c (.n k (Bool.rec b a mx))) (c (.n k (Bool.rec a b mx))) (Nat.ble (Nat.succ a) b))) c _
      refine gK_sv fun e => ?_
      subst e hp
      have e1 : decide (Int.ofNat a < Int.ofNat b) = Nat.ble (Nat.succ a) b := (L2 a b).1
      have e2 : decide (Int.ofNat b < Int.ofNat a) = Nat.ble (Nat.succ b) a := (L2 b a).1
      cases mx with
      | true =>
        simp only [Aq, αV, minL, std, cond_true, e1]
        cases hb : Nat.ble (Nat.succ a) b
        · exact .of (c := c) (.n k a) (by simp [αV])
        · exact .of (c := c) (.n k b) (by simp [αV])
      | false =>
        simp only [Aq, αV, minL, std, cond_false, e2]
        cases hb : Nat.ble (Nat.succ a) b
        · have : Nat.ble (Nat.succ b) a = true ∨ a = b := by
            by_cases h : a = b
            · exact .inr h
            · left; rw [Nat.ble_eq]
              have : ¬ (Nat.succ a ≤ b) := fun h => by rw [Nat.ble_eq_true_of_le h] at hb; cases hb
              omega
          rcases this with h | rfl
          · rw [h]; exact .of (c := c) (.n k b) (by simp [αV])
          · refine .of (c := c) (.n k a) ?_
            cases Nat.ble (Nat.succ a) a <;> simp [αV]
        · have : Nat.ble (Nat.succ b) a = false := by
            rw [Bool.eq_false_iff]; intro h
            have := Ds h; have := Ds hb; omega
          rw [this]; exact .of (c := c) (.n k a) (by simp [αV])
    | _ => exact Dr _ _
  | _ => exact Dr _ _
def pQ : POp → List FV → FH → KV → FR
  | .build zero spots => fun l σ k => buQ zero spots l fun v => k v σ
  | .field1 off => fun l σ k => k1L l fun x => f1F off x fun v => k v σ
  | .fieldN off size => fun l σ k => k1L l fun x => fnF off size x fun v => k v σ
  | .idxStr => fun l σ k => k2L l fun x i => sAt x i fun v => k v σ
  | .mkFn f n => fun l σ k => mfF f n l fun v => k v σ
  | .assertT t co z => fun l σ k => k1L l fun x => atF t co (βV z) x fun v => k v σ
  | .eqv neg ek => fun l σ k => k2L l fun x y => eqQ1 neg ek x y fun v => k v σ
  | .eqF neg ks => fun l σ k => k2L l fun x y => eqB neg ks x y (fun v => k v σ) (slV (Aq std (.eqF neg ks) [αV x, αV y]) fun v => k v σ)
  | .minI => fun l σ k => Bool.rec (slV (Aq std .minI (αL l)) fun v => k v σ) (k2L l fun x y => mnQ false x y (fun v => k v σ) (slV (Aq std .minI [αV x, αV y]) fun v => k v σ)) (isTwo l)
  | .maxI => fun l σ k => Bool.rec (slV (Aq std .maxI (αL l)) fun v => k v σ) (k2L l fun x y => mnQ true x y (fun v => k v σ) (slV (Aq std .maxI [αV x, αV y]) fun v => k v σ)) (isTwo l)
  | .idxArr len size agg => fun l σ k => slV (Aq std (.idxArr len size agg) (αL l)) fun v => k v σ
  | .same => fun l σ k => slV (Aq std .same (αL l)) fun v => k v σ
  | .capSl => fun l σ k => slV (Aq std .capSl (αL l)) fun v => k v σ
theorem pQ_sm (x : POp) (l : List FV) (σ : FH) (k : KV) : Sm (pQ x l σ k) k (match Aq std x (αL l) with | (ok, v) => (ok, v, αH σ)) := by
  cases x with
  | build zero spots => exact Sm.gv (buQ_sv zero spots l _)
  | field1 off =>
    intro h
    obtain ⟨x, rfl, h2⟩ := Cp (show k1L l (fun x => f1F off x fun v => k v σ) ≠ .bad from h)
    show ∃ v σ', _ ∧ k1L [x] (fun x => f1F off x fun v => k v σ) = _
    rw [h2]; exact Sm.gv (f1F_sv off x fun v => k v σ) (by rw [← h2]; exact h)
  | fieldN off size =>
    intro h
    obtain ⟨x, rfl, h2⟩ := Cp (show k1L l (fun x => fnF off size x fun v => k v σ) ≠ .bad from h)
    show ∃ v σ', _ ∧ k1L [x] (fun x => fnF off size x fun v => k v σ) = _
    rw [h2]; exact Sm.gv (fnF_sv off size x fun v => k v σ) (by rw [← h2]; exact h)
  | idxStr =>
    intro h
    obtain ⟨x, i, rfl, h2⟩ := B7 (show k2L l (fun x i => sAt x i fun v => k v σ) ≠ .bad from h)
    show ∃ v σ', _ ∧ k2L [x, i] (fun x i => sAt x i fun v => k v σ) = _
    rw [h2]; exact Sm.gv (sAt_sv x i fun v => k v σ) (by rw [← h2]; exact h)
  | mkFn f n => exact Sm.gv (mfF_sv f n l _)
  | assertT t co z =>
    intro h
    have h : (k1L l fun x => atF t co (βV z) x fun v => k v σ) ≠ .bad := h
    show ∃ v σ', _ ∧ (k1L l fun x => atF t co (βV z) x fun v => k v σ) = _
    obtain ⟨x, rfl, h2⟩ := Cp h
    rw [h2] at h ⊢
    exact Sm.gv (atF_sv t co (βV z) z (αβ z) x fun v => k v σ) h
  | eqv neg ek =>
    intro h
    obtain ⟨x, i, rfl, h2⟩ := B7 (show k2L l (fun x i => eqQ1 neg ek x i fun v => k v σ) ≠ .bad from h)
    show ∃ v σ', _ ∧ k2L [x, i] (fun x i => eqQ1 neg ek x i fun v => k v σ) = _
    rw [h2]; exact Sm.gv (eqQ1_sv neg ek x i fun v => k v σ) (by rw [← h2]; exact h)
  | eqF neg ks =>
    intro h
    obtain ⟨x, i, rfl, h2⟩ := B7 (show k2L l (fun x y => eqB neg ks x y (fun v => k v σ) (slV (Aq std (.eqF neg ks) [αV x, αV y]) fun v => k v σ)) ≠ .bad from h)
    show ∃ v σ', _ ∧ k2L [x, i] (fun x y => eqB neg ks x y (fun v => k v σ) (slV (Aq std (.eqF neg ks) [αV x, αV y]) fun v => k v σ)) = _
    rw [h2]; exact Sm.gv (eqB_sv neg ks x i fun v => k v σ) (by rw [← h2]; exact h)
  | minI =>
    show Sm (Bool.rec (slV (Aq std .minI (αL l)) fun v => k v σ) (k2L l fun x y => mnQ false x y (fun v => k v σ) (slV (Aq std .minI [αV x, αV y]) fun v => k v σ)) (isTwo l) : FR) k _
    cases hb : isTwo l with
    | false => exact Sm.gv (Dr _ _)
    | true =>
      obtain ⟨x, y, rfl⟩ := isTwo_eq hb
      exact Sm.gv (mnQ_sv false x y (fun v => k v σ) rfl)
  | maxI =>
    show Sm (Bool.rec (slV (Aq std .maxI (αL l)) fun v => k v σ) (k2L l fun x y => mnQ true x y (fun v => k v σ) (slV (Aq std .maxI [αV x, αV y]) fun v => k v σ)) (isTwo l) : FR) k _
    cases hb : isTwo l with
    | false => exact Sm.gv (Dr _ _)
    | true =>
      obtain ⟨x, y, rfl⟩ := isTwo_eq hb
      exact Sm.gv (mnQ_sv true x y (fun v => k v σ) rfl)
  | idxArr len size agg => exact Sm.gv (Dr _ _)
  | same => exact Sm.gv (Dr _ _)
  | capSl => exact Sm.gv (Dr _ _)
/-! What reads the memory. -/
def s2Q (x : FV) (σ : FH) (c : FV → FR) : FR := rowQ false 1 σ x fun _ R => kR (fun s => c (.s s)) (fun l => List.rec (motive := fun _ => FR) (c (.s 1)) (fun _ _ _ => .bad) l) (fun _ _ => slV (B1 std (αH σ) .sl2str [αV x]) c) R
theorem istr_unpI (s : Nat) : std.istr (B4 s) = unp s := by
  show (B4 s).map (fun n => UInt8.ofNat n.toNat) = unp s
  unfold B4
  rw [List.map_map]
  conv => rhs; rw [← List.map_id (unp s)]
  congr 1
  funext b
  simp
theorem s2Q_sv (x : FV) (σ : FH) (c : FV → FR) : Sv (s2Q x σ c) c (B1 std (αH σ) .sl2str [αV x]) := by
  intro h
  unfold s2Q at h ⊢
  obtain ⟨n, R, h1, h2⟩ := Gp h
  rw [h2] at h ⊢
  cases R with
  | bs s =>
    refine ⟨.s s, ?_, rfl⟩
    simp only [B1]
    rw [h1]
    simp only [αR, αV, istr_unpI, decide_true, Bool.and_true]
  | cells l =>
    cases l with
    | nil =>
      refine ⟨.s 1, ?_, rfl⟩
      simp only [B1]
      rw [h1]
      simp only [αR, αL, αV]
      rfl
    | cons _ _ => exact absurd rfl h
  | ints k l => exact Dr _ _ h
def lmQ (x : FV) (σ : FH) (c : FV → FR) : FR := FV.rec (motive_1 := fun _ => FR) (motive_2 := fun _ => FR) (fun _ _ => .bad) (fun _ _ => .bad) (fun _ => .bad) (fun _ => .bad) (fun _ _ => .bad) (fun _ _ _ _ _ _ => .bad) (fun b => gM σ b (kMp fun l => Bj l 0 fun n => c (.n .i64 n))) (fun _ => .bad) (fun _ _ _ _ _ => .bad) (fun _ _ _ => .bad) (fun _ _ => .bad) (fun _ => .bad) (fun _ _ => .bad) (fun _ _ => .bad) (fun j => Nl.rec (motive := fun _ => FR) .bad .bad .bad (c (.n .i64 0)) .bad .bad j) .bad (fun _ _ _ _ => .bad) x
theorem lmQ_sv (x : FV) (σ : FH) (c : FV → FR) : Sv (lmQ x σ c) c (B1 std (αH σ) .lenMap [αV x]) := by
  intro h
  cases x with
  | m b =>
    have h : gM σ b (kMp fun l => Bj l 0 fun n => c (.n .i64 n)) ≠ .bad := h
    show ∃ v, _ ∧ gM σ b (kMp fun l => Bj l 0 fun n => c (.n .i64 n)) = _
    obtain ⟨ob, _, h3, h4⟩ := Bz h
    rw [h4] at h ⊢
    obtain ⟨l, rfl, h5⟩ := Ea h
    rw [h5, Bv, Nat.zero_add]
    refine ⟨.n .i64 l.length, ?_, rfl⟩
    simp only [αV, B1, h3, αO, αP_map, List.length_map]
    rfl
  | o j =>
    cases j with
    | map => exact ⟨.n .i64 0, rfl, rfl⟩
    | _ => exact absurd rfl h
  | _ => exact absurd rfl h
def lkQ (sc : Bool) (ks : List CK) (co : Bool) (zero : FV) (m key : FV) (σ : FH) (c : FV → FR) : FR := FV.rec (motive_1 := fun _ => FR) (motive_2 := fun _ => FR) (fun _ _ => .bad) (fun _ _ => .bad) (fun _ => .bad) (fun _ => .bad) (fun _ _ => .bad) (fun _ _ _ _ _ _ => .bad) (fun b => gM σ b (kMp fun l => fdQ sc ks key l (fun _ v => Bool.rec (c v) (c (.tup [v, .b true])) co) (Bool.rec (c zero) (c (.tup [zero, .b false])) co))) (fun _ => .bad) (fun _ _ _ _ _ => .bad) (fun _ _ _ => .bad) (fun _ _ => .bad) (fun _ => .bad) (fun _ _ => .bad) (fun _ _ => .bad) (fun j => Nl.rec (motive := fun _ => FR) .bad .bad .bad (okQ sc ks key (Bool.rec (c zero) (c (.tup [zero, .b false])) co)) .bad .bad j) .bad (fun _ _ _ _ => .bad) m
theorem lkQ_sv (sc : Bool) (ks : List CK) (co : Bool) (zero : FV) (m key : FV) (σ : FH) (c : FV → FR) : Sv (lkQ sc ks co zero m key σ c) c (B1 std (αH σ) (.lookup sc ks co (αV zero)) [αV m, αV key]) := by
  intro h
  cases m with
  | m b =>
    have h : gM σ b (kMp fun l => fdQ sc ks key l (fun _ v => Bool.rec (c v) (c (.tup [v, .b true])) co) (Bool.rec (c zero) (c (.tup [zero, .b false])) co)) ≠ .bad := h
    show ∃ v, _ ∧ gM σ b (kMp fun l => fdQ sc ks key l (fun _ v => Bool.rec (c v) (c (.tup [v, .b true])) co) (Bool.rec (c zero) (c (.tup [zero, .b false])) co)) = _
    obtain ⟨ob, _, h3, h4⟩ := Bz h
    rw [h4] at h ⊢
    obtain ⟨l, rfl, h5⟩ := Ea h
    rw [h5] at h ⊢
    obtain ⟨r, h8, h9⟩ := Lv h
    rw [h9]
    simp only [αV, B1, h3, αO]
    rw [h8]
    cases r with
    | none => cases co <;> exact ⟨_, rfl, rfl⟩
    | some q => cases co <;> exact ⟨_, rfl, rfl⟩
  | o j =>
    cases j with
    | map =>
      obtain ⟨h6, h7⟩ := Ah (show gT (B0 std sc ks (αV key) (αV key)).1 (Bool.rec (c zero) (c (.tup [zero, .b false])) co) ≠ .bad from h)
      have h7 : lkQ sc ks co zero (.o .map) key σ c = Bool.rec (c zero) (c (.tup [zero, .b false])) co := h7
      rw [h7]
      simp only [αV, Nl.av, B1, h6]
      cases co <;> exact ⟨_, rfl, rfl⟩
    | _ => exact absurd rfl h
  | _ => exact absurd rfl h
def lkG (sc : Bool) (ks : List CK) (co : Bool) (zero : FV) (m key : FV) (σ : FH) (k : KV) : FR := lkQ sc ks co zero m key σ fun v => k v σ
def lQ : LOp → List FV → FH → KV → FR
  | .sl2str => fun l σ k => k1L l fun x => s2Q x σ fun v => k v σ
  | .lenMap => fun l σ k => k1L l fun x => lmQ x σ fun v => k v σ
  | .lookup sc ks co z => fun l σ k => k2L l fun m key => lkQ sc ks co (βV z) m key σ fun v => k v σ
theorem lQ_sm (x : LOp) (l : List FV) (σ : FH) (k : KV) : Sm (lQ x l σ k) k (match B1 std (αH σ) x (αL l) with | (ok, v) => (ok, v, αH σ)) := by
  cases x with
  | sl2str =>
    intro h
    obtain ⟨x, rfl, h2⟩ := Cp (show k1L l (fun x => s2Q x σ fun v => k v σ) ≠ .bad from h)
    show ∃ v σ', _ ∧ k1L [x] (fun x => s2Q x σ fun v => k v σ) = _
    rw [h2]; exact Sm.gv (s2Q_sv x σ fun v => k v σ) (by rw [← h2]; exact h)
  | lenMap =>
    intro h
    obtain ⟨x, rfl, h2⟩ := Cp (show k1L l (fun x => lmQ x σ fun v => k v σ) ≠ .bad from h)
    show ∃ v σ', _ ∧ k1L [x] (fun x => lmQ x σ fun v => k v σ) = _
    rw [h2]; exact Sm.gv (lmQ_sv x σ fun v => k v σ) (by rw [← h2]; exact h)
  | lookup sc ks co z =>
    intro h
    have h : (k2L l fun m key => lkQ sc ks co (βV z) m key σ fun v => k v σ) ≠ .bad := h
    show ∃ v σ', _ ∧ (k2L l fun m key => lkQ sc ks co (βV z) m key σ fun v => k v σ) = _
    obtain ⟨m, key, rfl, h2⟩ := B7 h
    rw [h2] at h ⊢
    have := lkQ_sv sc ks co (βV z) m key σ fun v => k v σ
    rw [αβ] at this
    exact Sm.gv this h
/-! New blocks. -/
def slN (r : Bool × (Nat → AV) × AObj) (σ : FH) (k : KV) : FR := Prod.rec (fun ok q => Prod.rec (fun v o => gT ok (fO (βO o) fun o => nM σ o fun b σ => fV (βV (v b)) fun w => k w σ)) q) r
theorem slN_sm (r : Bool × (Nat → AV) × AObj) (σ : FH) (k : KV) : Sm (slN r σ k) k (match r with | (ok, v, o) => (ok && Nat.blt (αH σ).next 1000000, v (αH σ).next, (αH σ).new o)) := by
  obtain ⟨ok, v, o⟩ := r
  intro h
  have h : gT ok (fO (βO o) fun o => nM σ o fun b σ => fV (βV (v b)) fun w => k w σ) ≠ .bad := h
  show ∃ w σ', _ ∧ gT ok (fO (βO o) fun o => nM σ o fun b σ => fV (βV (v b)) fun w => k w σ) = _
  obtain ⟨rfl, h2⟩ := Ah h
  rw [h2, Gf] at h ⊢
  obtain ⟨h3, σ', h4, h5⟩ := Dp h
  rw [h5, Ge]
  refine ⟨βV (v σ.next), σ', ?_, rfl⟩
  dsimp only
  rw [αβ, h4, αβO, h3]; rfl
def onF (l : List FV) (r s : FR) : FR := List.rec r (fun v _ ih => kC ih (fun _ => s) s v) l
theorem onF_cases : ∀ (l : List FV) (r s : FR), ((αL l).all (fun a => a.known && Nat.beq a.cells.length 1) = true ∧ (αL l).flatMap AV.cells = αL l ∧ onF l r s = r) ∨ onF l r s = s
  | [], r, s => .inl ⟨rfl, rfl, rfl⟩
  | v :: l, r, s => by
    show (_ ∧ _ ∧ kC (onF l r s) (fun _ => s) s v = r) ∨ kC (onF l r s) (fun _ => s) s v = s
    rcases kC_cases (onF l r s) (fun _ => s) s v with ⟨h1, h2⟩ | ⟨_, _, h2⟩ | h2
    · rw [h2]
      obtain ⟨s1, _, s3, _⟩ := Jv h1
      rcases onF_cases l r s with ⟨h3, h4, h5⟩ | h5
      · refine .inl ⟨?_, ?_, h5⟩
        · simp only [αL, List.all_cons, s1, s3, h3]; rfl
        · simp only [αL, List.flatMap_cons, s3, h4]; rfl
      · exact .inr h5
    · rw [h2]; exact .inr rfl
    · rw [h2]; exact .inr rfl
def bsQ (e : TypeId) (size n : Nat) (l : List FV) (σ : FH) (k : KV) : FR := Bool.rec (slN (Bl std (.bslice e size n) (αL l)) σ k) (onF l (Bj l 0 fun q => gT (Nat.beq q n) (ofQ l e .exact fun o => nM σ o fun b σ => k (.sl b 0 n n true 1) σ)) (slN (Bl std (.bslice e size n) (αL l)) σ k)) (Nat.beq size 1)
theorem bsQ_sm (e : TypeId) (size n : Nat) (l : List FV) (σ : FH) (k : KV) : Sm (bsQ e size n l σ k) k (match Bl std (.bslice e size n) (αL l) with | (ok, v, o) => (ok && Nat.blt (αH σ).next 1000000, v (αH σ).next, (αH σ).new o)) := by
  unfold bsQ
  cases hs : Nat.beq size 1 with
  | false => exact slN_sm _ _ _
  | true =>
    have hs := Nat.eq_of_beq_eq_true hs
    subst hs
    show Sm (onF l (Bj l 0 fun q => gT (Nat.beq q n) (ofQ l e .exact fun o => nM σ o fun b σ => k (.sl b 0 n n true 1) σ)) (slN (Bl std (.bslice e 1 n) (αL l)) σ k)) k _
    rcases onF_cases l (Bj l 0 fun q => gT (Nat.beq q n) (ofQ l e .exact fun o => nM σ o fun b σ => k (.sl b 0 n n true 1) σ)) (slN (Bl std (.bslice e 1 n) (αL l)) σ k) with ⟨h1, h2, h3⟩ | h3
    · rw [h3]
      intro h
      rw [Bv, Nat.zero_add] at h ⊢
      obtain ⟨g1, g2⟩ := Ah h
      rw [g2] at h ⊢
      obtain ⟨o, g3, g4⟩ := ofQ_of l e .exact fun o => nM σ o fun b σ => k (.sl b 0 n n true 1) σ
      rw [g4] at h ⊢
      obtain ⟨g5, σ', g6, g7⟩ := Dp h
      rw [g7]
      refine ⟨.sl σ.next 0 n n true 1, σ', ?_, rfl⟩
      simp only [Bl]
      rw [h2, h1, αL_length, Nat.mul_one, g1, ← g3, g6, g5]; rfl
    · rw [h3]; exact slN_sm _ _ _
def ssQ (e : TypeId) (x : FV) (σ : FH) (k : KV) : FR := kS (fun s => nM σ (.bs s e .exact) fun b σ => fN (bl s) fun n => k (.sl b 0 n n false 1) σ) x
theorem ssQ_sm (e : TypeId) (x : FV) (σ : FH) (k : KV) : Sm (ssQ e x σ k) k (match Bl std (.str2sl e) [αV x] with | (ok, v, o) => (ok && Nat.blt (αH σ).next 1000000, v (αH σ).next, (αH σ).new o)) := by
  intro h
  unfold ssQ at h ⊢
  obtain ⟨s, rfl, h1⟩ := C2 h
  rw [h1] at h ⊢
  obtain ⟨h2, σ', h3, h4⟩ := Dp h
  rw [h4, Aj]
  refine ⟨.sl σ.next 0 (bl s) (bl s) false 1, σ', ?_, rfl⟩
  simp only [αV, Bl]
  rw [h2, h3]
  simp only [std, B8]
  rfl
def zbQ (zero : List AV) : Bool := match zero with
  | [.int .u8 (.ofNat 0)] => true
  | _ => false
theorem zbQ_eq {zero : List AV} (h : zbQ zero = true) : zero = [.int .u8 0] := by
  unfold zbQ at h
  split at h
  · rfl
  · cases h
def msQ (e : TypeId) (size : Nat) (zero : List AV) (l : List FV) (σ : FH) (k : KV) : FR := Bool.rec (slN (Bl std (.makeSl e size zero) (αL l)) σ k) (k2L l fun n c => kNn (fun _ n => kNn (fun _ c => gT (Nat.ble n c) (gT (Nat.ble c 1000000) (fN (Bh c) fun z => nM σ (.bs z e .exact) fun b σ => k (.sl b 0 n c true size) σ))) c) n) (zbQ zero)
theorem msQ_sm (e : TypeId) (size : Nat) (zero : List AV) (l : List FV) (σ : FH) (k : KV) : Sm (msQ e size zero l σ k) k (match Bl std (.makeSl e size zero) (αL l) with | (ok, v, o) => (ok && Nat.blt (αH σ).next 1000000, v (αH σ).next, (αH σ).new o)) := by
  unfold msQ
  cases hz : zbQ zero with
  | false => exact slN_sm _ _ _
  | true =>
    have hz := zbQ_eq hz
    subst hz
    intro h
    have h : (k2L l fun n c => kNn (fun _ n => kNn (fun _ c => gT (Nat.ble n c) (gT (Nat.ble c 1000000) (fN (Bh c) fun z => nM σ (.bs z e .exact) fun b σ => k (.sl b 0 n c true size) σ))) c) n) ≠ .bad := h
    show ∃ v σ', _ ∧ (k2L l fun n c => kNn (fun _ n => kNn (fun _ c => gT (Nat.ble n c) (gT (Nat.ble c 1000000) (fN (Bh c) fun z => nM σ (.bs z e .exact) fun b σ => k (.sl b 0 n c true size) σ))) c) n) = _
    obtain ⟨x, y, rfl, h2⟩ := B7 h
    rw [h2] at h ⊢
    obtain ⟨_, n, rfl, h3⟩ := Dv h
    rw [h3] at h ⊢
    obtain ⟨_, c, rfl, h4⟩ := Dv h
    rw [h4] at h ⊢
    obtain ⟨g1, g2⟩ := Ah h
    rw [g2] at h ⊢
    obtain ⟨g3, g4⟩ := Ah h
    rw [g4, Aj] at h ⊢
    obtain ⟨g5, σ', g6, g7⟩ := Dp h
    rw [g7]
    refine ⟨.sl σ.next 0 n c true size, σ', ?_, rfl⟩
    simp only [αL, αV, Bl]
    rw [g5]
    have e1 : (std.le 0 (Int.ofNat n) && std.le (Int.ofNat n) (Int.ofNat c) && std.leN (std.ton (Int.ofNat c)) 1000000) = true := by
      show (decide ((0 : Int) ≤ Int.ofNat n) && decide (Int.ofNat n ≤ Int.ofNat c) && Nat.ble c 1000000) = true
      rw [dec0, (cb_leq n c).1, g1, g3]; rfl
    rw [e1, g6]
    simp only [Bool.and_self, Prod.mk.injEq, true_and]
    refine ⟨rfl, ?_⟩
    congr 1
    show Df std c e [.int .u8 0] = .ints .u8 (B4 (Bh c)) e .exact
    rw [(unpI_zero c).1]
    rfl
def mmQ (l : List FV) (σ : FH) (k : KV) : FR := List.rec (motive := fun _ => FR) (nM σ (.map []) fun b σ => k (.m b) σ) (fun _ _ _ => slN (Bl std .makeMap (αL l)) σ k) l
theorem mmQ_sm (l : List FV) (σ : FH) (k : KV) : Sm (mmQ l σ k) k (match Bl std .makeMap (αL l) with | (ok, v, o) => (ok && Nat.blt (αH σ).next 1000000, v (αH σ).next, (αH σ).new o)) := by
  cases l with
  | cons _ _ => exact slN_sm _ _ _
  | nil =>
    intro h
    have h : (nM σ (.map []) fun b σ => k (.m b) σ) ≠ .bad := h
    show ∃ v σ', _ ∧ (nM σ (.map []) fun b σ => k (.m b) σ) = _
    obtain ⟨h2, σ', h3, h4⟩ := Dp h
    rw [h4]
    refine ⟨.m σ.next, σ', ?_, rfl⟩
    simp only [αL, Bl]
    rw [h2, h3]; rfl
def nQ : NOp → List FV → FH → KV → FR
  | .bslice e size n => bsQ e size n
  | .str2sl e => fun l σ k => k1L l fun x => ssQ e x σ k
  | .makeSl e size zero => msQ e size zero
  | .makeMap => mmQ
theorem nQ_sm (x : NOp) (l : List FV) (σ : FH) (k : KV) : Sm (nQ x l σ k) k (match Bl std x (αL l) with | (ok, v, o) => (ok && Nat.blt (αH σ).next 1000000, v (αH σ).next, (αH σ).new o)) := by
  cases x with
  | bslice e size n => exact bsQ_sm e size n l σ k
  | str2sl e =>
    intro h
    obtain ⟨x, rfl, h2⟩ := Cp (show k1L l (fun x => ssQ e x σ k) ≠ .bad from h)
    show ∃ v σ', _ ∧ k1L [x] (fun x => ssQ e x σ k) = _
    rw [h2]; exact ssQ_sm e x σ k (by rw [← h2]; exact h)
  | makeSl e size zero => exact msQ_sm e size zero l σ k
  | makeMap => exact mmQ_sm l σ k
end
end Go.Proofs.YtjoakhpdajlhiaaGreatDoor.V2
namespace Go.Proofs.YtjoakhpdajlhiaaGreatDoor.V2
open Go
noncomputable section
abbrev HF := List FV → FH → KV → FR
inductive Phi where
  | no
  | mk (fn : FuncId → HF) (yl : Nat → HF) (up : Nat → HF → Phi)
def Phi.fn (Φ : Phi) : FuncId → HF := Phi.rec (motive := fun _ => FuncId → HF) (fun _ _ _ _ => .bad) (fun f _ _ _ => f) Φ
def Phi.yl (Φ : Phi) : Nat → HF := Phi.rec (motive := fun _ => Nat → HF) (fun _ _ _ _ => .bad) (fun _ y _ _ => y) Φ
def Phi.up (Φ : Phi) : Nat → HF → Phi := Phi.rec (motive := fun _ => Nat → HF → Phi) (fun _ _ => .no) (fun _ _ u _ => u) Φ
def Phi.bare (Φ : Phi) : Phi := Phi.rec (motive := fun _ => Phi) .no (fun f y _ _ => .mk f y (fun _ _ => .no)) Φ
def HOk (H : HF) (h : List AV → AH → Out) : Prop := ∀ l σ k, Sm (H l σ k) k (h (αL l) (αH σ))
inductive PhiOk : Phi → Gam → Prop where
  | no {Γ : Gam} : PhiOk .no Γ
  | mk {Γ : Gam} {fn : FuncId → HF} {yl : Nat → HF} {up : Nat → HF → Phi} (hf : ∀ f, HOk (fn f) (Γ.fn f)) (hy : ∀ b, HOk (yl b) (Γ.yl b)) (hu : ∀ l h H, HOk H h → PhiOk (up l H) (Γ.up l h)) : PhiOk (.mk fn yl up) Γ
theorem PhiOk.fn {Φ : Phi} {Γ : Gam} (h : PhiOk Φ Γ) (f : FuncId) : HOk (Φ.fn f) (Γ.fn f) := by
  cases h with
  | no => exact fun l σ k => Sm.bad
  | mk hf => exact hf f
theorem PhiOk.yl {Φ : Phi} {Γ : Gam} (h : PhiOk Φ Γ) (b : Nat) : HOk (Φ.yl b) (Γ.yl b) := by
  cases h with
  | no => exact fun l σ k => Sm.bad
  | mk _ hy => exact hy b
theorem PhiOk.up {Φ : Phi} {Γ : Gam} (h : PhiOk Φ Γ) {l : Nat} {g : List AV → AH → Out} {H : HF} (hH : HOk H g) : PhiOk (Φ.up l H) (Γ.up l g) := by
  cases h with
  | no => exact .no
  | mk _ _ hu => exact hu l g H hH
theorem PhiOk.bare {Φ : Phi} {Γ : Gam} (h : PhiOk Φ Γ) : PhiOk Φ.bare Γ.bare := by
  cases h with
  | no => exact .no
  | mk hf hy hu =>
    refine .mk (fun f => ?_) (fun b => ?_) (fun _ _ _ _ => .no)
    · rw [Gam.bare_fn]; exact hf f
    · rw [Gam.bare_yl]; exact hy b
abbrev Opc := Phi → E → FH → KV → FR
def RdOk (rd : Ref → Rd) (e : E) (ev : Ref → AV) : Prop := ∀ r k, rd r e k ≠ .bad → ∃ v, ev r = αV v ∧ rd r e k = k v
def rdsK (l : List Rd) (e : E) (k : List FV → FR) : FR := List.rec (motive := fun _ => (List FV → FR) → FR) (fun k => k []) (fun r _ ih k => r e fun v => ih fun l => k (v :: l)) l k
def rdO (x : Option Rd) (e : E) (k : Option FV → FR) : FR := Option.rec (k none) (fun r => r e fun v => k (some v)) x
theorem RdOk.list {rd : Ref → Rd} {e : E} {ev : Ref → AV} (h : RdOk rd e ev) : ∀ (l : List Ref) (k : List FV → FR), rdsK (l.map rd) e k ≠ .bad → ∃ vs, l.map ev = αL vs ∧ rdsK (l.map rd) e k = k vs
  | [], k, _ => ⟨[], rfl, rfl⟩
  | r :: l, k, hk => by
    have hk : (rd r e fun v => rdsK (l.map rd) e fun l => k (v :: l)) ≠ .bad := hk
    obtain ⟨v, h1, h2⟩ := h r _ hk
    rw [h2] at hk
    obtain ⟨vs, h3, h4⟩ := h.list l _ hk
    exact ⟨v :: vs, by rw [List.map_cons, h1, h3]; rfl, by show (rd r e fun v => rdsK (l.map rd) e fun l => k (v :: l)) = _; rw [h2]; exact h4⟩
theorem RdOk.opt {rd : Ref → Rd} {e : E} {ev : Ref → AV} (h : RdOk rd e ev) (x : Option Ref) (k : Option FV → FR) (hk : rdO (x.map rd) e k ≠ .bad) : ∃ v, x.map ev = v.map αV ∧ rdO (x.map rd) e k = k v := by
  cases x with
  | none => exact ⟨none, rfl, rfl⟩
  | some r =>
    have hk : (rd r e fun v => k (some v)) ≠ .bad := hk
    obtain ⟨v, h1, h2⟩ := h r _ hk
    exact ⟨some v, by rw [Option.map_some, h1]; rfl, h2⟩
/-! How operations are put together. -/
def oV (x : Rd) : Opc := fun _ e σ k => x e fun v => k v σ
def o1 (f : FV → (FV → FR) → FR) (x : Rd) : Opc := fun _ e σ k => x e fun a => f a fun v => k v σ
def o2 (f : FV → FV → (FV → FR) → FR) (x y : Rd) : Opc := fun _ e σ k => x e fun a => y e fun b => f a b fun v => k v σ
def o3 (f : FV → FV → FV → (FV → FR) → FR) (x y z : Rd) : Opc := fun _ e σ k => x e fun a => y e fun b => z e fun c => f a b c fun v => k v σ
def m1 (f : FV → FH → (FV → FR) → FR) (x : Rd) : Opc := fun _ e σ k => x e fun a => f a σ fun v => k v σ
def n0 (o : FObj) : Opc := fun _ _ σ k => alF o σ k
def n1 (f : FV → FH → KV → FR) (x : Rd) : Opc := fun _ e σ k => x e fun a => f a σ k
def n2 (f : FV → FV → FH → KV → FR) (x y : Rd) : Opc := fun _ e σ k => x e fun a => y e fun b => f a b σ k
def n3 (f : FV → FV → FV → FH → KV → FR) (x y z : Rd) : Opc := fun _ e σ k => x e fun a => y e fun b => z e fun c => f a b c σ k
def nL (f : List FV → FH → KV → FR) (l : List Rd) : Opc := fun _ e σ k => rdsK l e fun l => f l σ k
def oSs (x : Rd) (lo hi : Option Rd) : Opc := fun _ e σ k => x e fun x => rdO lo e fun lo => rdO hi e fun hi => ssF x lo hi fun v => k v σ
def oSv (size : Nat) (x : Rd) (lo hi mx : Option Rd) : Opc := fun _ e σ k => x e fun x => rdO lo e fun lo => rdO hi e fun hi => rdO mx e fun mx => svF size x lo hi mx fun v => k v σ
def oSa (len size : Nat) (x : Rd) (lo hi mx : Option Rd) : Opc := fun _ e σ k => x e fun x => rdO lo e fun lo => rdO hi e fun hi => rdO mx e fun mx => saF len size x lo hi mx σ fun v => k v σ
def oBad : Opc := fun _ _ _ _ => .bad
def miF (t : TypeId) (x : FV) (c : FV → FR) : FR := c (.ifc t x)
def exG (n : Nat) (x : FV) (c : FV → FR) : FR := exF x n c
def unG (op : UnOp) (x : FV) (c : FV → FR) : FR := slV (unI std op (αV x)) c
def bop : BinOp → FV → FV → (FV → FR) → FR
  | .add => bAdd
  | .sub => bSub
  | .mul => bMul
  | .quo => bQuo
  | .rem => bRem
  | .and => bAnd
  | .or => bOr
  | .xor => bXor
  | .shl => bShl
  | .shr => bShr
  | .andNot => bAndNot
  | .eql => bEql
  | .neq => bNeq
  | .lss => bLss
  | .leq => bLeq
  | .gtr => bGtr
  | .geq => bGeq
theorem bop_sv (op : BinOp) (x y : FV) (c : FV → FR) (σ : AH) : Sv (bop op x y c) c ((Bq std op (αV x) (αV y) σ).1, (Bq std op (αV x) (αV y) σ).2.1) := by
  cases op
  · exact bAdd_sv x y c σ
  · exact bSub_sv x y c σ
  · exact bMul_sv x y c σ
  · exact bQuo_sv x y c σ
  · exact bRem_sv x y c σ
  · exact bAnd_sv x y c σ
  · exact bOr_sv x y c σ
  · exact bXor_sv x y c σ
  · exact bShl_sv x y c σ
  · exact bShr_sv x y c σ
  · exact bAndNot_sv x y c σ
  · exact bEql_sv x y c σ
  · exact bNeq_sv x y c σ
  · exact bLss_sv x y c σ
  · exact bLeq_sv x y c σ
  · exact bGtr_sv x y c σ
  · exact bGeq_sv x y c σ
theorem oBin_mem (op : BinOp) (x y : AV) (σ : AH) : Bq std op x y σ = ((Bq std op x y σ).1, (Bq std op x y σ).2.1, σ) := by
  unfold Bq
  cases x <;> try rfl
  · cases y <;> rfl
  · cases y <;> rfl
theorem oLoad1_mem (x : AV) (σ : AH) : De std x σ = ((De std x σ).1, (De std x σ).2.1, σ) := by
  unfold De
  cases x <;> try rfl
  dsimp only
  split <;> rfl
theorem oLoadN_mem (n : Nat) (x : AV) (σ : AH) : Dd std n x σ = ((Dd std n x σ).1, (Dd std n x σ).2.1, σ) := by
  unfold Dd
  cases x <;> try rfl
  dsimp only
  split <;> rfl
def thrA (rd : Ref → Rd) : AOp → Opc
  | .mov x => oV (rd x)
  | .pick c a b => o3 pkF (rd c) (rd a) (rd b)
  | .bin op x y => o2 (bop op) (rd x) (rd y)
  | .un op x => match op with
    | .not => o1 Mp (rd x)
    | op => o1 (unG op) (rd x)
  | .conv k x => o1 (cvF k) (rd x)
  | .alloc e l => n0 (βO (AObj.of l e .exact))
  | .box e x => n1 (bxF e) (rd x)
  | .load1 x => m1 ldF (rd x)
  | .loadN n x => m1 (lnF n) (rd x)
  | .store n p x => n2 (stF n) (rd p) (rd x)
  | .fieldAddr off x => o1 (faF off) (rd x)
  | .idxArr len size x i => o2 (iaF len size) (rd x) (rd i)
  | .idxSl size x i => o2 (isF size) (rd x) (rd i)
  | .slStr x lo hi => oSs (rd x) (lo.map rd) (hi.map rd)
  | .slSl size x lo hi mx => oSv size (rd x) (lo.map rd) (hi.map rd) (mx.map rd)
  | .slArr len size x lo hi mx => oSa len size (rd x) (lo.map rd) (hi.map rd) (mx.map rd)
  | .extract x k => o1 (exG k) (rd x)
  | .mkIface t x => o1 (miF t) (rd x)
  | .nilCheck x => o1 ncF (rd x)
  | .lenStr x => o1 lsF (rd x)
  | .lenSl x => o1 lvF (rd x)
  | .ext x args => nL (xQ x) (args.map rd)
  | .pur x args => nL (pQ x) (args.map rd)
  | .rd x args => nL (lQ x) (args.map rd)
  | .mk x args => nL (nQ x) (args.map rd)
  | .badop => oBad
theorem I2 {rd : Ref → Rd} {e : E} {ev : Ref → AV} (hr : RdOk rd e ev) {f : FV → (FV → FR) → FR} {x : Ref} {g : AV → AH → Out} (hf : ∀ v σ k, Sm (f v fun w => k w σ) k (g (αV v) (αH σ))) (Φ : Phi) (σ : FH) (k : KV) : Sm (o1 f (rd x) Φ e σ k) k (g (ev x) (αH σ)) := by
  intro h
  obtain ⟨v, h1, h2⟩ := hr x _ h
  rw [h1]
  have h' : (f v fun w => k w σ) ≠ .bad := by rw [← h2]; exact h
  obtain ⟨w, σ', h3, h4⟩ := hf v σ k h'
  exact ⟨w, σ', h3, h2.trans h4⟩
theorem n1_ok {rd : Ref → Rd} {e : E} {ev : Ref → AV} (hr : RdOk rd e ev) {f : FV → FH → KV → FR} {x : Ref} {g : AV → AH → Out} (hf : ∀ v σ k, Sm (f v σ k) k (g (αV v) (αH σ))) (Φ : Phi) (σ : FH) (k : KV) : Sm (n1 f (rd x) Φ e σ k) k (g (ev x) (αH σ)) := by
  intro h
  obtain ⟨v, h1, h2⟩ := hr x _ h
  rw [h1]
  have h' : f v σ k ≠ .bad := by rw [← h2]; exact h
  obtain ⟨w, σ', h3, h4⟩ := hf v σ k h'
  exact ⟨w, σ', h3, h2.trans h4⟩
theorem n2_ok {rd : Ref → Rd} {e : E} {ev : Ref → AV} (hr : RdOk rd e ev) {f : FV → FV → FH → KV → FR} {x y : Ref} {g : AV → AV → AH → Out} (hf : ∀ v w σ k, Sm (f v w σ k) k (g (αV v) (αV w) (αH σ))) (Φ : Phi) (σ : FH) (k : KV) : Sm (n2 f (rd x) (rd y) Φ e σ k) k (g (ev x) (ev y) (αH σ)) := by
  intro h
  obtain ⟨v, h1, h2⟩ := hr x _ h
  have hy : (rd y e fun b => f v b σ k) ≠ .bad := by rw [← h2]; exact h
  obtain ⟨w, h3, h4⟩ := hr y _ hy
  rw [h1, h3]
  have h' : f v w σ k ≠ .bad := by rw [← h4]; exact hy
  obtain ⟨u, σ', h5, h6⟩ := hf v w σ k h'
  exact ⟨u, σ', h5, (h2.trans h4).trans h6⟩
theorem nL_ok {rd : Ref → Rd} {e : E} {ev : Ref → AV} (hr : RdOk rd e ev) {f : List FV → FH → KV → FR} {l : List Ref} {g : List AV → AH → Out} (hf : ∀ l σ k, Sm (f l σ k) k (g (αL l) (αH σ))) (Φ : Phi) (σ : FH) (k : KV) : Sm (nL f (l.map rd) Φ e σ k) k (g (l.map ev) (αH σ)) := by
  intro h
  obtain ⟨vs, h1, h2⟩ := hr.list l _ h
  rw [h1]
  have h' : f vs σ k ≠ .bad := by rw [← h2]; exact h
  obtain ⟨w, σ', h3, h4⟩ := hf vs σ k h'
  exact ⟨w, σ', h3, h2.trans h4⟩
theorem thrA_ok {rd : Ref → Rd} {e : E} {ev : Ref → AV} (hr : RdOk rd e ev) (a : AOp) (Φ : Phi) (σ : FH) (k : KV) : Sm (thrA rd a Φ e σ k) k (step std ev (αH σ) a) := by
  cases a with
  | mov x => exact I2 (f := fun v c => c v) (g := fun v s => (true, v, s)) hr (fun v σ k _ => ⟨v, σ, rfl, rfl⟩) Φ σ k
  | pick c a b =>
    intro h
    have h : (rd c e fun x => rd a e fun y => rd b e fun z => pkF x y z fun v => k v σ) ≠ .bad := h
    show ∃ v σ', _ ∧ (rd c e fun x => rd a e fun y => rd b e fun z => pkF x y z fun v => k v σ) = _
    obtain ⟨x, h1, h2⟩ := hr c _ h
    rw [h2] at h ⊢
    obtain ⟨y, h3, h4⟩ := hr a _ h
    rw [h4] at h ⊢
    obtain ⟨z, h5, h6⟩ := hr b _ h
    rw [h6] at h ⊢
    simp only [step]
    rw [h1, h3, h5]
    exact pkF_sm x y z σ k h
  | bin op x y => exact n2_ok (f := fun a b σ k => bop op a b fun v => k v σ) (g := fun a b s => Bq std op a b s) hr (fun v w σ k => by rw [oBin_mem]; exact Sm.ofv (bop_sv op v w (fun v => k v σ) (αH σ))) Φ σ k
  | un op x =>
    have slow : ∀ op, Sm (o1 (unG op) (rd x) Φ e σ k) k (step std ev (αH σ) (.un op x)) := fun op => I2 (g := fun v s => ((unI std op v).1, (unI std op v).2, s)) hr (fun v σ k => Sm.ofv (Dr _ _)) Φ σ k
    cases op with
    | not => exact I2 (g := fun v s => ((unI std .not v).1, (unI std .not v).2, s)) hr (fun v σ k => notF_sm v σ k) Φ σ k
    | neg => exact slow _
    | xor => exact slow _
    | plus => exact slow _
  | conv kk x => exact I2 (f := cvF kk) (g := fun v s => match v with | .int _ n => (true, .int kk (wr kk n), s) | _ => bad s) hr (fun v σ k => cvF_sm kk v σ k) Φ σ k
  | alloc e' l =>
    have h := alF_sm (βO (AObj.of l e' .exact)) σ k
    rw [αβO] at h; exact h
  | box e' x => exact n1_ok (f := bxF e') (g := fun v s => (Nat.blt s.next 1000000, .ptr s.next 0, s.new (L3 v e'))) hr (fun v σ k => bxF_sm e' v σ k) Φ σ k
  | load1 x => exact n1_ok (f := fun v σ k => ldF v σ fun w => k w σ) (g := fun v s => De std v s) hr (fun v σ k => by rw [oLoad1_mem]; exact Sm.ofv (ldF_sv v σ fun w => k w σ)) Φ σ k
  | loadN n x => exact n1_ok (f := fun v σ k => lnF n v σ fun w => k w σ) (g := fun v s => Dd std n v s) hr (fun v σ k => by rw [oLoadN_mem]; exact Sm.ofv (lnF_sv n v σ fun w => k w σ)) Φ σ k
  | store n p x => exact n2_ok (f := stF n) (g := fun a b s => Ld std n a b s) hr (fun v w σ k => stF_sm n v w σ k) Φ σ k
  | fieldAddr off x => exact I2 (f := faF off) (g := fun v s => match v with | .ptr b o => (true, .ptr b (o + off), s) | _ => bad s) hr (fun v σ k => faF_sm off v σ k) Φ σ k
  | idxArr len size x i => exact n2_ok (f := fun a b σ k => iaF len size a b fun v => k v σ) (g := fun a b s => Ij std len size a b s) hr (fun v w σ k => iaF_sm len size v w σ k) Φ σ k
  | idxSl size x i => exact n2_ok (f := fun a b σ k => isF size a b fun v => k v σ) (g := fun a b s => Lh std size a b s) hr (fun v w σ k => isF_sm size v w σ k) Φ σ k
  | slStr x lo hi =>
    intro h
    have h : (rd x e fun x => rdO (lo.map rd) e fun lo => rdO (hi.map rd) e fun hi => ssF x lo hi fun v => k v σ) ≠ .bad := h
    show ∃ v σ', _ ∧ (rd x e fun x => rdO (lo.map rd) e fun lo => rdO (hi.map rd) e fun hi => ssF x lo hi fun v => k v σ) = _
    obtain ⟨x', h1, h2⟩ := hr x _ h
    rw [h2] at h ⊢
    obtain ⟨y, h3, h4⟩ := hr.opt lo _ h
    rw [h4] at h ⊢
    obtain ⟨z, h5, h6⟩ := hr.opt hi _ h
    rw [h6] at h ⊢
    simp only [step]
    rw [h1, h3, h5]
    exact ssF_sm x' y z σ k h
  | slSl size x lo hi mx =>
    intro h
    have h : (rd x e fun x => rdO (lo.map rd) e fun lo => rdO (hi.map rd) e fun hi => rdO (mx.map rd) e fun mx => svF size x lo hi mx fun v => k v σ) ≠ .bad := h
    show ∃ v σ', _ ∧ (rd x e fun x => rdO (lo.map rd) e fun lo => rdO (hi.map rd) e fun hi => rdO (mx.map rd) e fun mx => svF size x lo hi mx fun v => k v σ) = _
    obtain ⟨x', h1, h2⟩ := hr x _ h
    rw [h2] at h ⊢
    obtain ⟨y, h3, h4⟩ := hr.opt lo _ h
    rw [h4] at h ⊢
    obtain ⟨z, h5, h6⟩ := hr.opt hi _ h
    rw [h6] at h ⊢
    obtain ⟨w, h7, h8⟩ := hr.opt mx _ h
    rw [h8] at h ⊢
    simp only [step]
    rw [h1, h3, h5, h7]
    exact svF_sm size x' y z w σ k h
  | slArr len size x lo hi mx =>
    intro h
    have h : (rd x e fun x => rdO (lo.map rd) e fun lo => rdO (hi.map rd) e fun hi => rdO (mx.map rd) e fun mx => saF len size x lo hi mx σ fun v => k v σ) ≠ .bad := h
    show ∃ v σ', _ ∧ (rd x e fun x => rdO (lo.map rd) e fun lo => rdO (hi.map rd) e fun hi => rdO (mx.map rd) e fun mx => saF len size x lo hi mx σ fun v => k v σ) = _
    obtain ⟨x', h1, h2⟩ := hr x _ h
    rw [h2] at h ⊢
    obtain ⟨y, h3, h4⟩ := hr.opt lo _ h
    rw [h4] at h ⊢
    obtain ⟨z, h5, h6⟩ := hr.opt hi _ h
    rw [h6] at h ⊢
    obtain ⟨w, h7, h8⟩ := hr.opt mx _ h
    rw [h8] at h ⊢
    simp only [step]
    rw [h1, h3, h5, h7]
    exact saF_sm len size x' y z w σ k h
  | extract x n => exact I2 (f := exG n) (g := fun v s => match v with | .tup l => (Nat.blt n l.length, l.getD n .top, s) | _ => bad s) hr (fun v σ k => exF_sm v n σ k) Φ σ k
  | mkIface t x => exact I2 (f := miF t) (g := fun v s => (true, .ifc t v, s)) hr (fun v σ k _ => ⟨.ifc t v, σ, rfl, rfl⟩) Φ σ k
  | nilCheck x => exact I2 (f := ncF) (g := fun v s => match v with | .ptr b o => (true, .ptr b o, s) | .fn (.func f) first cap => (true, .fn (.func f) first cap, s) | _ => bad s) hr (fun v σ k => ncF_sm v σ k) Φ σ k
  | lenStr x => exact I2 (f := lsF) (g := fun v s => match v with | .str l => (true, .int .i64 (std.slen l), s) | _ => bad s) hr (fun v σ k => lsF_sm v σ k) Φ σ k
  | lenSl x => exact I2 (f := lvF) (g := fun v s => match v with | .sl _ _ n _ _ _ => (true, .int .i64 n, s) | .nilsl => (true, .int .i64 0, s) | _ => bad s) hr (fun v σ k => lvF_sm v σ k) Φ σ k
  | ext x args => exact nL_ok (f := xQ x) (g := fun l s => Bf std s x l) hr (fun l σ k => xQ_sm x l σ k) Φ σ k
  | pur x args => exact nL_ok (f := pQ x) (g := fun l s => match Aq std x l with | (ok, v) => (ok, v, s)) hr (fun l σ k => pQ_sm x l σ k) Φ σ k
  | rd x args => exact nL_ok (f := lQ x) (g := fun l s => match B1 std s x l with | (ok, v) => (ok, v, s)) hr (fun l σ k => lQ_sm x l σ k) Φ σ k
  | mk x args => exact nL_ok (f := nQ x) (g := fun l s => match Bl std x l with | (ok, v, o) => (ok && Nat.blt s.next 1000000, v s.next, s.new o)) hr (fun l σ k => nQ_sm x l σ k) Φ σ k
  | badop => exact Sm.bad
end
end Go.Proofs.YtjoakhpdajlhiaaGreatDoor.V2
