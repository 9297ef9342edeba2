/- Part 8 of the proof: texts of the proof. -/
import Derived.Test.YtjgmpdklfcmelaaGreatDoorQJ7
import Derived.Test.YtjgmpdklfcmelaaGreatDoorChecked
import Derived.Laws.Externs
import Derived.MapKept
import Derived.Shelf.SlIter.Nil
import Derived.Shelf.SortM.Plain
import Derived.Shelf.SortM.SortNone
import Derived.Shelf.Strings.LastIndexAll
import Derived.Shelf.Strings.Prefix
namespace Go.Proofs.YtjgmpdklfcmelaaGreatDoor.V2
open Go
noncomputable section
abbrev Rs := E → FH → (FV → FR) → FR
def vT (r : Rd) : Rs := fun e _ k => r e k
def v1 (r : Rd) : Rs := fun e σ k => r e fun p => ldF p σ k
def vN (n : Nat) (r : Rd) : Rs := fun e σ k => r e fun p => lnF n p σ k
def thrV (nt : Nat) (dr : List Nat) : ARes → Rs
  | .tmp t => vT (rdM nt dr [] (.slot t))
  | .cell1 a => v1 (rdM nt dr [] (.slot a))
  | .cellN a n => vN n (rdM nt dr [] (.slot a))
theorem Ee.m {nt : Nat} {dr : List Nat} {e : E} {env : T AV} (h : Ee nt dr e env) : Em nt dr [] e env := ⟨h, fun t v ht => by cases ht⟩
theorem thrV_ok {nt : Nat} {dr : List Nat} {e : E} {env : T AV} (he : Ee nt dr e env) (x : ARes) (σ : FH) (c : FV → FR) : Sv (thrV nt dr x e σ c) c (resV std env (αH σ) x) := by
  intro h
  cases x with
  | tmp t =>
    obtain ⟨v, h1, h2⟩ := rdM_ok he.m (.slot t) _ h
    exact ⟨v, by simp only [resV]; rw [h1], h2⟩
  | cell1 a =>
    have h : (rdM nt dr [] (.slot a) e fun p => ldF p σ c) ≠ .bad := h
    show ∃ v, _ ∧ (rdM nt dr [] (.slot a) e fun p => ldF p σ c) = _
    obtain ⟨p, h1, h2⟩ := rdM_ok he.m (.slot a) _ h
    rw [h2] at h ⊢
    obtain ⟨v, h3, h4⟩ := ldF_sv p σ c h
    refine ⟨v, ?_, h4⟩
    simp only [resV]
    rw [h1, oLoad1_mem]
    exact h3
  | cellN a n =>
    have h : (rdM nt dr [] (.slot a) e fun p => lnF n p σ c) ≠ .bad := h
    show ∃ v, _ ∧ (rdM nt dr [] (.slot a) e fun p => lnF n p σ c) = _
    obtain ⟨p, h1, h2⟩ := rdM_ok he.m (.slot a) _ h
    rw [h2] at h ⊢
    obtain ⟨v, h3, h4⟩ := lnF_sv n p σ c h
    refine ⟨v, ?_, h4⟩
    simp only [resV]
    rw [h1, oLoadN_mem]
    exact h3
def rsQ (l : List Rs) (e : E) (σ : FH) (k : List FV → FR) : FR := List.rec (motive := fun _ => (List FV → FR) → FR) (fun k => k []) (fun r _ ih k => r e σ fun v => ih fun l => k (v :: l)) l k
theorem rsQ_ok {nt : Nat} {dr : List Nat} {e : E} {env : T AV} (he : Ee nt dr e env) (σ : FH) : ∀ (l : List ARes) (k : List FV → FR), rsQ (l.map (thrV nt dr)) e σ k ≠ .bad → ∃ vs, resL std env (αH σ) l = (true, αL vs) ∧ rsQ (l.map (thrV nt dr)) e σ k = k vs
  | [], k, _ => ⟨[], rfl, rfl⟩
  | x :: l, k, h => by
    have h : (thrV nt dr x e σ fun v => rsQ (l.map (thrV nt dr)) e σ fun l => k (v :: l)) ≠ .bad := h
    show ∃ vs, _ ∧ (thrV nt dr x e σ fun v => rsQ (l.map (thrV nt dr)) e σ fun l => k (v :: l)) = _
    obtain ⟨v, h1, h2⟩ := thrV_ok he x σ _ h
    rw [h2] at h ⊢
    obtain ⟨vs, h3, h4⟩ := rsQ_ok he σ l _ h
    refine ⟨v :: vs, ?_, h4⟩
    simp only [resL]
    rw [h1, h3]; rfl
def rtQ (l : List FV) (k : FV → FR) : FR := List.rec (motive := fun _ => FR) (k (.tup [])) (fun x m _ => List.rec (motive := fun _ => FR) (k x) (fun _ _ _ => k (.tup l)) m) l
theorem rtQ_of (l : List FV) (k : FV → FR) : ∃ v, αV v = retV (αL l) ∧ rtQ l k = k v := by
  match l with
  | [] => exact ⟨.tup [], rfl, rfl⟩
  | [x] => exact ⟨x, rfl, rfl⟩
  | x :: y :: l => exact ⟨.tup (x :: y :: l), rfl, rfl⟩
/-! Arguments. -/
abbrev Ag := Phi → List FV → E → FH → KV → FR
def aEnd (c : Cd) (res : List Rs) : Ag := fun Φ l e σ k => List.rec (motive := fun _ => FR) (FH.rec (motive := fun _ => FR) (fun N m => c Φ N (fun e σ => rsQ res e σ fun vs => rtQ vs fun v => k v σ) (fun e σ => rsQ res e σ fun vs => rtQ vs fun v => k v σ) kXe e ⟨N, m⟩) σ) (fun _ _ _ => .bad) l
def aLet (f : FV → Ag) : Ag := fun Φ l e σ k => List.rec (motive := fun _ => FR) .bad (fun v l _ => f v Φ l e σ k) l
def aLetW (w : Wr) (f : FV → Ag) : Ag := fun Φ l e σ k => List.rec (motive := fun _ => FR) .bad (fun v l _ => w e v fun e => f v Φ l e σ k) l
def aBad : Ag := fun _ _ _ _ _ => .bad
def agH (nt : Nat) (dr : List Nat) (fin : M → Ag) : Nat → Nat → M → Ag
  | 0, _, m => fin m
  | n + 1, i, m => bsel (Nat.blt i nt && Nat.blt i 1024) (bsel (hasN i dr) (aLet fun v => agH nt dr fin n (i + 1) ((i, v) :: m)) (aLetW (wrE i) fun v => agH nt dr fin n (i + 1) ((i, v) :: m))) aBad
theorem agH_ok {nt : Nat} {dr : List Nat} {fin : M → Ag} {Φ : Phi} {σ : FH} {k : KV} : ∀ (n i : Nat) (m : M) (l : List FV) (e : E) (env : T AV), Em nt dr m e env → agH nt dr fin n i m Φ l e σ k ≠ .bad → ∃ l1 l2 m' e', l = l1 ++ l2 ∧ (l1 = [] ∨ i + l1.length ≤ nt) ∧ Em nt dr m' e' (envOf (αL l1) i env) ∧ agH nt dr fin n i m Φ l e σ k = fin m' Φ l2 e' σ k
  | 0, i, m, l, e, env, he, _ => ⟨[], l, m, e, rfl, .inl rfl, he, rfl⟩
  | n + 1, i, m, l, e, env, he, h => by
    unfold agH at h ⊢
    cases hb : Nat.blt i nt && Nat.blt i 1024 with
    | false => rw [hb] at h; exact absurd rfl h
    | true =>
      rw [hb] at h
      rw [Bool.and_eq_true, Nat.blt_eq, Nat.blt_eq] at hb
      dsimp only [bsel] at h ⊢
      cases l with
      | nil => cases hn : hasN i dr <;> rw [hn] at h <;> exact absurd rfl h
      | cons v l =>
        have go : ∀ e1, Em nt dr ((i, v) :: m) e1 (env.put i (αV v)) → agH nt dr fin n (i + 1) ((i, v) :: m) Φ l e1 σ k ≠ .bad → ∃ l1 l2 m' e', v :: l = l1 ++ l2 ∧ (l1 = [] ∨ i + l1.length ≤ nt) ∧ Em nt dr m' e' (envOf (αL l1) i env) ∧ agH nt dr fin n (i + 1) ((i, v) :: m) Φ l e1 σ k = fin m' Φ l2 e' σ k := fun e1 g1 g2 => by
          obtain ⟨l1, l2, m', e', h1, h2, h3, h4⟩ := agH_ok n (i + 1) _ l e1 _ g1 g2
          refine ⟨v :: l1, l2, m', e', by rw [h1]; rfl, .inr ?_, h3, h4⟩
          rw [List.length_cons]
          rcases h2 with rfl | h2
          · simp; omega
          · omega
        cases hn : hasN i dr with
        | true => rw [hn] at h; exact go e (nowr_ok he hb.2 hn) h
        | false =>
          rw [hn] at h
          have h : (wrE i e v fun e => agH nt dr fin n (i + 1) ((i, v) :: m) Φ l e σ k) ≠ .bad := h
          show ∃ l1 l2 m' e', _ ∧ _ ∧ _ ∧ (wrE i e v fun e => agH nt dr fin n (i + 1) ((i, v) :: m) Φ l e σ k) = _
          obtain ⟨e1, h3, h4⟩ := wr_ok (v := v) (k := fun e => agH nt dr fin n (i + 1) ((i, v) :: m) Φ l e σ k) he hb.2
          rw [h4] at h ⊢
          exact go e1 h3 h
def drOf (nt : Nat) (kp : List Nat) : List Nat := Nat.rec [] (fun t ih => bif hasN t kp then ih else t :: ih) nt
def fnQ (a : Ag) (Φ : Phi) : HF := fun l σ k => a Φ l e0 σ k
def thrF (fuel : Nat) (dr : List Nat) (np : Nat) (x : Ent) : Phi → HF := fnQ (agH x.nt dr (fun m => aEnd (thrK fuel x.nt dr x.code m cS) (x.res.map (thrV x.nt dr))) np 0 [])
theorem thrF_ok {fuel : Nat} (dr : List Nat) (np : Nat) (x : Ent) {Φ : Phi} {Γ : Gam} (hΦ : PhiOk Φ Γ) : HOk (thrF fuel dr np x Φ) (runF std Γ fuel x) := fun l σ k h => by
  unfold thrF fnQ at h ⊢
  obtain ⟨l1, l2, m', e, h1, h2, he, h4⟩ := agH_ok np 0 [] l e0 .leaf ⟨fun t _ => by rw [e0_at]; rfl, fun t v ht => by cases ht⟩ h
  rw [h4] at h ⊢
  cases l2 with
  | cons _ _ => exact absurd rfl h
  | nil =>
  rw [List.append_nil] at h1
  subst h1
  obtain ⟨N, m⟩ := σ
  have h : thrK fuel x.nt dr x.code m' cS Φ N (fun e σ => rsQ (x.res.map (thrV x.nt dr)) e σ fun vs => rtQ vs fun v => k v σ) (fun e σ => rsQ (x.res.map (thrV x.nt dr)) e σ fun vs => rtQ vs fun v => k v σ) kXe e ⟨N, m⟩ ≠ .bad := h
  show ∃ v σ', _ ∧ thrK fuel x.nt dr x.code m' cS Φ N (fun e σ => rsQ (x.res.map (thrV x.nt dr)) e σ fun vs => rtQ vs fun v => k v σ) (fun e σ => rsQ (x.res.map (thrV x.nt dr)) e σ fun vs => rtQ vs fun v => k v σ) kXe e ⟨N, m⟩ = _
  obtain ⟨ex, env', e', σ', g1, _, g3⟩ := thrK_ok x.code m' cS Φ Γ hΦ N _ _ _ e ⟨N, m⟩ _ he h
  have hlen : Nat.ble (αL l).length x.nt = true := by
    rw [αL_length, Nat.ble_eq]
    rcases h2 with rfl | h2
    · exact Nat.zero_le _
    · omega
  have fin : ∀ fr : FR, Ee x.nt dr e' env' → fr = (rsQ (x.res.map (thrV x.nt dr)) e' σ' fun vs => rtQ vs fun v => k v σ') → fr ≠ .bad → isRet ex = true → ∃ v σ'', runF std Γ fuel x (αL l) (αH ⟨N, m⟩) = (true, αV v, αH σ'') ∧ fr = k v σ'' := fun fr g2 hfr h hx => by
    rw [hfr] at h ⊢
    obtain ⟨vs, a1, a2⟩ := rsQ_ok g2 σ' x.res _ h
    obtain ⟨v, a3, a4⟩ := rtQ_of vs fun v => k v σ'
    refine ⟨v, σ', ?_, a2.trans a4⟩
    unfold runF
    rw [show (αH ⟨N, m⟩).next = N from rfl, g1]
    dsimp only
    rw [a1]
    dsimp only
    rw [hx, hlen, a3]; rfl
  cases ex with
  | normal => obtain ⟨m'', g4, g5⟩ := g3; exact fin _ g4.e g5 h rfl
  | ret => exact fin _ g3.1 g3.2 h rfl
  | exit i => rw [g3.2] at h; exact absurd rfl h
def PhiG (tab : T (Phi → HF)) (n : Nat) : (FuncId → HF) → (Nat → HF) → Phi := Nat.rec (motive := fun _ => (FuncId → HF) → (Nat → HF) → Phi) (fun b y => .mk b y fun _ _ => .no)
  (fun _ ih b y => .mk (fun f l σ k => tg tab f (b f l σ k) fun q => q (ih b y) l σ k) y fun l H => ih b fun j => Bool.rec (y j) H (Nat.beq j l)) n
def TabQ (fuel : Nat) (tab : T Ent) (tq : T (Phi → HF)) : Prop := (∀ f, tab.get f = none → tq.get f = none) ∧ ∀ f x, tab.get f = some x → ∃ q, tq.get f = some q ∧ ∀ Φ Γ, PhiOk Φ Γ → HOk (q Φ) (runF std Γ fuel x)
theorem PhiG_ok {fuel : Nat} {tab : T Ent} {tq : T (Phi → HF)} (ht : TabQ fuel tab tq) : ∀ (n : Nat) {Γ0 : Gam} {b : FuncId → HF} {y : Nat → HF}, (∀ f, HOk (b f) (Γ0.fn f)) → (∀ j, HOk (y j) (Γ0.yl j)) → PhiOk (PhiG tq n b y) (Gam.grow std fuel tab Sp.none Γ0 n)
  | 0, Γ0, b, y, hb, hy => .mk hb hy fun _ _ _ _ => .no
  | n + 1, Γ0, b, y, hb, hy => by
    have ih := fun {Γ0 : Gam} {b : FuncId → HF} {y : Nat → HF} => PhiG_ok ht n (Γ0 := Γ0) (b := b) (y := y)
    refine .mk (fun f l σ k => ?_) hy (fun l h H hH => ih hb fun j => ?_)
    · show Sm (tg tq f (b f l σ k) fun q => q (PhiG tq n b y) l σ k) k ((match tab.get f with | none => bif Sp.none.is f then Sp.none.fn (Gam.grow std fuel tab Sp.none Γ0 n) f (αL l) (αH σ) else Γ0.fn f (αL l) (αH σ) | some x => runF std (Gam.grow std fuel tab Sp.none Γ0 n) fuel x (αL l) (αH σ)) : Out)
      rw [tg_eq]
      cases hx : tab.get f with
      | none => rw [ht.1 f hx]; exact hb f l σ k
      | some x =>
        obtain ⟨q, h1, h2⟩ := ht.2 f x hx
        rw [h1]
        exact h2 _ _ (ih hb hy) l σ k
    · show HOk (Bool.rec (y j) H (Nat.beq j l)) fun args σ => bif Nat.beq j l then h args σ else Γ0.yl j args σ
      cases Nat.beq j l with
      | true => exact hH
      | false => exact hy j
end
end Go.Proofs.YtjgmpdklfcmelaaGreatDoor.V2
namespace Go.Proofs.YtjgmpdklfcmelaaGreatDoor.V2
open Go
noncomputable section
mutual
def mapF (r : Nat → Nat) : FV → FV
  | .n k m => .n k m
  | .z k m => .z k m
  | .b t => .b t
  | .s c => .s c
  | .p b o => .p (r b) o
  | .sl b o n k e z => .sl (r b) o n k e z
  | .m b => .m (r b)
  | .y b => .y (r b)
  | .fn f x y => .fn f (mapFs r x) (mapFs r y)
  | .ifc t v => .ifc t (mapF r v)
  | .agg l => .agg (mapFs r l)
  | .bs c => .bs c
  | .ints k l => .ints k l
  | .tup l => .tup (mapFs r l)
  | .o j => .o j
def mapFs (r : Nat → Nat) : List FV → List FV
  | [] => []
  | v :: l => mapF r v :: mapFs r l
end
mutual
theorem mapF_α (r : Nat → Nat) : ∀ v, αV (mapF r v) = mapV r (αV v)
  | .n _ _ => rfl
  | .z _ _ => rfl
  | .b _ => rfl
  | .s _ => rfl
  | .p _ _ => rfl
  | .sl _ _ _ _ _ _ => rfl
  | .m _ => rfl
  | .y _ => rfl
  | .fn f x y => by simp only [mapF, αV, mapV, mapFs_α r x, mapFs_α r y]
  | .ifc t v => by simp only [mapF, αV, mapV, mapF_α r v]
  | .agg l => by simp only [mapF, αV, mapV, mapFs_α r l]
  | .bs _ => rfl
  | .ints _ _ => rfl
  | .tup l => by simp only [mapF, αV, mapV, mapFs_α r l]
  | .o j => by cases j <;> rfl
theorem mapFs_α (r : Nat → Nat) : ∀ l, αL (mapFs r l) = mapVs r (αL l)
  | [] => rfl
  | v :: l => by simp only [mapFs, αL, mapVs, mapF_α r v, mapFs_α r l]
end
def mapP (r : Nat → Nat) : List (FV × FV) → List (FV × FV)
  | [] => []
  | p :: l => (mapF r p.1, mapF r p.2) :: mapP r l
def mapFO (r : Nat → Nat) : FObj → FObj
  | .dead => .dead
  | .cells l e t => .cells (mapFs r l) e t
  | .bs c e t => .bs c e t
  | .ints k l e t => .ints k l e t
  | .map l => .map (mapP r l)
  | .hid => .hid
theorem mapP_α (r : Nat → Nat) : ∀ l, αP (mapP r l) = (αP l).map fun p => (mapV r p.1, mapV r p.2)
  | [] => rfl
  | p :: l => by simp only [mapP, αP, List.map_cons, mapF_α, mapP_α r l]
theorem mapFO_α (r : Nat → Nat) (o : FObj) : αO (mapFO r o) = mapO r (αO o) := by
  cases o with
  | cells l e t => simp only [mapFO, αO, mapO, mapFs_α]
  | map l => simp only [mapFO, αO, mapO, mapP_α]
  | _ => rfl
/-! What is laid at the begin. -/
def αl (l : List (Nat × FV)) : List (Nat × AV) := l.map fun p => (p.1, αV p.2)
def αm (L : List (Nat × FObj)) : List (Nat × AObj) := L.map fun p => (p.1, αO p.2)
def mkE (l : List (Nat × FV)) : (E → FR) → FR := List.rec (motive := fun _ => (E → FR) → FR) (fun k => k e0) (fun p _ ih k => ih fun e => Prod.rec (fun t v => wrE t e v k) p) l
def mkM (L : List (Nat × FObj)) : (T FObj → FR) → FR := List.rec (motive := fun _ => (T FObj → FR) → FR) (fun k => k .leaf) (fun p _ ih k => ih fun m => Prod.rec (fun b o => ts 20 m b o k) p) L
def ofMF : List (Nat × FObj) → T FObj
  | [] => .leaf
  | p :: l => (ofMF l).put p.1 p.2
theorem ofMF_α : ∀ L : List (Nat × FObj), (ofMF L).map αO = ofM (αm L)
  | [] => rfl
  | p :: l => by
    show ((ofMF l).put p.1 p.2).map αO = (ofM (αm l)).put p.1 (αO p.2)
    rw [T.map_put, ofMF_α l]
theorem mkM_eq : ∀ (L : List (Nat × FObj)) (k : T FObj → FR), mkM L k = k (ofMF L)
  | [], k => rfl
  | p :: l, k => by
    show (mkM l fun m => ts 20 m p.1 p.2 k) = _
    rw [mkM_eq l, ts_eq]; rfl
theorem mkE_ok {nt : Nat} {dr : List Nat} : ∀ (l : List (Nat × FV)) (k : E → FR), (l.all fun p => Nat.blt p.1 1024) = true → ∃ e, Ee nt dr e (ofL (αl l)) ∧ mkE l k = k e
  | [], k, _ => ⟨e0, fun t _ => by rw [e0_at]; rfl, rfl⟩
  | p :: l, k, h => by
    rw [List.all_cons, Bool.and_eq_true, Nat.blt_eq] at h
    obtain ⟨e, h1, h2⟩ := mkE_ok (nt := nt) (dr := dr) l (fun e => wrE p.1 e p.2 k) h.2
    obtain ⟨e', h3, h4⟩ := wr_ok (m := []) (v := p.2) (k := k) h1.m h.1
    refine ⟨e', h3.e, ?_⟩
    show (mkE l fun e => wrE p.1 e p.2 k) = _
    rw [h2, h4]
/-! What is asked at the end. -/
def chT : List FObj → T FObj
  | [] => .leaf
  | o :: l => .node (some o) .leaf (chT l)
theorem chT_inj : ∀ {a b : List FObj}, chT a = chT b → a = b
  | [], [], _ => rfl
  | [], _ :: _, h => by cases h
  | _ :: _, [], h => by cases h
  | x :: a, y :: b, h => by
    simp only [chT, T.node.injEq, Option.some.injEq, true_and] at h
    rw [h.1, chT_inj h.2]
def gMs (bs : List Nat) (σ : FH) (k : List FObj → FR) : FR := List.rec (motive := fun _ => (List FObj → FR) → FR) (fun k => k []) (fun b _ ih k => gM σ b fun o => ih fun l => k (o :: l)) bs k
theorem gMs_ok {σ : FH} : ∀ (bs : List Nat) (k : List FObj → FR), gMs bs σ k ≠ .bad → ∃ os, (bs.map fun b => (αH σ).get b) = os.map (fun o => some (αO o)) ∧ gMs bs σ k = k os
  | [], k, _ => ⟨[], rfl, rfl⟩
  | b :: bs, k, h => by
    have h : (gM σ b fun o => gMs bs σ fun l => k (o :: l)) ≠ .bad := h
    show ∃ os, _ ∧ (gM σ b fun o => gMs bs σ fun l => k (o :: l)) = _
    obtain ⟨o, _, h2, h3⟩ := gM_cases h
    rw [h3] at h ⊢
    obtain ⟨os, h4, h5⟩ := gMs_ok bs _ h
    exact ⟨o :: os, by rw [List.map_cons, h2, h4]; rfl, h5⟩
def rfS1 (nt : Nat) (dr : List Nat) (ts : List Nat) : List Rd := ts.map fun t => rdM nt dr [] (.slot t)
def endK (rs : List Rd) (bs : List Nat) : K2 := fun e σ => rdsK rs e fun vs => gMs bs σ fun os => .ok (.tup vs) ⟨0, chT os⟩
def runQ (tq : T (Phi → HF)) (b : FuncId → HF) (q : Cd) (l : List (Nat × FV)) (L : List (Nat × FObj)) (n : Nat) (kn kr : K2) : FR := fT (fun x c => c x) tq fun tab => mkE l fun e => mkM L fun m => q (PhiG tab 40 b fun _ _ _ _ => .bad) 6 kn kr kXe e ⟨n, m⟩
theorem runQ_eq {tq : T (Phi → HF)} {b : FuncId → HF} {q : Cd} {l : List (Nat × FV)} {L : List (Nat × FObj)} {n : Nat} {kn kr : K2} {nt : Nat} {dr : List Nat} (hl : (l.all fun p => Nat.blt p.1 1024) = true) :
    ∃ e, Ee nt dr e (ofL (αl l)) ∧ runQ tq b q l L n kn kr = q (PhiG tq 40 b fun _ _ _ _ => .bad) 6 kn kr kXe e ⟨n, ofMF L⟩ := by
  unfold runQ
  rw [fT_eq fun _ _ => rfl]
  obtain ⟨e, h1, h2⟩ := mkE_ok (nt := nt) (dr := dr) l (fun e => mkM L fun m => q (PhiG tq 40 b fun _ _ _ _ => .bad) 6 kn kr kXe e ⟨n, m⟩) hl
  exact ⟨e, h1, by rw [h2, mkM_eq]⟩
theorem αH_ofMF (n : Nat) (L : List (Nat × FObj)) : αH ⟨n, ofMF L⟩ = ⟨n, ofM (αm L)⟩ := by unfold αH; rw [ofMF_α]
def distN : List Nat → Bool
  | [] => true
  | a :: l => !hasN a l && distN l
theorem hasN_of {k : Nat} : ∀ {l : List Nat}, k ∈ l → hasN k l = true
  | [], h => by cases h
  | a :: m, h => by
    unfold hasN
    rcases List.mem_cons.1 h with h | h
    · rw [h, Nat.beq_refl]; rfl
    · cases Nat.beq a k
      · exact hasN_of h
      · rfl
theorem has_ofL : ∀ {l : List (Nat × AV)}, distN (l.map (·.1)) = true → (l.all fun p => Nat.blt p.1 1048576) = true → ∀ {l0 : List (Nat × AV)}, (∀ p ∈ l0, p ∈ l) → Has (ofL l) l0 := by
  intro l hd hs
  have key : ∀ p ∈ l, (ofL l).get p.1 = some p.2 := by
    induction l with
    | nil => intro p hp; cases hp
    | cons q l ih =>
      intro p hp
      rw [List.all_cons, Bool.and_eq_true, Nat.blt_eq] at hs
      simp only [List.map_cons, distN, Bool.and_eq_true, Bool.not_eq_true'] at hd
      show ((ofL l).put q.1 q.2).get p.1 = _
      rw [T.get_put _ _ _ _ hs.1]
      rcases List.mem_cons.1 hp with rfl | hp
      · rw [if_pos rfl]
      · have hne : p.1 ≠ q.1 := fun e => by
          have : hasN q.1 (l.map (·.1)) = true := by
            have hm : q.1 ∈ l.map (·.1) := by rw [← e]; exact List.mem_map_of_mem hp
            exact hasN_of hm
          rw [this] at hd; cases hd.1
        rw [if_neg hne]; exact ih hd.2 hs.2 p hp
  intro l0
  induction l0 with
  | nil => intro _; trivial
  | cons p l0 ih =>
    intro h
    refine ⟨⟨key p (h p List.mem_cons_self), ?_⟩, ih fun q hq => h q (List.mem_cons_of_mem _ hq)⟩
    exact List.all_eq_true.1 hs p (h p List.mem_cons_self)
section
variable {P : Program} {Γ0 : Gam} {pu : FuncId → Bool} {nt B fuel : Nat} {ρ0 : Ren} {σ0 : AH} {W0 : World} {Q : Exit → Act → World → Prop}
theorem Good.le {G N : Nat} {env env' : T AV} {σ : AH} {c : Code} (h : Le env env') (g : Good P G nt N B ρ0 σ0 W0 Q env' σ c) : Good P G nt N B ρ0 σ0 W0 Q env σ c := fun ρ W a hr he hs hd => g ρ W a hr (he.le h) hs hd
def lowL (L : List (Nat × AObj)) (b : Nat) : Option AObj := (L.find? fun p => Nat.beq p.1 b).map (·.2)
theorem low_of {σ : AH} {old : List Nat} {n : Nat} {L : List (Nat × AObj)} (hk : keepN (rn old) (L.map (·.1)) 6 = true) (hM : Had (rn old) σ n L) (h : ((List.range 6).map fun b => (ofM L).get b) = (List.range 6).map fun b => (lowL L b).map (mapO (rn old))) : ∀ b, b < 6 → (ofM L).get b = σ.get b := fun b hb => by
  have h1 : (ofM L).get b = (lowL L b).map (mapO (rn old)) := by
    have := congrArg (fun l => l[b]?) h
    simpa [hb] using this
  rw [h1]
  have h2 := List.all_eq_true.1 hk b (List.mem_range.2 hb)
  rw [Bool.and_eq_true, Nat.beq_eq, List.contains_iff_mem, List.mem_map] at h2
  obtain ⟨h3, p, hp, h4⟩ := h2
  unfold lowL
  cases hf : L.find? fun p => Nat.beq p.1 b with
  | none => exact absurd (by rw [h4]; exact Nat.beq_refl b) (List.find?_eq_none.1 hf p hp)
  | some q =>
    have h5 : q.1 = b := Nat.eq_of_beq_eq_true (List.find?_some (p := fun p : Nat × AObj => Nat.beq p.1 b) hf)
    have h6 := (hM.mem q (List.mem_of_find?_eq_some hf)).2
    rw [h5, h3] at h6
    rw [h6]; rfl
theorem Good.pieceQ {tab : T Ent} {tq : T (Phi → HF)} {b : FuncId → HF} (st : Start [] 6 B ρ0 σ0 W0) (hm : P.follows .mixedOrders = true) (hΓ : GamOk P 6 (Gam.grow std fuel tab Sp.none Γ0 40) []) (hpu : PuOk (Gam.grow std fuel tab Sp.none Γ0 40) pu)
    (ht : TabQ fuel tab tq) (hb : ∀ f, HOk (b f) (Γ0.fn f)) {m : Nat} {c : Code} {c' : ACode} {dr : List Nat} {q : Cd} {n0 n : Nat} {l0 l : List (Nat × FV)} {L0 L : List (Nat × FObj)} {old : List Nat} {rs : List Rd}
    (hn : noFor m c' = true) (hc : compC P 6 nt pu c = some c') (hq : thrK fuel nt dr (aT m c') [] cS = q) (hl0 : (l0.all fun p => Nat.blt p.1 1024) = true) (hrs : rfS1 nt dr (l.map (·.1)) = rs)
    (hrun : runQ tq b q l0 L0 n0 (endK rs (L.map fun p => rn old p.1)) kX = .ok (.tup (l.map fun p => mapF (rn old) p.2)) ⟨0, chT (L.map fun p => mapFO (rn old) p.2)⟩)
    (h1 : okN old n (αl l) (αm L) = true) (h2 : distN (l.map (·.1)) = true) (h3 : ((List.range 6).map fun b => (ofM (αm L)).get b) = (List.range 6).map fun b => (lowL (αm L) b).map (mapO (rn old)))
    (g : compC P 6 nt pu (cdD m c) = some (aD m c') → Good P 6 nt 6 B ρ0 σ0 W0 Q (ofL (αl l)) ⟨n, ofM (αm L)⟩ (cdD m c)) : Good P 6 nt 6 B ρ0 σ0 W0 Q (ofL (αl l0)) ⟨n0, ofM (αm L0)⟩ c := by
  obtain ⟨e, he, hr⟩ := runQ_eq (tq := tq) (b := b) (q := q) (L := L0) (n := n0) (kn := endK rs (L.map fun p => rn old p.1)) (kr := kX) (nt := nt) (dr := dr) hl0
  rw [hr] at hrun
  have hne : q (PhiG tq 40 b fun _ _ _ _ => .bad) 6 (endK rs (L.map fun p => rn old p.1)) kX kXe e ⟨n0, ofMF L0⟩ ≠ .bad := by rw [hrun]; exact fun h => by cases h
  have hΦ : PhiOk (PhiG tq 40 b fun _ _ _ _ => .bad) (Gam.grow std fuel tab Sp.none Γ0 40) := PhiG_ok ht 40 hb fun j l σ k => Sm.bad
  subst hq
  obtain ⟨x, env', e', σ', a1, _, a3⟩ := thrK_ok (aT m c') [] cS _ _ hΦ 6 _ _ _ e ⟨n0, ofMF L0⟩ _ he.m hne
  cases x with
  | ret => rw [a3.2] at hne; exact absurd rfl hne
  | exit i => rw [a3.2] at hne; exact absurd rfl hne
  | normal =>
    obtain ⟨m', a4, a5⟩ := a3
    rw [a5] at hrun hne
    have hne : (rdsK rs e' fun vs => gMs (L.map fun p => rn old p.1) σ' fun os => FR.ok (.tup vs) ⟨0, chT os⟩) ≠ .bad := hne
    have hrun : (rdsK rs e' fun vs => gMs (L.map fun p => rn old p.1) σ' fun os => FR.ok (.tup vs) ⟨0, chT os⟩) = _ := hrun
    subst hrs
    have e1 : rfS1 nt dr (l.map (·.1)) = ((l.map (·.1)).map Ref.slot).map (rdM nt dr []) := by unfold rfS1; exact (List.map_map (f := Ref.slot) (g := rdM nt dr []) (l := l.map (·.1))).symm
    rw [e1] at hne hrun
    obtain ⟨vs, b1, b2⟩ := (rdM_ok a4.e.m).list _ _ hne
    rw [b2] at hne hrun
    obtain ⟨os, b3, b4⟩ := gMs_ok _ _ hne
    rw [b4] at hrun
    simp only [FR.ok.injEq, FV.tup.injEq, FH.mk.injEq, true_and] at hrun
    have b5 := hrun.1
    have b6 := chT_inj hrun.2
    subst b5 b6
    rw [αH_ofMF] at a1
    have k1 : ∀ p ∈ l, evS env' (.slot p.1) = mapV (rn old) (αV p.2) := fun p hp => by
      rw [αL_map, List.map_map, List.map_map, List.map_map] at b1
      have := List.map_inj_left.1 b1 p hp
      simp only [Function.comp] at this
      rw [this, mapF_α]
    have k2 : ∀ p ∈ L, (αH σ').get (rn old p.1) = some (mapO (rn old) (αO p.2)) := fun p hp => by
      rw [List.map_map, List.map_map] at b3
      have := List.map_inj_left.1 b3 p hp
      simp only [Function.comp] at this
      rw [this, mapFO_α]
    unfold okN at h1
    simp only [Bool.and_eq_true] at h1
    obtain ⟨⟨⟨⟨⟨⟨⟨⟨c1, c2⟩, c3⟩, c4⟩, c5⟩, c6⟩, c7⟩, c8⟩, c9⟩ := h1
    have hHad : Had (rn old) (αH σ') n (αm L) := by
      have : ∀ L' : List (Nat × FObj), (∀ p ∈ L', p ∈ L) → ((αm L').all fun p => Nat.blt p.1 n) = true → Had (rn old) (αH σ') n (αm L') := by
        intro L'
        induction L' with
        | nil => intro _ _; trivial
        | cons p L' ih =>
          intro hs ha
          have ha : (Nat.blt p.1 n && (αm L').all fun p => Nat.blt p.1 n) = true := ha
          rw [Bool.and_eq_true] at ha
          exact ⟨⟨ha.1, k2 p (hs p List.mem_cons_self)⟩, ih (fun q hq => hs q (List.mem_cons_of_mem _ hq)) ha.2⟩
      exact this L (fun _ h => h) c9
    let l' : List (Nat × AV) := (αl l).map fun p => (p.1, mapV (rn old) p.2)
    have hmem : ∀ t v, (t, v) ∈ l' → evS env' (.slot t) = v := fun t v h => by
      obtain ⟨p, hp, hpe⟩ := List.mem_map.1 h
      obtain ⟨p0, hp0, hp0e⟩ := List.mem_map.1 hp
      subst hp0e
      cases hpe
      exact k1 p0 hp0
    have hsm : (l'.all fun p => Nat.blt p.1 1048576) = true := by
      rw [List.all_eq_true] at c8 ⊢
      intro p hp
      obtain ⟨p0, hp0, rfl⟩ := List.mem_map.1 hp
      exact c8 p0 hp0
    have hle : Le env' (ofL l') := fun t v ht => (hmem t v (ofL_get l' t v (fun p hp => List.all_eq_true.1 hsm p hp) ht)).symm
    have hhas : Has (ofL l') l' := has_ofL (by
      have : l'.map (·.1) = l.map (·.1) := by
        show ((αl l).map fun p => (p.1, mapV (rn old) p.2)).map (·.1) = _
        unfold αl
        rw [List.map_map, List.map_map]; rfl
      rw [this]; exact h2) hsm fun _ h => h
    have hwk : Wk 6 nt 6 (ofL l') (αH σ') (ofL (αl l)) ⟨n, ofM (αm L)⟩ := Wk.lay (rn old) c1 c2 (by decide) c3 c4 hHad (low_of c3 hHad h3) c5 c6 c7 hhas
    exact Good.cut st hm hΓ hpu m c c' (ofL (αl l0)) env' ⟨n0, ofM (αm L0)⟩ (αH σ') hn hc a1 fun hc1 => Good.le hle ((g hc1).wk hwk)
theorem Good.endQ {tab : T Ent} {tq : T (Phi → HF)} {b : FuncId → HF} (st : Start [] 6 B ρ0 σ0 W0) (hm : P.follows .mixedOrders = true) (hΓ : GamOk P 6 (Gam.grow std fuel tab Sp.none Γ0 40) []) (hpu : PuOk (Gam.grow std fuel tab Sp.none Γ0 40) pu)
    (ht : TabQ fuel tab tq) (hb : ∀ f, HOk (b f) (Γ0.fn f)) {c : Code} {c' : ACode} {dr : List Nat} {q : Cd} {n0 : Nat} {l0 : List (Nat × FV)} {L0 : List (Nat × FObj)} {xs : List ARes} {rs : List Rs} {vs : List FV}
    (hc : compC P 6 nt pu c = some c') (hq : thrK fuel nt dr c' [] cS = q) (hl0 : (l0.all fun p => Nat.blt p.1 1024) = true) (hrs : xs.map (thrV nt dr) = rs)
    (hrun : runQ tq b q l0 L0 n0 kX (fun e σ => rsQ rs e σ fun vs => .ok (.tup vs) ⟨0, .leaf⟩) = .ok (.tup vs) ⟨0, .leaf⟩) {K : AK} (hK : ∀ env σ, resL std env σ xs = (true, αL vs) → K .ret env σ) :
    Good P 6 nt 6 B ρ0 σ0 W0 (AQ 6 nt 6 B ρ0 σ0 W0 K) (ofL (αl l0)) ⟨n0, ofM (αm L0)⟩ c := by
  obtain ⟨e, he, hr⟩ := runQ_eq (tq := tq) (b := b) (q := q) (L := L0) (n := n0) (kn := kX) (kr := fun e σ => rsQ rs e σ fun vs => .ok (.tup vs) ⟨0, .leaf⟩) (nt := nt) (dr := dr) hl0
  rw [hr] at hrun
  have hne : q (PhiG tq 40 b fun _ _ _ _ => .bad) 6 kX (fun e σ => rsQ rs e σ fun vs => .ok (.tup vs) ⟨0, .leaf⟩) kXe e ⟨n0, ofMF L0⟩ ≠ .bad := by rw [hrun]; exact fun h => by cases h
  have hΦ : PhiOk (PhiG tq 40 b fun _ _ _ _ => .bad) (Gam.grow std fuel tab Sp.none Γ0 40) := PhiG_ok ht 40 hb fun j l σ k => Sm.bad
  subst hq
  obtain ⟨x, env', e', σ', a1, _, a3⟩ := thrK_ok c' [] cS _ _ hΦ 6 _ _ _ e ⟨n0, ofMF L0⟩ _ he.m hne
  cases x with
  | exit i => rw [a3.2] at hne; exact absurd rfl hne
  | normal => obtain ⟨m', _, a5⟩ := a3; rw [a5] at hne; exact absurd rfl hne
  | ret =>
    obtain ⟨a4, a5⟩ := a3
    rw [a5] at hrun hne
    subst hrs
    obtain ⟨ws, b1, b2⟩ := rsQ_ok a4 σ' xs _ hne
    have hrun : (rsQ (xs.map (thrV nt dr)) e' σ' fun vs => FR.ok (.tup vs) ⟨0, .leaf⟩) = _ := hrun
    rw [b2] at hrun
    cases hrun
    rw [αH_ofMF] at a1
    exact Good.end st hm hΓ hpu hc a1 (hK env' (αH σ') b1)
end
end
end Go.Proofs.YtjgmpdklfcmelaaGreatDoor.V2
namespace Go.Proofs.YtjgmpdklfcmelaaGreatDoor.V2
open Go
noncomputable def tabL : List (Nat × Ent) → T Ent
  | [] => .leaf
  | p :: l => (tabL l).put p.1 p.2
theorem tabL_get : ∀ {l : List (Nat × Ent)}, (∀ p ∈ l, Nat.blt p.1 1048576 = true) → ∀ f x, (tabL l).get f = some x → (f, x) ∈ l
  | [], _, f, x, h => by cases h
  | p :: l, hs, f, x, h => by
    have hp := hs p List.mem_cons_self
    rw [Nat.blt_eq] at hp
    simp only [tabL, T.get_put _ _ _ _ hp] at h
    by_cases ht : f = p.1
    · rw [if_pos ht] at h; cases h; rw [ht]; exact List.mem_cons_self
    · rw [if_neg ht] at h; exact List.mem_cons_of_mem _ (tabL_get (fun q hq => hs q (List.mem_cons_of_mem _ hq)) f x h)
def EntOk (p : Nat × Ent) : Prop := ∃ fn c, Tryz.prog.funcs[p.1]? = some fn ∧ fn.body = some c ∧ (fn.name == "runtime.NumGoroutine") = false ∧ fn.ntmps = p.2.nt ∧ compC Tryz.prog 6 fn.ntmps (fun _ => false) c = some p.2.code ∧ compR Tryz.prog fn.results.toList = some p.2.res ∧ Nat.ble fn.ntmps 1048576 = true
theorem mixed : Tryz.prog.follows .mixedOrders = true := by kernel_rfl
end Go.Proofs.YtjgmpdklfcmelaaGreatDoor.V2
namespace Go.Proofs.YtjgmpdklfcmelaaGreatDoor.V2
open Go
set_option linter.unusedVariables false
noncomputable section
def r3 (P : E → (E2 → FR) → FR) (p : E2 → (E1 → FR) → FR) (q : E1 → (FV → FR) → FR) : Rd := fun e k => P e fun a => p a fun b => q b k
def x3 (P : E → (E2 → FR) → FR) (p : E2 → (E1 → FR) → FR) (q : E1 → FV → (E1 → FR) → FR) (r : E2 → E1 → (E2 → FR) → FR) (w : E → E2 → (E → FR) → FR) : Wr := fun e v k => P e fun a => p a fun b => q b v fun b => r a b fun a => w e a k
def R0 := r3 pc0 pb0 pa0
def X0 := x3 pc0 pb0 wa0 wb0 wc0
def R2 := r3 pc0 pb0 pa2
def X2 := x3 pc0 pb0 wa2 wb0 wc0
def R3 := r3 pc0 pb0 pa3
def X3 := x3 pc0 pb0 wa3 wb0 wc0
def R4 := r3 pc0 pb0 pa4
def X4 := x3 pc0 pb0 wa4 wb0 wc0
def R5 := r3 pc0 pb0 pa5
def X5 := x3 pc0 pb0 wa5 wb0 wc0
def R6 := r3 pc0 pb0 pa6
def X6 := x3 pc0 pb0 wa6 wb0 wc0
def R7 := r3 pc0 pb0 pa7
def X7 := x3 pc0 pb0 wa7 wb0 wc0
def R8 := r3 pc0 pb1 pa0
def X8 := x3 pc0 pb1 wa0 wb1 wc0
def R10 := r3 pc0 pb1 pa2
def X10 := x3 pc0 pb1 wa2 wb1 wc0
def R12 := r3 pc0 pb1 pa4
def X12 := x3 pc0 pb1 wa4 wb1 wc0
def R13 := r3 pc0 pb1 pa5
def X13 := x3 pc0 pb1 wa5 wb1 wc0
def R14 := r3 pc0 pb1 pa6
def X14 := x3 pc0 pb1 wa6 wb1 wc0
def R15 := r3 pc0 pb1 pa7
def X15 := x3 pc0 pb1 wa7 wb1 wc0
def R16 := r3 pc0 pb2 pa0
def X16 := x3 pc0 pb2 wa0 wb2 wc0
def R17 := r3 pc0 pb2 pa1
def X17 := x3 pc0 pb2 wa1 wb2 wc0
def R18 := r3 pc0 pb2 pa2
def X18 := x3 pc0 pb2 wa2 wb2 wc0
def R20 := r3 pc0 pb2 pa4
def X20 := x3 pc0 pb2 wa4 wb2 wc0
def R21 := r3 pc0 pb2 pa5
def X21 := x3 pc0 pb2 wa5 wb2 wc0
def R22 := r3 pc0 pb2 pa6
def X22 := x3 pc0 pb2 wa6 wb2 wc0
def R23 := r3 pc0 pb2 pa7
def X23 := x3 pc0 pb2 wa7 wb2 wc0
def R24 := r3 pc0 pb3 pa0
def X24 := x3 pc0 pb3 wa0 wb3 wc0
def X26 := x3 pc0 pb3 wa2 wb3 wc0
def R27 := r3 pc0 pb3 pa3
def X27 := x3 pc0 pb3 wa3 wb3 wc0
def R29 := r3 pc0 pb3 pa5
def X29 := x3 pc0 pb3 wa5 wb3 wc0
def R30 := r3 pc0 pb3 pa6
def X30 := x3 pc0 pb3 wa6 wb3 wc0
def X121 := x3 pc1 pb7 wa1 wb7 wc1
def R122 := r3 pc1 pb7 pa2
def X122 := x3 pc1 pb7 wa2 wb7 wc1
def R132 := r3 pc2 pb0 pa4
def X132 := x3 pc2 pb0 wa4 wb0 wc2
def R183 := r3 pc2 pb6 pa7
def X183 := x3 pc2 pb6 wa7 wb6 wc2
def R281 := r3 pc4 pb3 pa1
def X281 := x3 pc4 pb3 wa1 wb3 wc4
end
end Go.Proofs.YtjgmpdklfcmelaaGreatDoor.V2
namespace Go.Proofs.YtjgmpdklfcmelaaGreatDoor.V2
open Go
set_option linter.unusedVariables false
noncomputable section
def cZ (f : Func) : ACode := (compC Tryz.prog 6 f.ntmps (fun _ => false) (f.body.getD .skip)).getD .bad
def eZ (f : Func) : Ent := ⟨f.ntmps, cZ f, (compR Tryz.prog f.results.toList).getD []⟩
def okZ (f : Func) : Bool := f.body.isSome && !(f.name == "runtime.NumGoroutine") && (compC Tryz.prog 6 f.ntmps (fun _ => false) (f.body.getD .skip)).isSome && (compR Tryz.prog f.results.toList).isSome && Nat.ble f.ntmps 1048576
theorem eokZ {n : Nat} {f : Func} (h : Tryz.prog.funcs[n]? = some f) (hb : okZ f = true) : EntOk (n, eZ f) := by
  unfold okZ at hb
  simp only [Bool.and_eq_true, Bool.not_eq_true'] at hb
  obtain ⟨⟨⟨⟨h1, h2⟩, h3⟩, h4⟩, h5⟩ := hb
  obtain ⟨c, hc⟩ := Option.isSome_iff_exists.1 h1
  obtain ⟨a, ha⟩ := Option.isSome_iff_exists.1 h3
  obtain ⟨r, hr⟩ := Option.isSome_iff_exists.1 h4
  refine ⟨f, c, h, hc, h2, rfl, ?_, ?_, h5⟩
  · have e : f.body.getD .skip = c := by rw [hc]; rfl
    show compC Tryz.prog 6 f.ntmps (fun _ => false) c = some (cZ f)
    unfold cZ
    rw [e] at ha ⊢
    rw [ha]; rfl
  · show compR Tryz.prog f.results.toList = some ((compR Tryz.prog f.results.toList).getD [])
    rw [hr]; rfl
def q119 : Phi → HF := fnQ (aLetW X0 fun v1 => (aLet fun v2 => (aEnd (cWr X4 (.o .ptr) (cLet (o2 (eqQ1 false .ptr) (rdV v1) (rdV (.o .ptr))) fun v3 => (cSeq (cCond (rdV v3) (cLet (nL (buN [.o .sl, .n .i64 0] [.nilsl, (.int .i64 0)] []) []) fun v4 => (cLet (n1 (bxF 195) (rdV v4)) fun v5 => (cWr X0 v5 cSkip))) cSkip) (cLet (oV R0) fun v6 => (cLet (o1 ncF (rdV v6)) fun v7 => (cLet (o1 (faF 1) (rdV v7)) fun v8 => (cLet (m1 ldF (rdV v8)) fun v9 => (cLet (o2 bEql (rdV v9) (rdV (.n .i64 0))) fun v10 => (cSeq (cCond (rdV v10) (cLet (oV R0) fun v11 => (cLet (oV R0) fun v12 => (cLet (o1 ncF (rdV v12)) fun v13 => (cLet (o1 (faF 0) (rdV v13)) fun v14 => (cLet (m1 ldF (rdV v14)) fun v15 => (cLet (n2 (apQ 5 false 1) (rdV v15) (rdV v2)) fun v16 => (cLet (o1 ncF (rdV v11)) fun v17 => (cLet (o1 (faF 0) (rdV v17)) fun v18 => (cDo (n2 (stF 1) (rdV v18) (rdV v16)) cSkip))))))))) cSkip) (cLet (oV R0) fun v19 => (cWr X4 v19 cRet))))))))))) [vT R4])))
theorem q119_eq : thrF 1000000 (drOf 24 [0, 4]) 2 (eZ Tryz.f119) = q119 := by kernel_rfl
def q121 : Phi → HF := fnQ (aLet fun v1 => (aEnd (cWr X2 (.o .sl) (cWr X3 (.n .i64 0) (cLet (oCallS 119 [(rdV v1), (rdV (.o .sl))]) fun v2 => (cLet (o1 ncF (rdV v2)) fun v3 => (cLet (o1 (faF 1) (rdV v3)) fun v4 => (cLet (m1 ldF (rdV v4)) fun v5 => (cLet (o2 bNeq (rdV v5) (rdV (.n .i64 0))) fun v6 => (cSeq (cCond (rdV v6) (cLet (o1 ncF (rdV v2)) fun v7 => (cLet (o1 (faF 1) (rdV v7)) fun v8 => (cLet (m1 ldF (rdV v8)) fun v9 => (cWr X2 (.o .sl) (cWr X3 v9 cRet))))) cSkip) (cLet (o1 ncF (rdV v2)) fun v10 => (cLet (o1 (faF 0) (rdV v10)) fun v11 => (cLet (m1 ldF (rdV v11)) fun v12 => (cLet (oCallS 142 [(rdV v12)]) fun v13 => (cWr X2 v13 (cWr X3 (.n .i64 0) cRet)))))))))))))) [vT R2, vT R3]))
theorem q121_eq : thrF 1000000 (drOf 20 [2, 3]) 1 (eZ Tryz.f121) = q121 := by kernel_rfl
def q142 : Phi → HF := fnQ (aLet fun v1 => (aEnd (cWr X2 (.o .sl) (cLet (o2 (eqQ1 false .sl) (rdV v1) (rdV (.o .sl))) fun v2 => (cSeq (cCond (rdV v2) (cWr X2 (.o .sl) cRet) cSkip) (cLet (nL (bsQ 5 1 0) []) fun v3 => (cLet (n2 (apQ 5 false 1) (rdV v3) (rdV v1)) fun v4 => (cWr X2 v4 cRet)))))) [vT R2]))
theorem q142_eq : thrF 1000000 (drOf 8 [2]) 1 (eZ Tryz.f142) = q142 := by kernel_rfl
def q148 : Phi → HF := fnQ (aLet fun v1 => (aEnd (cWr X2 (.o .ptr) (cLet (oCallS 142 [(rdV v1)]) fun v2 => (cLet (nL (buN [.o .sl, .b false] [.nilsl, (.bool false)] [(0, 1)]) [(rdV v2)]) fun v3 => (cLet (n1 (bxF 322) (rdV v3)) fun v4 => (cWr X2 v4 cRet))))) [vT R2]))
theorem q148_eq : thrF 1000000 (drOf 7 [2]) 1 (eZ Tryz.f148) = q148 := by kernel_rfl
def q149 : Phi → HF := fnQ (aLet fun v1 => (aEnd (cWr X2 (.n .u8 0) (cLet (oCallS 222 [(rdV v1), (rdV (.n .i64 1))]) fun v2 => (cLet (o1 (cvF .u8) (rdV v2)) fun v3 => (cWr X2 v3 cRet)))) [vT R2]))
theorem q149_eq : thrF 1000000 (drOf 6 [2]) 1 (eZ Tryz.f149) = q149 := by kernel_rfl
def q150 : Phi → HF := fnQ (aLet fun v1 => (aEnd (cWr X2 (.n .u32 0) (cLet (oCallS 222 [(rdV v1), (rdV (.n .i64 4))]) fun v2 => (cLet (o1 (cvF .u32) (rdV v2)) fun v3 => (cWr X2 v3 cRet)))) [vT R2]))
theorem q150_eq : thrF 1000000 (drOf 6 [2]) 1 (eZ Tryz.f150) = q150 := by kernel_rfl
def q151 : Phi → HF := fnQ (aLet fun v1 => (aEnd (cWr X2 (.s 1) (cLet (oCallS 217 [(rdV v1)]) fun v2 => (cLet (o1 (cvF .i64) (rdV v2)) fun v3 => (cLet (oCallS 218 [(rdV v1), (rdV v3)]) fun v4 => (cLet (m1 s2Q (rdV v4)) fun v5 => (cWr X2 v5 cRet)))))) [vT R2]))
theorem q151_eq : thrF 1000000 (drOf 9 [2]) 1 (eZ Tryz.f151) = q151 := by kernel_rfl
def q153 : Phi → HF := fnQ (aLet fun v1 => (aEnd (cWr X2 (.n .i64 0) (cLet (o2 (eqQ1 false .ptr) (rdV v1) (rdV (.o .ptr))) fun v2 => (cLet (oG false (rdV v2) (oV (rdV v1))) fun v3 => (cLet (oG false (rdV v2) (o1 ncF (rdV v3))) fun v4 => (cLet (oG false (rdV v2) (o1 (faF 1) (rdV v4))) fun v5 => (cLet (oG false (rdV v2) (m1 ldF (rdV v5))) fun v6 => (cLet (o3 pkF (rdV v2) (rdV (.b true)) (rdV v6)) fun v7 => (cSeq (cCond (rdV v7) (cWr X2 (.n .i64 4) cRet) cSkip) (cWr X2 (.n .i64 0) cRet))))))))) [vT R2]))
theorem q153_eq : thrF 1000000 (drOf 11 [2]) 1 (eZ Tryz.f153) = q153 := by kernel_rfl
def q154 : Phi → HF := fnQ (aLet fun v1 => (aEnd (cWr X2 (.n .i64 0) (cLet (o2 (eqQ1 false .ptr) (rdV v1) (rdV (.o .ptr))) fun v2 => (cSeq (cCond (rdV v2) (cWr X2 (.n .i64 0) cRet) cSkip) (cLet (o1 ncF (rdV v1)) fun v3 => (cLet (o1 (faF 0) (rdV v3)) fun v4 => (cLet (m1 ldF (rdV v4)) fun v5 => (cLet (o1 lvF (rdV v5)) fun v6 => (cWr X2 v6 cRet)))))))) [vT R2]))
theorem q154_eq : thrF 1000000 (drOf 10 [2]) 1 (eZ Tryz.f154) = q154 := by kernel_rfl
def q198 : Phi → HF := fnQ (aLet fun v1 => (aLet fun v2 => (aEnd (cWr X4 (.o .ptr) (cLet (o2 bShr (rdV v2) (rdV (.n .u64 16))) fun v3 => (cLet (o1 (cvF .u16) (rdV v3)) fun v4 => (cLet (oCallS 253 [(rdV v1), (rdV v4)]) fun v5 => (cLet (o1 (cvF .u16) (rdV v2)) fun v6 => (cLet (oCallS 253 [(rdV v5), (rdV v6)]) fun v7 => (cWr X4 v7 cRet))))))) [vT R4])))
theorem q198_eq : thrF 1000000 (drOf 13 [4]) 2 (eZ Tryz.f198) = q198 := by kernel_rfl
def q217 : Phi → HF := fnQ (aLet fun v1 => (aEnd (cWr X2 (.n .u16 0) (cLet (oCallS 222 [(rdV v1), (rdV (.n .i64 2))]) fun v2 => (cLet (o1 (cvF .u16) (rdV v2)) fun v3 => (cWr X2 v3 cRet)))) [vT R2]))
theorem q217_eq : thrF 1000000 (drOf 6 [2]) 1 (eZ Tryz.f217) = q217 := by kernel_rfl
def q218 : Phi → HF := fnQ (aLet fun v1 => (aLet fun v2 => (aEnd (cWr X4 (.o .sl) (cLet (nL (pQ .maxI) [(rdV v2), (rdV (.n .i64 0))]) fun v3 => (cLet (o2 (eqQ1 false .ptr) (rdV v1) (rdV (.o .ptr))) fun v4 => (cLet (oG false (rdV v4) (oV (rdV v1))) fun v5 => (cLet (oG false (rdV v4) (o1 ncF (rdV v5))) fun v6 => (cLet (oG false (rdV v4) (o1 (faF 1) (rdV v6))) fun v7 => (cLet (oG false (rdV v4) (m1 ldF (rdV v7))) fun v8 => (cLet (o3 pkF (rdV v4) (rdV (.b true)) (rdV v8)) fun v9 => (cSeq (cCond (rdV v9) (cWr X4 (.o .sl) cRet) cSkip) (cLet (o1 ncF (rdV v1)) fun v10 => (cLet (o1 (faF 0) (rdV v10)) fun v11 => (cLet (m1 ldF (rdV v11)) fun v12 => (cLet (o1 lvF (rdV v12)) fun v13 => (cLet (o2 bGtr (rdV v3) (rdV v13)) fun v14 => (cSeq (cCond (rdV v14) (cLet (o1 ncF (rdV v1)) fun v15 => (cLet (o1 (faF 0) (rdV v15)) fun v16 => (cDo (n2 (stF 1) (rdV v16) (rdV (.o .sl))) (cLet (o1 ncF (rdV v1)) fun v17 => (cLet (o1 (faF 1) (rdV v17)) fun v18 => (cDo (n2 (stF 1) (rdV v18) (rdV (.b true))) (cWr X4 (.o .sl) cRet))))))) cSkip) (cLet (o1 ncF (rdV v1)) fun v19 => (cLet (o1 (faF 0) (rdV v19)) fun v20 => (cLet (m1 ldF (rdV v20)) fun v21 => (cLet (oSv 1 (rdV v21) none (some (rdV v3)) none) fun v22 => (cLet (oCallS 142 [(rdV v22)]) fun v23 => (cLet (o1 ncF (rdV v1)) fun v24 => (cLet (o1 (faF 0) (rdV v24)) fun v25 => (cLet (m1 ldF (rdV v25)) fun v26 => (cLet (oSv 1 (rdV v26) (some (rdV v3)) none none) fun v27 => (cLet (o1 ncF (rdV v1)) fun v28 => (cLet (o1 (faF 0) (rdV v28)) fun v29 => (cDo (n2 (stF 1) (rdV v29) (rdV v27)) (cWr X4 v23 cRet)))))))))))))))))))))))))))) [vT R4])))
theorem q218_eq : thrF 1000000 (drOf 46 [4]) 2 (eZ Tryz.f218) = q218 := by kernel_rfl
def q222 : Phi → HF := fnQ (aLet fun v1 => (aLet fun v2 => (aEnd (cWr X4 (.n .u64 0) (cWr X5 (.n .u64 0) (cLet (oCallS 218 [(rdV v1), (rdV v2)]) fun v3 => (cLet (o1 lvF (rdV v3)) fun v4 => (cWr X12 (.n .i64 0) (cSeq (cBlk 0 (cLoop 1000000 (cLet (o2 bLss R12 (rdV v4)) fun v5 => (cSeq (cCond (rdV v5) cSkip (cExit 0)) (cSeq (cBlk 1 (cLet (o2 (isF 1) (rdV v3) R12) fun v6 => (cLet (m1 ldF (rdV v6)) fun v7 => (cLet (oV R5) fun v8 => (cLet (o2 bShl (rdV v8) (rdV (.n .u64 8))) fun v9 => (cLet (o1 (cvF .u64) (rdV v7)) fun v10 => (cLet (o2 bOr (rdV v9) (rdV v10)) fun v11 => (cWr X5 v11 cSkip)))))))) (cLet (o2 bAdd R12 (rdV (.n .i64 1))) fun v12 => (cWr X12 v12 cSkip))))))) (cLet (oV R5) fun v13 => (cWr X4 v13 cRet)))))))) [vT R4])))
theorem q222_eq : thrF 1000000 (drOf 23 [4, 5, 12]) 2 (eZ Tryz.f222) = q222 := by kernel_rfl
def q228 : Phi → HF := fnQ (aLet fun v1 => (aLet fun v2 => (aEnd (cWr X4 (.o .ptr) (cLet (oCallS 119 [(rdV v1), (rdV (.o .sl))]) fun v3 => (cLet (o1 lsF (rdV v2)) fun v4 => (cLet (o2 bGtr (rdV v4) (rdV (.n .i64 65535))) fun v5 => (cSeq (cCond (rdV v5) (cLet (o1 ncF (rdV v3)) fun v6 => (cLet (o1 (faF 1) (rdV v6)) fun v7 => (cDo (n2 (stF 1) (rdV v7) (rdV (.n .i64 3))) (cWr X4 v3 cRet)))) cSkip) (cLet (o1 lsF (rdV v2)) fun v8 => (cLet (o1 (cvF .u16) (rdV v8)) fun v9 => (cLet (oCallS 253 [(rdV v3), (rdV v9)]) fun v10 => (cLet (n1 (ssQ 5) (rdV v2)) fun v11 => (cLet (oCallS 119 [(rdV v10), (rdV v11)]) fun v12 => (cWr X4 v12 cRet))))))))))) [vT R4])))
theorem q228_eq : thrF 1000000 (drOf 22 [4]) 2 (eZ Tryz.f228) = q228 := by kernel_rfl
def q253 : Phi → HF := fnQ (aLet fun v1 => (aLet fun v2 => (aEnd (cWr X4 (.o .ptr) (cLet (o2 bShr (rdV v2) (rdV (.n .u64 8))) fun v3 => (cLet (o1 (cvF .u8) (rdV v3)) fun v4 => (cLet (o1 (cvF .u8) (rdV v2)) fun v5 => (cLet (nL (bsQ 5 1 2) [(rdV v4), (rdV v5)]) fun v6 => (cLet (oCallS 119 [(rdV v1), (rdV v6)]) fun v7 => (cWr X4 v7 cRet))))))) [vT R4])))
theorem q253_eq : thrF 1000000 (drOf 13 [4]) 2 (eZ Tryz.f253) = q253 := by kernel_rfl
end
end Go.Proofs.YtjgmpdklfcmelaaGreatDoor.V2
namespace Go.Proofs.YtjgmpdklfcmelaaGreatDoor.V2
open Go
open Go.RowKit
theorem eqIn_map {Pr : Program} (w : World) (d : Nat) (t k e : TypeId) (p : Option Nat) (h : Pr.underlying t = some (.map k e)) :
    (Op.equalIn (d + 1) t (.map p) (.map none)).run Pr w = .ok p.isNone w := by
  cases p <;> simp [Op.equalIn, run_underlying h]
theorem eql_map {Pr : Program} (w : World) (t k e : TypeId) (p : Option Nat) (h : Pr.underlying t = some (.map k e)) :
    (binOp .eql t (.map p) (.map none)).run Pr w = .ok (.bool p.isNone) w := by
  simp only [binOp]
  simp [show Op.equal t (.map p) (.map none) = Op.equalIn (9999 + 1) t (.map p) (.map none) from rfl, eqIn_map w 9999 t k e p h]
theorem assert_map {Pr : Program} (w : World) (t xT k e : TypeId) (v : Value) (h : Pr.underlying t = some (.map k e)) : (Instr.typeAssert (.iface t v) xT t false).run Pr w = .ok v w := by
  simp [Instr.typeAssert, run_underlying h, go_sem, Result.andThen]
theorem clone_map {Pr : Program} (w : World) {r : Nat} {es : Array MapEntry} {clock : Nat} (t : TypeId) (hb : w.heap[r]? = some (.map es clock)) :
    (Extern.MapsClone.clone #[.iface t (.map (some r))]).run Pr w = .ok (.iface t (.map (some w.heap.size))) (w.alloc (.map es clock)) := by
  have e : Extern.MapsClone.clone #[.iface t (.map (some r))] = (getObj r >>= fun o => match o with
      | .map entries clock => (newObj (.map entries clock) >>= fun n => pure (.iface t (.map (some n))))
      | _ => stuck "maps.clone: a map expected") := rfl
  rw [e]
  simp [MapKept.run_getObj_map hb, Result.andThen, go_sem]
end Go.Proofs.YtjgmpdklfcmelaaGreatDoor.V2
namespace Go.Proofs.YtjgmpdklfcmelaaGreatDoor.V2
open Go
set_option linter.unusedVariables false
theorem hpu0' {Γ : Gam} : PuOk Γ (fun _ => false) := fun f h => by cases h
structure Qe where
  f : Nat
  en : Ent
  q : Phi → HF
structure QeOk (p : Qe) : Prop where
  ent : EntOk (p.f, p.en)
  ok : ∀ Φ Γ, PhiOk Φ Γ → HOk (p.q Φ) (runF std Γ 1000000 p.en)
  lt : p.f < 1048576
theorem qe_of {f nt np : Nat} {kp : List Nat} {en : Ent} {q : Phi → HF} (h : EntOk (f, en)) (hq : thrF 1000000 (drOf nt kp) np en = q) (hf : Nat.blt f 1048576 = true) : QeOk ⟨f, en, q⟩ := ⟨h, fun Φ Γ hΦ => by subst hq; exact thrF_ok _ _ en hΦ, by rw [Nat.blt_eq] at hf; exact hf⟩
noncomputable def tabE : List Qe → T Ent
  | [] => .leaf
  | p :: l => (tabE l).put p.f p.en
noncomputable def tabP : List Qe → T (Phi → HF)
  | [] => .leaf
  | p :: l => (tabP l).put p.f p.q
theorem tabE_get : ∀ {l : List Qe}, (∀ p ∈ l, QeOk p) → ∀ f, (∀ x, (tabE l).get f = some x → ∃ q, (tabP l).get f = some q ∧ (∀ Φ Γ, PhiOk Φ Γ → HOk (q Φ) (runF std Γ 1000000 x)) ∧ EntOk (f, x)) ∧ ((tabE l).get f = none → (tabP l).get f = none)
  | [], _, f => ⟨fun x h => (by cases h), fun _ => rfl⟩
  | p :: l, hl, f => by
    have hp := hl p List.mem_cons_self
    obtain ⟨i1, i2⟩ := tabE_get (fun q hq => hl q (List.mem_cons_of_mem _ hq)) f
    simp only [tabE, tabP, T.get_put _ _ _ _ hp.lt]
    by_cases h : f = p.f
    · rw [if_pos h, if_pos h]
      refine ⟨fun x hx => ?_, fun h => (by cases h)⟩
      cases hx
      subst h
      exact ⟨p.q, rfl, hp.ok, hp.ent⟩
    · rw [if_neg h, if_neg h]; exact ⟨i1, i2⟩
end Go.Proofs.YtjgmpdklfcmelaaGreatDoor.V2
namespace Go.Proofs.YtjgmpdklfcmelaaGreatDoor.V2
open Go.Shelf Go.Proofs
def sorted185_lay_ren : Go.Shelf.Ren := ⟨fun | 6 => 185 | 8 => 249 | 9 => 184 | 11 => 282 | 13 => 248 | 12 => 247 | 23 => 280 | 24 => 281 | 14 => 271 | 15 => 272 | 16 => 273 | 17 => 274 | 18 => 275 | 19 => 276 | 20 => 277 | 21 => 278 | 22 => 279 | 25 => 302 | 26 => 303 | 27 => 304 | 28 => 305 | 29 => 306 | 30 => 307 | 31 => 318 | n => n, fun | 26 => 9 | 28 => 289 | 24 => 66 | 0 => 0 | 3 => 3 | 37 => 170 | 48 => 23 | 50 => 135 | 4 => 4 | 40 => 363 | 39 => 362 | 45 => 367 | 5 => 5 | 9 => 9 | 51 => 383 | 55 => 386 | 57 => 397 | 58 => 38 | 33 => 158 | n => n, fun | n => n⟩
theorem sorted185_lay : Go.Proofs.SlLaysZ.n6 Tryz.prog sorted185_lay_ren := {
  mixed := by kernel_rfl
  f6 := ⟨Tryz.f185.name, by decide, Tryz.func185.trans (congrArg some (by kernel_rfl))⟩
  f8 := ⟨Tryz.f249.name, by decide, Tryz.func249.trans (congrArg some (by kernel_rfl))⟩
  f11 := ⟨Tryz.f282.name, by decide, Tryz.func282.trans (congrArg some (by kernel_rfl))⟩
  t0 := Tryz.underlying0
  a0 := Tryz.isAgg0
  z0 := Tryz.sizeOf0
  v0 := Tryz.zeroValue0
  t24 := Tryz.underlying66
  a24 := Tryz.isAgg66
  z24 := Tryz.sizeOf66
  v24 := Tryz.zeroValue66
  t26 := Tryz.underlying9
  a26 := Tryz.isAgg9
  z26 := Tryz.sizeOf9
  v26 := Tryz.zeroValue9
  t28 := Tryz.underlying289
  a28 := Tryz.isAgg289
  z28 := Tryz.sizeOf289
  v28 := Tryz.zeroValue289
  i26 := by kernel_rfl }
def sort184_lay_ren : Go.Shelf.Ren := ⟨fun | 6 => 184 | 8 => 248 | 9 => 247 | 19 => 280 | 20 => 281 | 21 => 271 | 22 => 272 | 23 => 273 | 24 => 274 | 25 => 275 | 26 => 276 | 27 => 277 | 28 => 278 | 29 => 279 | 36 => 302 | 31 => 303 | 32 => 304 | 37 => 305 | 38 => 306 | 39 => 307 | 41 => 318 | n => n, fun | 27 => 66 | 29 => 9 | 3 => 3 | 32 => 170 | 26 => 66 | 0 => 0 | 44 => 23 | 46 => 135 | 4 => 4 | 36 => 363 | 35 => 362 | 41 => 367 | 5 => 5 | 9 => 9 | 53 => 383 | 57 => 386 | 63 => 397 | 64 => 38 | n => n, fun | n => n⟩
theorem sort184_lay : Go.Proofs.SlLaysM.n6 Tryz.prog sort184_lay_ren := {
  mixed := by kernel_rfl
  f6 := ⟨Tryz.f184.name, by decide, Tryz.func184.trans (congrArg some (by kernel_rfl))⟩
  f8 := Tryz.func248.trans (congrArg some (by kernel_rfl))
  f9 := ⟨Tryz.f247.name, by decide, Tryz.func247.trans (congrArg some (by kernel_rfl))⟩
  f19 := Tryz.func280.trans (congrArg some (by kernel_rfl))
  f20 := Tryz.func281.trans (congrArg some (by kernel_rfl))
  f21 := ⟨Tryz.f271.name, by decide, Tryz.func271.trans (congrArg some (by kernel_rfl))⟩
  f22 := ⟨Tryz.f272.name, by decide, Tryz.func272.trans (congrArg some (by kernel_rfl))⟩
  f23 := ⟨Tryz.f273.name, by decide, Tryz.func273.trans (congrArg some (by kernel_rfl))⟩
  f24 := ⟨Tryz.f274.name, by decide, Tryz.func274.trans (congrArg some (by kernel_rfl))⟩
  f25 := ⟨Tryz.f275.name, by decide, Tryz.func275.trans (congrArg some (by kernel_rfl))⟩
  f26 := ⟨Tryz.f276.name, by decide, Tryz.func276.trans (congrArg some (by kernel_rfl))⟩
  f27 := ⟨Tryz.f277.name, by decide, Tryz.func277.trans (congrArg some (by kernel_rfl))⟩
  f28 := ⟨Tryz.f278.name, by decide, Tryz.func278.trans (congrArg some (by kernel_rfl))⟩
  f29 := ⟨Tryz.f279.name, by decide, Tryz.func279.trans (congrArg some (by kernel_rfl))⟩
  f31 := Tryz.func303.trans (congrArg some (by kernel_rfl))
  f32 := Tryz.func304.trans (congrArg some (by kernel_rfl))
  f36 := ⟨Tryz.f302.name, by decide, Tryz.func302.trans (congrArg some (by kernel_rfl))⟩
  f37 := ⟨Tryz.f305.name, by decide, Tryz.func305.trans (congrArg some (by kernel_rfl))⟩
  f38 := ⟨Tryz.f306.name, by decide, Tryz.func306.trans (congrArg some (by kernel_rfl))⟩
  f39 := ⟨Tryz.f307.name, by decide, Tryz.func307.trans (congrArg some (by kernel_rfl))⟩
  f41 := ⟨Tryz.f318.name, by decide, Tryz.func318.trans (congrArg some (by kernel_rfl))⟩
  t0 := Tryz.underlying0
  a0 := Tryz.isAgg0
  z0 := Tryz.sizeOf0
  v0 := Tryz.zeroValue0
  t3 := Tryz.underlying3
  a3 := Tryz.isAgg3
  z3 := Tryz.sizeOf3
  v3 := Tryz.zeroValue3
  t4 := Tryz.underlying4
  a4 := Tryz.isAgg4
  z4 := Tryz.sizeOf4
  v4 := Tryz.zeroValue4
  t5 := Tryz.underlying5
  a5 := Tryz.isAgg5
  z5 := Tryz.sizeOf5
  v5 := Tryz.zeroValue5
  t9 := Tryz.underlying9
  a9 := Tryz.isAgg9
  z9 := Tryz.sizeOf9
  v9 := Tryz.zeroValue9
  t26 := Tryz.underlying66
  a26 := Tryz.isAgg66
  z26 := Tryz.sizeOf66
  v26 := Tryz.zeroValue66
  t27 := Tryz.underlying66
  a27 := Tryz.isAgg66
  z27 := Tryz.sizeOf66
  v27 := Tryz.zeroValue66
  t29 := Tryz.underlying9
  a29 := Tryz.isAgg9
  z29 := Tryz.sizeOf9
  v29 := Tryz.zeroValue9
  t32 := Tryz.underlying170
  a32 := Tryz.isAgg170
  z32 := Tryz.sizeOf170
  v32 := Tryz.zeroValue170
  t35 := Tryz.underlying362
  a35 := Tryz.isAgg362
  z35 := Tryz.sizeOf362
  v35 := Tryz.zeroValue362
  t36 := Tryz.underlying363
  a36 := Tryz.isAgg363
  z36 := Tryz.sizeOf363
  v36 := Tryz.zeroValue363
  t41 := Tryz.underlying367
  a41 := Tryz.isAgg367
  z41 := Tryz.sizeOf367
  v41 := Tryz.zeroValue367
  t44 := Tryz.underlying23
  a44 := Tryz.isAgg23
  z44 := Tryz.sizeOf23
  v44 := Tryz.zeroValue23
  t46 := Tryz.underlying135
  a46 := Tryz.isAgg135
  z46 := Tryz.sizeOf135
  v46 := Tryz.zeroValue135
  t53 := Tryz.underlying383
  a53 := Tryz.isAgg383
  z53 := Tryz.sizeOf383
  v53 := Tryz.zeroValue383
  t57 := Tryz.underlying386
  a57 := Tryz.isAgg386
  z57 := Tryz.sizeOf386
  v57 := Tryz.zeroValue386
  t63 := Tryz.underlying397
  a63 := Tryz.isAgg397
  z63 := Tryz.sizeOf397
  v63 := Tryz.zeroValue397
  t64 := Tryz.underlying38
  a64 := Tryz.isAgg38
  z64 := Tryz.sizeOf38
  v64 := Tryz.zeroValue38 }
def last284_lay_ren : Go.Shelf.Ren := ⟨fun | 148 => 181 | 222 => 244 | 223 => 245 | 269 => 269 | n => n, fun | 9 => 9 | 3 => 3 | 4 => 4 | 5 => 5 | 146 => 271 | 51 => 23 | 46 => 170 | n => n, fun | n => n⟩
theorem last284_lay : Go.Proofs.Lays.n148 Tryz.prog last284_lay_ren := {
  mixed := by kernel_rfl
  f148 := Tryz.func181.trans (congrArg some (by kernel_rfl))
  f222 := Tryz.func244.trans (congrArg some (by kernel_rfl))
  f223 := Tryz.func245.trans (congrArg some (by kernel_rfl))
  f269 := Tryz.func269.trans (congrArg some (by kernel_rfl))
  t3 := Tryz.underlying3
  a3 := Tryz.isAgg3
  z3 := Tryz.sizeOf3
  v3 := Tryz.zeroValue3
  t4 := Tryz.underlying4
  a4 := Tryz.isAgg4
  z4 := Tryz.sizeOf4
  v4 := Tryz.zeroValue4
  t5 := Tryz.underlying5
  a5 := Tryz.isAgg5
  z5 := Tryz.sizeOf5
  v5 := Tryz.zeroValue5
  t9 := Tryz.underlying9
  a9 := Tryz.isAgg9
  z9 := Tryz.sizeOf9
  v9 := Tryz.zeroValue9
  t46 := Tryz.underlying170
  a46 := Tryz.isAgg170
  z46 := Tryz.sizeOf170
  v46 := Tryz.zeroValue170
  t51 := Tryz.underlying23
  a51 := Tryz.isAgg23
  z51 := Tryz.sizeOf23
  v51 := Tryz.zeroValue23
  t146 := Tryz.underlying271
  a146 := Tryz.isAgg271
  z146 := Tryz.sizeOf271
  v146 := Tryz.zeroValue271 }
def trim160_lay_ren : Go.Shelf.Ren := ⟨fun | 102 => 182 | 209 => 246 | 207 => 270 | n => n, fun | 9 => 9 | 4 => 4 | 3 => 3 | n => n, fun | n => n⟩
theorem trim160_lay : Go.Proofs.Lays.n102 Tryz.prog trim160_lay_ren := {
  mixed := by kernel_rfl
  f102 := Tryz.func182.trans (congrArg some (by kernel_rfl))
  f207 := Tryz.func270.trans (congrArg some (by kernel_rfl))
  f209 := Tryz.func246.trans (congrArg some (by kernel_rfl))
  t3 := Tryz.underlying3
  a3 := Tryz.isAgg3
  z3 := Tryz.sizeOf3
  v3 := Tryz.zeroValue3
  t4 := Tryz.underlying4
  a4 := Tryz.isAgg4
  z4 := Tryz.sizeOf4
  v4 := Tryz.zeroValue4
  t9 := Tryz.underlying9
  a9 := Tryz.isAgg9
  z9 := Tryz.sizeOf9
  v9 := Tryz.zeroValue9 }
end Go.Proofs.YtjgmpdklfcmelaaGreatDoor.V2
namespace Go.Proofs.YtjgmpdklfcmelaaGreatDoor.V2
open Go Go.RowKit Go.Maps Go.Sort Go.Shelf
theorem law9 : Keyed Tryz.prog 9 := string_keyed Tryz.underlying9
theorem sorts185 (m : Nat) : AnyZ.SortsIn Tryz.prog sorted185_lay_ren Fence.wide m :=
  ⟨fun blk off cap ss W hH hblk hsz => callsIn_wide.2 (AnyM.slices_Sort_string sort184_lay blk off cap ss W hH hblk hsz),
   fun p cap W => callsIn_wide.2 (AnyM.slices_Sort_string_none sort184_lay p cap W)⟩
set_option maxRecDepth 100000 in
set_option maxHeartbeats 1000000 in
theorem keys250 {H : Type} (n : Nat) (hn : 1 ≤ n) (l Bm o b nn : Nat) (D0 : DataW H) {R : Value → Option (DataW H × List MemPlace)} (J : List (List UInt8) → World → Prop)
    (hY : ∀ pre x W, J pre W → pre.length < Maps.size D0 → YieldAt Fence.wide (n - 1) Tryz.prog l #[encStr x] W fun e W' => e = .returned (.bool true) ∧ J (pre ++ [x]) W' ∧ KeepsWalks W W')
    (W : World) (hJ : AbidesFrom W.heap.size J) (hm : W.cell? ⟨Bm, o, none⟩ = some (.map (some b))) (hown : W.ownsMap Tryz.prog 9 R b nn D0) (h0 : J [] W) :
    CallsIn Fence.wide n Tryz.prog 250 #[.func (.yield l) #[] #[], .pointer (some ⟨Bm, o, none⟩)] W fun e W' => (∃ v, e = .returned v) ∧ ∃ ss : List (List UInt8), ss.Perm (strKeys D0) ∧ J ss W' := by
  refine callsIn_of_wp Tryz.func250 rfl trivial ?_ rfl
  simp only [Tryz.ntmps250, List.size_toArray, List.length_cons, List.length_nil, Nat.reduceAdd, Nat.reduceSub, Array.replicate_succ, Array.replicate_zero, List.push_toArray, List.append_toArray, List.nil_append, List.cons_append]
  gi_wp2_with (first
    | (gi_at_range; refine wpListIn_range_own _ rfl _ 51 rfl 9 162 law9 Tryz.underlying51 _ b nn _ rfl hown ?_; intro w0 hrg0 hg0 hs0)
    | gi_in)
  go_frame
  gi_loopw [3] (fun _ wr => ∃ (left : Lit → Bool) (cnt : Nat) (ss : List (List UInt8)), wr.ranges Tryz.prog 9 R b W.heap.size nn D0 left cnt ∧ ss.length + cnt ≤ Maps.size D0 ∧ Collected D0 left ss ∧ J ss wr)
    (fun _ wr => wr.rangeLeft b W.heap.size)
  case atStart =>
    exact ⟨_, _, [], hrg0, by simp, Collected.start D0, hJ [] W w0 none h0 hg0 (fun r e => by cases e)⟩
  case round =>
    obtain ⟨left, cnt, ss, hrg, hcs, hC, hJs⟩ := hrel
    gi_wp2_with (first
      | (gi_at_next; refine wpListIn_next_ranges _ rfl _ rfl 9 law9 R encStr id (fun key kl hk => by obtain ⟨x, hx, _⟩ := Maps.keyOf_str Tryz.underlying9 hk; exact ⟨x, hx⟩) (fun v _ _ => ⟨v, rfl⟩) b W.heap.size nn _ _ _ rfl hrg ?_ ?_)
      | gi_in)
    · intro hc0 hl0
      gi_wp2
      go_end0
      exact ⟨⟨_, rfl⟩, ss, hC.perm hown law9 Tryz.underlying9 hl0, hJs⟩
    · intro x c kl yd yp w2 cnt2 hkey hlk hv hat hrg2 hlt hg2 hs2 hen
      obtain ⟨x', ex, rfl, _⟩ := Maps.keyOf_str Tryz.underlying9 hkey
      obtain rfl : x = x' := encStr_inj ex
      have hJ2 : J ss w2 := hJ ss wr w2 (some W.heap.size) hJs hg2 (fun r e => by cases e; exact ⟨Nat.le_refl _, hrg.iter_walk⟩)
      obtain ⟨fn, tmps, assign, body, hy, hR⟩ := hY ss x w2 hJ2 (by omega)
      clear hs2
      gi_wp2
      refine hR.mono ?_
      rintro e W3 ⟨rfl, hJ3, hk3⟩
      gi_wp2
      have hrg3 := hrg2.of_walks hk3
      go_roundw
      case rel => exact ⟨_, cnt2, ss ++ [x], hrg3, by simp; omega, hC.step hlk hat, hJ3⟩
      case measure => rw [hrg3.left_eq, hrg.left_eq]; exact hlt
theorem gives250 {H : Type} (n : Nat) (hn : 1 ≤ n) (Bm o b nn : Nat) (D0 : DataW H) {R : Value → Option (DataW H × List MemPlace)} (w : World) (hBm : Bm < w.heap.size)
    (hm : w.cell? ⟨Bm, o, none⟩ = some (.map (some b))) (hown : w.ownsMap Tryz.prog 9 R b nn D0) :
    SeqGives Fence.wide n Tryz.prog 250 #[.pointer (some ⟨Bm, o, none⟩)] encStr (fun ss => ss.Perm (strKeys D0)) (Maps.size D0) w := fun l J W hW hJ hY h0 => by
  have hown' : W.ownsMap Tryz.prog 9 R b nn D0 := by
    have hbl := hown.lt
    obtain ⟨es, clock, hb, Ft, hs, hD⟩ := hown
    exact ⟨es, clock, (hW.block b hbl).trans hb, Ft, hs, hD⟩
  exact keys250 n hn l Bm o b nn D0 J hY W hJ ((hW.cell (p := ⟨Bm, o, none⟩) hBm).trans hm) hown' h0
theorem sorted250 {H : Type} (Bm o b nn : Nat) (D0 : DataW H) {R : Value → Option (DataW H × List MemPlace)} (w : World) (hBm : Bm < w.heap.size) (hm : w.cell? ⟨Bm, o, none⟩ = some (.map (some b)))
    (hown : w.ownsMap Tryz.prog 9 R b nn D0) (hmax : Maps.size D0 ≤ maxLen) (hbytes : Maps.size D0 * 16 ≤ 140737488355328) :
    Calls Tryz.prog 185 #[.func (.func 250) #[] #[.pointer (some ⟨Bm, o, none⟩)]] w fun e w' => ∃ (v : Value) (ss : List (List UInt8)), e = .returned v ∧ ss.Perm (strKeys D0) ∧
      w'.ownsRow w.heap.size 9 1 v ss.length ((ss.mergeSort (fun x y => decide (x ≤ y))).map encStr) ∧ (v = .slice none 0 0 ↔ ss = []) ∧ Below w.heap.size w w' :=
  (callsIn_wide (n := 5)).1 (AnyZ.sorted_in sorted185_lay Fence.wide 5 trivial trivial trivial trivial rfl (by omega) (sorts185 _) (enters_of Tryz.func184 (by kernel_rfl) rfl) 250 #[.pointer (some ⟨Bm, o, none⟩)] trivial (enters_of Tryz.func250 (by kernel_rfl) rfl) _ _ hmax hbytes _ (gives250 _ (by omega) Bm o b nn D0 w hBm hm hown))
set_option maxRecDepth 100000 in
set_option maxHeartbeats 1000000 in
theorem keys319 {H : Type} (n : Nat) (hn : 1 ≤ n) (l Bm o b nn : Nat) (D0 : DataW H) {R : Value → Option (DataW H × List MemPlace)} (J : List (List UInt8) → World → Prop)
    (hY : ∀ pre x W, J pre W → pre.length < Maps.size D0 → YieldAt Fence.wide (n - 1) Tryz.prog l #[encStr x] W fun e W' => e = .returned (.bool true) ∧ J (pre ++ [x]) W' ∧ KeepsWalks W W')
    (W : World) (hJ : AbidesFrom W.heap.size J) (hm : W.cell? ⟨Bm, o, none⟩ = some (.map (some b))) (hown : W.ownsMap Tryz.prog 9 R b nn D0) (h0 : J [] W) :
    CallsIn Fence.wide n Tryz.prog 319 #[.func (.yield l) #[] #[], .pointer (some ⟨Bm, o, none⟩)] W fun e W' => (∃ v, e = .returned v) ∧ ∃ ss : List (List UInt8), ss.Perm (strKeys D0) ∧ J ss W' := by
  refine callsIn_of_wp Tryz.func319 rfl trivial ?_ rfl
  simp only [Tryz.ntmps319, List.size_toArray, List.length_cons, List.length_nil, Nat.reduceAdd, Nat.reduceSub, Array.replicate_succ, Array.replicate_zero, List.push_toArray, List.append_toArray, List.nil_append, List.cons_append]
  gi_wp2_with (first
    | (gi_at_range; refine wpListIn_range_own _ rfl _ 127 rfl 9 236 law9 Tryz.underlying127 _ b nn _ rfl hown ?_; intro w0 hrg0 hg0 hs0)
    | gi_in)
  go_frame
  gi_loopw [3] (fun _ wr => ∃ (left : Lit → Bool) (cnt : Nat) (ss : List (List UInt8)), wr.ranges Tryz.prog 9 R b W.heap.size nn D0 left cnt ∧ ss.length + cnt ≤ Maps.size D0 ∧ Collected D0 left ss ∧ J ss wr)
    (fun _ wr => wr.rangeLeft b W.heap.size)
  case atStart =>
    exact ⟨_, _, [], hrg0, by simp, Collected.start D0, hJ [] W w0 none h0 hg0 (fun r e => by cases e)⟩
  case round =>
    obtain ⟨left, cnt, ss, hrg, hcs, hC, hJs⟩ := hrel
    gi_wp2_with (first
      | (gi_at_next; refine wpListIn_next_ranges _ rfl _ rfl 9 law9 R encStr id (fun key kl hk => by obtain ⟨x, hx, _⟩ := Maps.keyOf_str Tryz.underlying9 hk; exact ⟨x, hx⟩) (fun v _ _ => ⟨v, rfl⟩) b W.heap.size nn _ _ _ rfl hrg ?_ ?_)
      | gi_in)
    · intro hc0 hl0
      gi_wp2
      go_end0
      exact ⟨⟨_, rfl⟩, ss, hC.perm hown law9 Tryz.underlying9 hl0, hJs⟩
    · intro x c kl yd yp w2 cnt2 hkey hlk hv hat hrg2 hlt hg2 hs2 hen
      obtain ⟨x', ex, rfl, _⟩ := Maps.keyOf_str Tryz.underlying9 hkey
      obtain rfl : x = x' := encStr_inj ex
      have hJ2 : J ss w2 := hJ ss wr w2 (some W.heap.size) hJs hg2 (fun r e => by cases e; exact ⟨Nat.le_refl _, hrg.iter_walk⟩)
      obtain ⟨fn, tmps, assign, body, hy, hR⟩ := hY ss x w2 hJ2 (by omega)
      clear hs2
      gi_wp2
      refine hR.mono ?_
      rintro e W3 ⟨rfl, hJ3, hk3⟩
      gi_wp2
      have hrg3 := hrg2.of_walks hk3
      go_roundw
      case rel => exact ⟨_, cnt2, ss ++ [x], hrg3, by simp; omega, hC.step hlk hat, hJ3⟩
      case measure => rw [hrg3.left_eq, hrg.left_eq]; exact hlt
theorem gives319 {H : Type} (n : Nat) (hn : 1 ≤ n) (Bm o b nn : Nat) (D0 : DataW H) {R : Value → Option (DataW H × List MemPlace)} (w : World) (hBm : Bm < w.heap.size)
    (hm : w.cell? ⟨Bm, o, none⟩ = some (.map (some b))) (hown : w.ownsMap Tryz.prog 9 R b nn D0) :
    SeqGives Fence.wide n Tryz.prog 319 #[.pointer (some ⟨Bm, o, none⟩)] encStr (fun ss => ss.Perm (strKeys D0)) (Maps.size D0) w := fun l J W hW hJ hY h0 => by
  have hown' : W.ownsMap Tryz.prog 9 R b nn D0 := by
    have hbl := hown.lt
    obtain ⟨es, clock, hb, Ft, hs, hD⟩ := hown
    exact ⟨es, clock, (hW.block b hbl).trans hb, Ft, hs, hD⟩
  exact keys319 n hn l Bm o b nn D0 J hY W hJ ((hW.cell (p := ⟨Bm, o, none⟩) hBm).trans hm) hown' h0
theorem sorted319 {H : Type} (Bm o b nn : Nat) (D0 : DataW H) {R : Value → Option (DataW H × List MemPlace)} (w : World) (hBm : Bm < w.heap.size) (hm : w.cell? ⟨Bm, o, none⟩ = some (.map (some b)))
    (hown : w.ownsMap Tryz.prog 9 R b nn D0) (hmax : Maps.size D0 ≤ maxLen) (hbytes : Maps.size D0 * 16 ≤ 140737488355328) :
    Calls Tryz.prog 185 #[.func (.func 319) #[] #[.pointer (some ⟨Bm, o, none⟩)]] w fun e w' => ∃ (v : Value) (ss : List (List UInt8)), e = .returned v ∧ ss.Perm (strKeys D0) ∧
      w'.ownsRow w.heap.size 9 1 v ss.length ((ss.mergeSort (fun x y => decide (x ≤ y))).map encStr) ∧ (v = .slice none 0 0 ↔ ss = []) ∧ Below w.heap.size w w' :=
  (callsIn_wide (n := 5)).1 (AnyZ.sorted_in sorted185_lay Fence.wide 5 trivial trivial trivial trivial rfl (by omega) (sorts185 _) (enters_of Tryz.func184 (by kernel_rfl) rfl) 319 #[.pointer (some ⟨Bm, o, none⟩)] trivial (enters_of Tryz.func319 (by kernel_rfl) rfl) _ _ hmax hbytes _ (gives319 _ (by omega) Bm o b nn D0 w hBm hm hown))
end Go.Proofs.YtjgmpdklfcmelaaGreatDoor.V2
namespace Go.Proofs.YtjgmpdklfcmelaaGreatDoor.V2
open Go
open Go.RowKit Go.Maps Go.Sort
theorem HR.adopt {ρ : Ren} {σ : AH} {W W' : World} (h : HR ρ σ W) (hb : Below W.heap.size W W') {g s : Nat} (hg : W.heap.size ≤ g) (hg' : g < W'.heap.size) (hs : σ.next < 1000000) {o : AObj} (hO : OR ρ (0, s) o W'.heap[g]?) :
    ∃ ρ', ρ' σ.next = some (g, (0, s)) ∧ Sub ρ ρ' ∧ HR ρ' (σ.new o) W' ∧ Stp σ.next ρ σ W ρ' (σ.new o) W' := by
  have hn : ρ σ.next = none := by
    cases hc : ρ σ.next with
    | none => rfl
    | some c => have := (h.dom _ c.1 c.2 hc).1; omega
  have hget : ∀ m, (σ.new o).get m = if m = σ.next then some o else σ.get m := fun m => T.get_put _ _ _ _ (by omega)
  have hsub : Sub ρ (fun b => if b = σ.next then some (g, (0, s)) else ρ b) := fun b x hc => by
    have hne : b ≠ σ.next := by rintro rfl; rw [hn] at hc; cases hc
    simp only [if_neg hne]; exact hc
  refine ⟨fun b => if b = σ.next then some (g, (0, s)) else ρ b, if_pos rfl, hsub, ⟨by show σ.next + 1 ≤ _; omega, fun m hm => by have hm : σ.next + 1 ≤ m := hm; rw [hget, if_neg (by omega)]; exact h.none_ m (by omega), fun b c d hc => ?_, fun b b' c d d' h1 h2 hne => ?_⟩, ⟨fun b hb => if_neg (by omega), fun b c d hc => ?_, by show σ.next ≤ σ.next + 1; omega, fun b ob hb _ ho' _ => ?_, fun c hc _ => hb.block c hc, hb.tape, hb.os, hb.output, hb.size, fun b c d ob hb' _ hc ho' _ => ⟨by rw [hget, if_neg (by omega)]; exact ho', hb.block c hc⟩⟩⟩
  · rw [hget]
    by_cases hbn : b = σ.next
    · subst hbn
      simp only [if_true, Option.some.injEq, Prod.mk.injEq] at hc
      obtain ⟨rfl, rfl⟩ := hc
      exact ⟨Nat.lt_succ_self _, hg', o, if_pos rfl, hO.mono hsub⟩
    · simp only [if_neg hbn] at hc ⊢
      obtain ⟨h1, h2, o2, h3, h4⟩ := h.dom b c d hc
      refine ⟨by show b < σ.next + 1; omega, Nat.lt_of_lt_of_le h2 hb.size, o2, h3, ?_⟩
      rw [hb.block c h2]
      exact h4.mono hsub
  · by_cases e1 : b = σ.next
    · subst e1
      simp only [if_true, Option.some.injEq, Prod.mk.injEq] at h1
      obtain ⟨rfl, rfl⟩ := h1
      simp only [if_neg (Ne.symm hne)] at h2
      have := (h.dom _ _ _ h2).2.1
      omega
    · by_cases e2 : b' = σ.next
      · subst e2
        simp only [if_true, Option.some.injEq, Prod.mk.injEq] at h2
        obtain ⟨rfl, rfl⟩ := h2
        simp only [if_neg e1] at h1
        have := (h.dom _ _ _ h1).2.1
        omega
      · simp only [if_neg e1, if_neg e2] at h1 h2
        exact (h.inj b b' c d d' h1 h2 hne).congr (by rw [hget, if_neg e1]) (by rw [hget, if_neg e2])
  · by_cases hbn : b = σ.next
    · subst hbn
      simp only [if_true, Option.some.injEq, Prod.mk.injEq] at hc
      exact .inr (by omega)
    · simp only [if_neg hbn] at hc
      exact .inl ⟨b, d, hc⟩
  · rw [hget, if_neg (by omega)]; exact ho'
theorem vrs_strs (ρ : Ren) : ∀ ss : List (List UInt8), VRs ρ (ss.map AV.str) (ss.map encStr)
  | [] => rfl
  | s :: ss => ⟨_, _, rfl, rfl, vrs_strs ρ ss⟩
theorem adopt_strs {ρ : Ren} {σ : AH} {W W' : World} (h : HR ρ σ W) (hb : Below W.heap.size W W') (hs : σ.next < 1000000) {u : Value} {ss : List (List UInt8)} (hne : ss ≠ []) (ho : W'.ownsRow W.heap.size 9 1 u ss.length (ss.map encStr)) :
    ∃ ρ', HR ρ' (σ.new (.cells (ss.map AV.str) 9 .more)) W' ∧ Stp σ.next ρ σ W ρ' (σ.new (.cells (ss.map AV.str) 9 .more)) W' ∧ VR ρ' (.sl σ.next 0 ss.length ss.length false 1) u := by
  have hl : 0 < ss.length := List.length_pos_iff.2 hne
  obtain ⟨_, ⟨_, h0⟩ | ⟨g, cap, cur, rfl, hg, hrow, hn, hcap, hsz, htk⟩⟩ := ho
  · omega
  have hg' : g < W'.heap.size := (Array.getElem?_eq_some_iff.1 hrow).1
  have hO : OR ρ (0, cap) (.cells (ss.map AV.str) 9 .more) W'.heap[g]? := by
    rw [hrow]
    refine OR.mk' rfl ⟨cur, 9, (0, 0), rfl, fun _ => ⟨rfl, .inl rfl, by rw [hsz, Nat.mul_one]⟩, by show (ss.map AV.str).length + 0 ≤ _; rw [List.length_map]; omega, by show (ss.map AV.str).length + 0 ≤ cap; rw [List.length_map]; omega, fun i a hi => ?_⟩
    have hil : i < ss.length := by have := (List.getElem?_eq_some_iff.1 hi).1; rwa [List.length_map] at this
    obtain ⟨v, h1, h2⟩ := (vrs_strs ρ ss).at i a hi
    refine ⟨v, ?_, h2⟩
    have e1 : (cur.toList.take (ss.length * 1))[i]? = (ss.map encStr)[i]? := by rw [htk]
    rw [List.getElem?_take, if_pos (by omega), Array.getElem?_toList] at e1
    rw [Nat.add_zero, e1]; exact h1
  obtain ⟨ρ', k1, _, k3, k4⟩ := h.adopt hb hg hg' hs hO
  refine ⟨ρ', k3, k4, ?_⟩
  unfold VR
  exact .inl ⟨g, (0, cap), 0, cap, k1, rfl, fun _ => rfl, Nat.le_refl _, hn, fun h => (by cases h), by show 0 + cap * 1 ≤ cap; omega⟩
def keysS : List (AV × AV) → Option (List (List UInt8))
  | [] => some []
  | p :: l => match p.1 with
    | .str s => match keysS l with
      | some m => some (s :: m)
      | none => none
    | _ => none
theorem keysS_spec {ρ : Ren} : ∀ {l : List (AV × AV)} {ks : List (List UInt8)} {es : List MapEntry}, keysS l = some ks → MapL ρ l es → es.map (·.key) = ks.map encStr
  | [], ks, es, h, hm => by cases h; rw [show es = [] from hm]; rfl
  | p :: l, ks, es, h, hm => by
    obtain ⟨e, m, rfl, h1, h2, h3⟩ := hm
    obtain ⟨a, b⟩ := p
    cases a <;> first | (cases h; done) | skip
    rename_i s
    simp only [keysS] at h
    cases hk : keysS l <;> rw [hk] at h
    · cases h
    rename_i m'
    cases h
    have h1 : e.key = .string ⟨s.toArray⟩ := h1
    rw [List.map_cons, List.map_cons, keysS_spec hk h3, h1]
def insS (x : List UInt8) : List (List UInt8) → List (List UInt8)
  | [] => [x]
  | y :: l => bif decide (y < x) then y :: insS x l else x :: y :: l
def sortS : List (List UInt8) → List (List UInt8)
  | [] => []
  | x :: l => insS x (sortS l)
def risS : List (List UInt8) → Bool
  | [] => true
  | x :: l => (match l with | [] => true | y :: _ => decide (x < y)) && risS l
theorem insS_perm (x : List UInt8) : ∀ l, (insS x l).Perm (x :: l)
  | [] => .refl _
  | y :: l => by
    unfold insS
    cases decide (y < x)
    · exact .refl _
    · exact (List.Perm.cons y (insS_perm x l)).trans (.swap _ _ _)
theorem sortS_perm : ∀ l, (sortS l).Perm l
  | [] => .refl _
  | x :: l => (insS_perm x _).trans (.cons x (sortS_perm l))
theorem risS_lt : ∀ {l : List (List UInt8)}, risS l = true → l.Pairwise (· < ·)
  | [], _ => .nil
  | [x], _ => List.pairwise_singleton _ _
  | x :: y :: l, h => by
    unfold risS at h
    rw [Bool.and_eq_true, decide_eq_true_eq] at h
    have ih := risS_lt h.2
    refine List.pairwise_cons.2 ⟨fun z hz => ?_, ih⟩
    rcases List.mem_cons.1 hz with rfl | hz
    · exact h.1
    · exact List.lt_trans h.1 (List.rel_of_pairwise_cons ih hz)
theorem risS_sort {l : List (List UInt8)} (h : risS (sortS l) = true) : l.Nodup ∧ l.mergeSort (fun x y => decide (x ≤ y)) = sortS l := by
  have hp := risS_lt h
  refine ⟨(sortS_perm l).nodup_iff.1 (hp.imp fun {a b} hab e => by subst e; exact List.lt_irrefl _ hab), ?_⟩
  have hle : (sortS l).Pairwise (fun a b => leB a b = true) := hp.imp fun {a b} hab => by simp only [leB, decide_eq_true_eq]; exact List.le_of_lt hab
  show l.mergeSort leB = _
  rw [mergeSort_of_perm (sortS_perm l).symm]
  exact List.mergeSort_of_pairwise hle
def shS (l : List (List UInt8)) : Bool := l.all fun s => Nat.ble s.length 1000000
def RNil (_ : Value) : Option (DataW Nat × List MemPlace) := some (.nil, [])
theorem own_of {ρ : Ren} {l : List (AV × AV)} {c : Nat} {W : World} (hM : MR ρ l W.heap[c]?) {ks : List (List UInt8)} (hk : keysS l = some ks) (hn : ks.Nodup) (hs : shS ks = true) (hl : ks.length ≤ 1000000) :
    ∃ D : DataW Nat, W.ownsMap Tryz.prog 9 RNil c ks.length D ∧ (strKeys D).Perm ks ∧ Maps.size D = ks.length := by
  obtain ⟨es, ck, hb, h1, h2, h3⟩ := hM
  have hkey := keysS_spec hk h1
  have hlen : es.size = ks.length := by have := congrArg List.length hkey; simpa using this
  have hrd : ∀ x ∈ es.toList, ∃ s, s ∈ ks ∧ x.key = encStr s ∧ Go.WideElems.rd Tryz.prog 9 RNil x = some (.string s, .nil) := fun x hx => by
    have : x.key ∈ ks.map encStr := by rw [← hkey]; exact List.mem_map_of_mem hx
    obtain ⟨s, hs1, hs2⟩ := List.mem_map.1 this
    refine ⟨s, hs1, hs2.symm, ?_⟩
    have hsl : s.length ≤ 1000000 := by have := List.all_eq_true.1 hs s hs1; rwa [Nat.ble_eq] at this
    have hko : keyOf Tryz.prog 9 (encStr s) = some (.string s) := by
      simp only [keyOf, Tryz.underlying9, mapKey, encStr]
      rw [if_pos (by show s.toArray.size ≤ maxLen; simp [maxLen]; omega)]
    exact Go.WideElems.rd_mk (yv := (.nil, [])) (by rw [← hs2]; exact hko) rfl
  have F : Go.WideElems.Fit Tryz.prog 9 RNil es ck := ⟨by rw [hlen]; simp only [maxLen]; omega, ⟨h3, Go.Proofs.YtjgmpdklfcmelaaGreatDoor.V2.nodup_born h2, by rw [hkey]; exact List.pairwise_map.2 (hn.imp fun {a b} hab e => hab (encStr_inj e))⟩, fun x hx => by obtain ⟨s, _, _, h⟩ := hrd x hx; exact ⟨_, h⟩⟩
  refine ⟨_, ⟨es, ck, hb, F, Nat.le_of_eq hlen, rfl⟩, ?_, ?_⟩
  · show (((es.toList.map (Go.WideElems.rg Tryz.prog 9 RNil)).foldr DataW.insert []).map fun p => strOf p.1).Perm ks
    refine ((WideShapes.sorted_perm _).map _).trans ?_
    have : (es.toList.map (Go.WideElems.rg Tryz.prog 9 RNil)).map (fun p => strOf p.1) = ks := by
      have e2 : ∀ x ∈ es.toList, encStr (strOf (Go.WideElems.rg Tryz.prog 9 RNil x).1) = x.key := fun x hx => by
        obtain ⟨s, _, h5, h6⟩ := hrd x hx
        rw [Go.WideElems.rg_of h6, h5]; rfl
      have e3 : ((es.toList.map (Go.WideElems.rg Tryz.prog 9 RNil)).map (fun p => strOf p.1)).map encStr = ks.map encStr := by
        rw [List.map_map, List.map_map, ← hkey]
        exact List.map_congr_left e2
      exact (List.map_inj_right fun a b h => encStr_inj h).1 e3
    rw [this]
  · show ((es.toList.map (Go.WideElems.rg Tryz.prog 9 RNil)).foldr DataW.insert []).length = _
    rw [(WideShapes.sorted_perm _).length_eq, List.length_map, Array.length_toList, hlen]
noncomputable def srtO (σ : AH) (ks : List (List UInt8)) : Out := match sortS ks with
  | [] => (true, .nilsl, σ)
  | x :: l => (risS (x :: l) && shS ks && Nat.ble ks.length 1000000 && Nat.blt σ.next 1000000, .sl σ.next 0 (x :: l).length (x :: l).length false 1, σ.new (.cells ((x :: l).map AV.str) 9 .more))
noncomputable def srtM (σ : AH) (m : Nat) : Out := match σ.get m with
  | some (.map l) => match keysS l with
    | some ks => srtO σ ks
    | none => bad σ
  | _ => bad σ
noncomputable def srtA (args : List AV) (σ : AH) : Out := match args with
  | [.fn (.func q) [] [.ptr b o]] => bif Nat.beq q 250 || Nat.beq q 319 then match (σ.get b).bind fun ob => ob.at o with
    | some (.map m) => srtM σ m
    | _ => bad σ else bad σ
  | _ => bad σ
noncomputable def srF (g : FuncId → List AV → AH → Out) (f : FuncId) (args : List AV) (σ : AH) : Out := bif Nat.beq f 185 then srtA args σ else g f args σ
theorem srtO_ok {ρ : Ren} {σ : AH} {W : World} (hr : HR ρ σ W) {l : List (AV × AV)} {c : Nat} (hM : MR ρ l W.heap[c]?) {ks : List (List UInt8)} (hk : keysS l = some ks) (h : (srtO σ ks).1 = true) {v : Value}
    (hC : ∀ (D0 : DataW Nat), W.ownsMap Tryz.prog 9 RNil c ks.length D0 → Maps.size D0 ≤ maxLen → Maps.size D0 * 16 ≤ 140737488355328 → Calls Tryz.prog 185 #[v] W fun e w' => ∃ (v : Value) (ss : List (List UInt8)), e = .returned v ∧ ss.Perm (strKeys D0) ∧
      w'.ownsRow W.heap.size 9 1 v ss.length ((ss.mergeSort (fun x y => decide (x ≤ y))).map encStr) ∧ (v = .slice none 0 0 ↔ ss = []) ∧ Below W.heap.size W w') :
    Calls Tryz.prog 185 #[v] W fun e W' => ∃ v ρ', e = .returned v ∧ HR ρ' (srtO σ ks).2.2 W' ∧ Stp σ.next ρ σ W ρ' (srtO σ ks).2.2 W' ∧ VR ρ' (srtO σ ks).2.1 v := by
  unfold srtO at h ⊢
  have hso := sortS_perm ks
  cases hS : sortS ks with
  | nil =>
    rw [hS] at hso
    have hks : ks = [] := by simpa using hso.symm.length_eq
    subst hks
    obtain ⟨D, h1, h2, h3⟩ := own_of hM hk List.nodup_nil rfl (by simp)
    refine (hC D h1 (by rw [h3]; simp) (by rw [h3]; simp)).mono ?_
    rintro e W' ⟨v, ss, rfl, g1, g2, g3, g4⟩
    have : ss = [] := by have := (g1.trans h2).length_eq; simpa using this
    refine ⟨v, ρ, rfl, hr.below g4, .below (Nat.le_refl _) g4, ?_⟩
    unfold VR
    exact g3.2 this
  | cons x t =>
    rw [hS] at h
    simp only [Bool.and_eq_true, Nat.ble_eq, Nat.blt_eq] at h
    obtain ⟨⟨⟨h1, h2⟩, h3⟩, h4⟩ := h
    rw [← hS] at h1
    obtain ⟨i1, i2⟩ := risS_sort h1
    obtain ⟨D, j1, j2, j3⟩ := own_of hM hk i1 h2 h3
    refine (hC D j1 (by rw [j3]; simp only [maxLen]; omega) (by rw [j3]; omega)).mono ?_
    rintro e W' ⟨v, ss, rfl, g1, g2, g3, g4⟩
    have e1 : ss.mergeSort (fun x y => decide (x ≤ y)) = x :: t := by
      rw [← hS, ← i2]
      exact mergeSort_of_perm (g1.trans j2)
    have e2 : ss.length = (x :: t).length := by rw [← hS, hso.length_eq, (g1.trans j2).length_eq]
    rw [e1, e2] at g2
    obtain ⟨ρ', k1, k2, k3⟩ := adopt_strs hr g4 h4 (by simp) g2
    exact ⟨v, ρ', rfl, k1, k2, k3⟩
theorem srF_ok {Y : List Yl} {g : FuncId → List AV → AH → Out} (hg : FnOk Tryz.prog 6 g Y) : FnOk Tryz.prog 6 (srF g) Y := by
  intro f args σ h
  unfold srF at h ⊢
  cases hf : Nat.beq f 185
  case false => rw [hf] at h; rw [cond_false] at h ⊢; exact hg f args σ h
  rw [hf] at h
  simp only [cond_true] at h ⊢
  have e := Nat.eq_of_beq_eq_true hf
  subst e
  refine ⟨⟨_, Tryz.func185, by kernel_rfl, by kernel_rfl⟩, fun ρ W vs _ hG hr hvs => ?_⟩
  unfold srtA at h ⊢
  split at h
  case h_2 => cases h
  rename_i q b o
  cases hq : Nat.beq q 250 || Nat.beq q 319 <;> rw [hq] at h
  · cases h
  rw [cond_true] at h ⊢
  split at h
  case h_2 => cases h
  rename_i m hm
  obtain ⟨ob, hob, hat⟩ := Option.bind_eq_some_iff.1 hm
  obtain ⟨v, mm, rfl, hv, hmm⟩ := hvs
  have hmm : mm = [] := hmm
  subst hmm
  unfold VR at hv
  obtain ⟨us, ys, rfl, hus, hys⟩ := hv
  have hus : us = [] := hus
  subst hus
  obtain ⟨y, yy, rfl, hy, hyy⟩ := hys
  have hyy : yy = [] := hyy
  subst hyy
  unfold VR at hy
  obtain ⟨c, d, hc, rfl⟩ := hy
  obtain ⟨_, hcl, ob', ho', hO⟩ := hr.dom b c d hc
  rw [hob] at ho'
  cases ho'
  have hcy : ob.cellsy = true := by cases ob <;> first | rfl | (exact absurd hat (by simp [AObj.at]))
  have hpos : 0 < ob.len := by
    cases ob <;> simp only [AObj.at] at hat
    · cases hat
    · exact Nat.lt_of_le_of_lt (Nat.zero_le _) (List.getElem?_eq_some_iff.1 hat).1
    · obtain ⟨_, h5, _⟩ := Option.map_eq_some_iff.1 hat; exact Nat.lt_of_le_of_lt (Nat.zero_le _) (List.getElem?_eq_some_iff.1 h5).1
    · cases hat
    · cases hat
  obtain ⟨cs, el, fr, hx, _, _, _, hall⟩ := (hO.1 hcy).2 fun _ => hpos
  obtain ⟨u, hu, huv⟩ := hall o _ hat
  unfold VR at huv
  obtain ⟨c2, d2, hc2, rfl⟩ := huv
  have hcell : W.cell? ⟨c, o + d.1, none⟩ = some (.map (some c2)) := by simp [World.cell?, hx, hu]
  obtain ⟨_, _, ob2, ho2, hO2⟩ := hr.dom m c2 d2 hc2
  unfold srtM at h ⊢
  split at h
  case h_2 => cases h
  rename_i l hl
  rw [hl] at ho2
  cases ho2
  cases hk : keysS l <;> simp only [hk] at h ⊢
  · cases h
  rename_i ks
  rw [Bool.or_eq_true] at hq
  rcases hq with hq | hq
  · have e := Nat.eq_of_beq_eq_true hq
    subst e
    exact srtO_ok hr (hO2.2 l rfl) hk h fun D0 h1 h2 h3 => sorted250 c (o + d.1) c2 ks.length D0 W hcl hcell h1 h2 h3
  · have e := Nat.eq_of_beq_eq_true hq
    subst e
    exact srtO_ok hr (hO2.2 l rfl) hk h fun D0 h1 h2 h3 => sorted319 c (o + d.1) c2 ks.length D0 W hcl hcell h1 h2 h3
end Go.Proofs.YtjgmpdklfcmelaaGreatDoor.V2
namespace Go.Proofs.YtjgmpdklfcmelaaGreatDoor.V2
open Go
set_option linter.unusedVariables false
noncomputable def c18 : ACode := (compC Tryz.prog 6 Tryz.f18.ntmps (fun _ => false) (Tryz.f18.body.getD .skip)).getD .bad
theorem comp18 : (V2.compC Tryz.prog 6 Tryz.f18.ntmps (fun _ => false) (Tryz.f18.body.getD .skip), V2.compR Tryz.prog Tryz.f18.results.toList) = (some c18, some [(.tmp 4), (.tmp 5)]) := by kernel_rfl
theorem body18 : Tryz.f18.body = some (Tryz.f18.body.getD .skip) := by kernel_rfl
noncomputable def c23 : ACode := (compC Tryz.prog 6 Tryz.f23.ntmps (fun _ => false) (Tryz.f23.body.getD .skip)).getD .bad
theorem comp23 : (V2.compC Tryz.prog 6 Tryz.f23.ntmps (fun _ => false) (Tryz.f23.body.getD .skip), V2.compR Tryz.prog Tryz.f23.results.toList) = (some c23, some [(.tmp 4)]) := by kernel_rfl
theorem body23 : Tryz.f23.body = some (Tryz.f23.body.getD .skip) := by kernel_rfl
noncomputable def c25 : ACode := (compC Tryz.prog 6 Tryz.f25.ntmps (fun _ => false) (Tryz.f25.body.getD .skip)).getD .bad
theorem comp25 : (V2.compC Tryz.prog 6 Tryz.f25.ntmps (fun _ => false) (Tryz.f25.body.getD .skip), V2.compR Tryz.prog Tryz.f25.results.toList) = (some c25, some [(.tmp 2)]) := by kernel_rfl
theorem body25 : Tryz.f25.body = some (Tryz.f25.body.getD .skip) := by kernel_rfl
noncomputable def c26 : ACode := (compC Tryz.prog 6 Tryz.f26.ntmps (fun _ => false) (Tryz.f26.body.getD .skip)).getD .bad
theorem comp26 : (V2.compC Tryz.prog 6 Tryz.f26.ntmps (fun _ => false) (Tryz.f26.body.getD .skip), V2.compR Tryz.prog Tryz.f26.results.toList) = (some c26, some [(.tmp 2)]) := by kernel_rfl
theorem body26 : Tryz.f26.body = some (Tryz.f26.body.getD .skip) := by kernel_rfl
noncomputable def c27 : ACode := (compC Tryz.prog 6 Tryz.f27.ntmps (fun _ => false) (Tryz.f27.body.getD .skip)).getD .bad
theorem comp27 : (V2.compC Tryz.prog 6 Tryz.f27.ntmps (fun _ => false) (Tryz.f27.body.getD .skip), V2.compR Tryz.prog Tryz.f27.results.toList) = (some c27, some [(.tmp 0)]) := by kernel_rfl
theorem body27 : Tryz.f27.body = some (Tryz.f27.body.getD .skip) := by kernel_rfl
noncomputable def c32 : ACode := (compC Tryz.prog 6 Tryz.f32.ntmps (fun _ => false) (Tryz.f32.body.getD .skip)).getD .bad
theorem comp32 : (V2.compC Tryz.prog 6 Tryz.f32.ntmps (fun _ => false) (Tryz.f32.body.getD .skip), V2.compR Tryz.prog Tryz.f32.results.toList) = (some c32, some [(.tmp 2), (.tmp 3)]) := by kernel_rfl
theorem body32 : Tryz.f32.body = some (Tryz.f32.body.getD .skip) := by kernel_rfl
noncomputable def c46 : ACode := (compC Tryz.prog 6 Tryz.f46.ntmps (fun _ => false) (Tryz.f46.body.getD .skip)).getD .bad
theorem comp46 : (V2.compC Tryz.prog 6 Tryz.f46.ntmps (fun _ => false) (Tryz.f46.body.getD .skip), V2.compR Tryz.prog Tryz.f46.results.toList) = (some c46, some [(.tmp 4), (.tmp 5)]) := by kernel_rfl
theorem body46 : Tryz.f46.body = some (Tryz.f46.body.getD .skip) := by kernel_rfl
noncomputable def c47 : ACode := (compC Tryz.prog 6 Tryz.f47.ntmps (fun _ => false) (Tryz.f47.body.getD .skip)).getD .bad
theorem comp47 : (V2.compC Tryz.prog 6 Tryz.f47.ntmps (fun _ => false) (Tryz.f47.body.getD .skip), V2.compR Tryz.prog Tryz.f47.results.toList) = (some c47, some [(.cell1 2), (.cell1 3)]) := by kernel_rfl
theorem body47 : Tryz.f47.body = some (Tryz.f47.body.getD .skip) := by kernel_rfl
noncomputable def c48 : ACode := (compC Tryz.prog 6 Tryz.f48.ntmps (fun _ => false) (Tryz.f48.body.getD .skip)).getD .bad
theorem comp48 : (V2.compC Tryz.prog 6 Tryz.f48.ntmps (fun _ => false) (Tryz.f48.body.getD .skip), V2.compR Tryz.prog Tryz.f48.results.toList) = (some c48, some [(.cellN 4 8), (.tmp 5)]) := by kernel_rfl
theorem body48 : Tryz.f48.body = some (Tryz.f48.body.getD .skip) := by kernel_rfl
noncomputable def c49 : ACode := (compC Tryz.prog 6 Tryz.f49.ntmps (fun _ => false) (Tryz.f49.body.getD .skip)).getD .bad
theorem comp49 : (V2.compC Tryz.prog 6 Tryz.f49.ntmps (fun _ => false) (Tryz.f49.body.getD .skip), V2.compR Tryz.prog Tryz.f49.results.toList) = (some c49, some [(.tmp 6)]) := by kernel_rfl
theorem body49 : Tryz.f49.body = some (Tryz.f49.body.getD .skip) := by kernel_rfl
noncomputable def c50 : ACode := (compC Tryz.prog 6 Tryz.f50.ntmps (fun _ => false) (Tryz.f50.body.getD .skip)).getD .bad
theorem comp50 : (V2.compC Tryz.prog 6 Tryz.f50.ntmps (fun _ => false) (Tryz.f50.body.getD .skip), V2.compR Tryz.prog Tryz.f50.results.toList) = (some c50, some [(.tmp 2)]) := by kernel_rfl
theorem body50 : Tryz.f50.body = some (Tryz.f50.body.getD .skip) := by kernel_rfl
noncomputable def c51 : ACode := (compC Tryz.prog 6 Tryz.f51.ntmps (fun _ => false) (Tryz.f51.body.getD .skip)).getD .bad
theorem comp51 : (V2.compC Tryz.prog 6 Tryz.f51.ntmps (fun _ => false) (Tryz.f51.body.getD .skip), V2.compR Tryz.prog Tryz.f51.results.toList) = (some c51, some [(.tmp 2)]) := by kernel_rfl
theorem body51 : Tryz.f51.body = some (Tryz.f51.body.getD .skip) := by kernel_rfl
noncomputable def c52 : ACode := (compC Tryz.prog 6 Tryz.f52.ntmps (fun _ => false) (Tryz.f52.body.getD .skip)).getD .bad
theorem comp52 : (V2.compC Tryz.prog 6 Tryz.f52.ntmps (fun _ => false) (Tryz.f52.body.getD .skip), V2.compR Tryz.prog Tryz.f52.results.toList) = (some c52, some [(.tmp 2)]) := by kernel_rfl
theorem body52 : Tryz.f52.body = some (Tryz.f52.body.getD .skip) := by kernel_rfl
noncomputable def c53 : ACode := (compC Tryz.prog 6 Tryz.f53.ntmps (fun _ => false) (Tryz.f53.body.getD .skip)).getD .bad
theorem comp53 : (V2.compC Tryz.prog 6 Tryz.f53.ntmps (fun _ => false) (Tryz.f53.body.getD .skip), V2.compR Tryz.prog Tryz.f53.results.toList) = (some c53, some [(.tmp 2)]) := by kernel_rfl
theorem body53 : Tryz.f53.body = some (Tryz.f53.body.getD .skip) := by kernel_rfl
noncomputable def c54 : ACode := (compC Tryz.prog 6 Tryz.f54.ntmps (fun _ => false) (Tryz.f54.body.getD .skip)).getD .bad
theorem comp54 : (V2.compC Tryz.prog 6 Tryz.f54.ntmps (fun _ => false) (Tryz.f54.body.getD .skip), V2.compR Tryz.prog Tryz.f54.results.toList) = (some c54, some [(.tmp 2), (.tmp 3)]) := by kernel_rfl
theorem body54 : Tryz.f54.body = some (Tryz.f54.body.getD .skip) := by kernel_rfl
noncomputable def c55 : ACode := (compC Tryz.prog 6 Tryz.f55.ntmps (fun _ => false) (Tryz.f55.body.getD .skip)).getD .bad
theorem comp55 : (V2.compC Tryz.prog 6 Tryz.f55.ntmps (fun _ => false) (Tryz.f55.body.getD .skip), V2.compR Tryz.prog Tryz.f55.results.toList) = (some c55, some [(.tmp 4)]) := by kernel_rfl
theorem body55 : Tryz.f55.body = some (Tryz.f55.body.getD .skip) := by kernel_rfl
noncomputable def c56 : ACode := (compC Tryz.prog 6 Tryz.f56.ntmps (fun _ => false) (Tryz.f56.body.getD .skip)).getD .bad
theorem comp56 : (V2.compC Tryz.prog 6 Tryz.f56.ntmps (fun _ => false) (Tryz.f56.body.getD .skip), V2.compR Tryz.prog Tryz.f56.results.toList) = (some c56, some [(.tmp 4)]) := by kernel_rfl
theorem body56 : Tryz.f56.body = some (Tryz.f56.body.getD .skip) := by kernel_rfl
noncomputable def c57 : ACode := (compC Tryz.prog 6 Tryz.f57.ntmps (fun _ => false) (Tryz.f57.body.getD .skip)).getD .bad
theorem comp57 : (V2.compC Tryz.prog 6 Tryz.f57.ntmps (fun _ => false) (Tryz.f57.body.getD .skip), V2.compR Tryz.prog Tryz.f57.results.toList) = (some c57, some [(.tmp 2), (.tmp 3)]) := by kernel_rfl
theorem body57 : Tryz.f57.body = some (Tryz.f57.body.getD .skip) := by kernel_rfl
noncomputable def c58 : ACode := (compC Tryz.prog 6 Tryz.f58.ntmps (fun _ => false) (Tryz.f58.body.getD .skip)).getD .bad
theorem comp58 : (V2.compC Tryz.prog 6 Tryz.f58.ntmps (fun _ => false) (Tryz.f58.body.getD .skip), V2.compR Tryz.prog Tryz.f58.results.toList) = (some c58, some [(.tmp 2)]) := by kernel_rfl
theorem body58 : Tryz.f58.body = some (Tryz.f58.body.getD .skip) := by kernel_rfl
noncomputable def c59 : ACode := (compC Tryz.prog 6 Tryz.f59.ntmps (fun _ => false) (Tryz.f59.body.getD .skip)).getD .bad
theorem comp59 : (V2.compC Tryz.prog 6 Tryz.f59.ntmps (fun _ => false) (Tryz.f59.body.getD .skip), V2.compR Tryz.prog Tryz.f59.results.toList) = (some c59, some [(.tmp 2)]) := by kernel_rfl
theorem body59 : Tryz.f59.body = some (Tryz.f59.body.getD .skip) := by kernel_rfl
noncomputable def c60 : ACode := (compC Tryz.prog 6 Tryz.f60.ntmps (fun _ => false) (Tryz.f60.body.getD .skip)).getD .bad
theorem comp60 : (V2.compC Tryz.prog 6 Tryz.f60.ntmps (fun _ => false) (Tryz.f60.body.getD .skip), V2.compR Tryz.prog Tryz.f60.results.toList) = (some c60, some [(.tmp 2)]) := by kernel_rfl
theorem body60 : Tryz.f60.body = some (Tryz.f60.body.getD .skip) := by kernel_rfl
noncomputable def c61 : ACode := (compC Tryz.prog 6 Tryz.f61.ntmps (fun _ => false) (Tryz.f61.body.getD .skip)).getD .bad
theorem comp61 : (V2.compC Tryz.prog 6 Tryz.f61.ntmps (fun _ => false) (Tryz.f61.body.getD .skip), V2.compR Tryz.prog Tryz.f61.results.toList) = (some c61, some [(.tmp 4)]) := by kernel_rfl
theorem body61 : Tryz.f61.body = some (Tryz.f61.body.getD .skip) := by kernel_rfl
noncomputable def c62 : ACode := (compC Tryz.prog 6 Tryz.f62.ntmps (fun _ => false) (Tryz.f62.body.getD .skip)).getD .bad
theorem comp62 : (V2.compC Tryz.prog 6 Tryz.f62.ntmps (fun _ => false) (Tryz.f62.body.getD .skip), V2.compR Tryz.prog Tryz.f62.results.toList) = (some c62, some [(.tmp 6)]) := by kernel_rfl
theorem body62 : Tryz.f62.body = some (Tryz.f62.body.getD .skip) := by kernel_rfl
noncomputable def c63 : ACode := (compC Tryz.prog 6 Tryz.f63.ntmps (fun _ => false) (Tryz.f63.body.getD .skip)).getD .bad
theorem comp63 : (V2.compC Tryz.prog 6 Tryz.f63.ntmps (fun _ => false) (Tryz.f63.body.getD .skip), V2.compR Tryz.prog Tryz.f63.results.toList) = (some c63, some [(.tmp 0)]) := by kernel_rfl
theorem body63 : Tryz.f63.body = some (Tryz.f63.body.getD .skip) := by kernel_rfl
noncomputable def c65 : ACode := (compC Tryz.prog 6 Tryz.f65.ntmps (fun _ => false) (Tryz.f65.body.getD .skip)).getD .bad
theorem comp65 : (V2.compC Tryz.prog 6 Tryz.f65.ntmps (fun _ => false) (Tryz.f65.body.getD .skip), V2.compR Tryz.prog Tryz.f65.results.toList) = (some c65, some [(.tmp 4), (.tmp 5)]) := by kernel_rfl
theorem body65 : Tryz.f65.body = some (Tryz.f65.body.getD .skip) := by kernel_rfl
noncomputable def c66 : ACode := (compC Tryz.prog 6 Tryz.f66.ntmps (fun _ => false) (Tryz.f66.body.getD .skip)).getD .bad
theorem comp66 : (V2.compC Tryz.prog 6 Tryz.f66.ntmps (fun _ => false) (Tryz.f66.body.getD .skip), V2.compR Tryz.prog Tryz.f66.results.toList) = (some c66, some [(.cellN 2 3)]) := by kernel_rfl
theorem body66 : Tryz.f66.body = some (Tryz.f66.body.getD .skip) := by kernel_rfl
noncomputable def c67 : ACode := (compC Tryz.prog 6 Tryz.f67.ntmps (fun _ => false) (Tryz.f67.body.getD .skip)).getD .bad
theorem comp67 : (V2.compC Tryz.prog 6 Tryz.f67.ntmps (fun _ => false) (Tryz.f67.body.getD .skip), V2.compR Tryz.prog Tryz.f67.results.toList) = (some c67, some [(.tmp 0)]) := by kernel_rfl
theorem body67 : Tryz.f67.body = some (Tryz.f67.body.getD .skip) := by kernel_rfl
noncomputable def c86 : ACode := (compC Tryz.prog 6 Tryz.f86.ntmps (fun _ => false) (Tryz.f86.body.getD .skip)).getD .bad
theorem comp86 : (V2.compC Tryz.prog 6 Tryz.f86.ntmps (fun _ => false) (Tryz.f86.body.getD .skip), V2.compR Tryz.prog Tryz.f86.results.toList) = (some c86, some [(.tmp 2)]) := by kernel_rfl
theorem body86 : Tryz.f86.body = some (Tryz.f86.body.getD .skip) := by kernel_rfl
noncomputable def c87 : ACode := (compC Tryz.prog 6 Tryz.f87.ntmps (fun _ => false) (Tryz.f87.body.getD .skip)).getD .bad
theorem comp87 : (V2.compC Tryz.prog 6 Tryz.f87.ntmps (fun _ => false) (Tryz.f87.body.getD .skip), V2.compR Tryz.prog Tryz.f87.results.toList) = (some c87, some [(.tmp 4)]) := by kernel_rfl
theorem body87 : Tryz.f87.body = some (Tryz.f87.body.getD .skip) := by kernel_rfl
noncomputable def c88 : ACode := (compC Tryz.prog 6 Tryz.f88.ntmps (fun _ => false) (Tryz.f88.body.getD .skip)).getD .bad
theorem comp88 : (V2.compC Tryz.prog 6 Tryz.f88.ntmps (fun _ => false) (Tryz.f88.body.getD .skip), V2.compR Tryz.prog Tryz.f88.results.toList) = (some c88, some [(.tmp 4)]) := by kernel_rfl
theorem body88 : Tryz.f88.body = some (Tryz.f88.body.getD .skip) := by kernel_rfl
noncomputable def c89 : ACode := (compC Tryz.prog 6 Tryz.f89.ntmps (fun _ => false) (Tryz.f89.body.getD .skip)).getD .bad
theorem comp89 : (V2.compC Tryz.prog 6 Tryz.f89.ntmps (fun _ => false) (Tryz.f89.body.getD .skip), V2.compR Tryz.prog Tryz.f89.results.toList) = (some c89, some [(.tmp 4)]) := by kernel_rfl
theorem body89 : Tryz.f89.body = some (Tryz.f89.body.getD .skip) := by kernel_rfl
noncomputable def c95 : ACode := (compC Tryz.prog 6 Tryz.f95.ntmps (fun _ => false) (Tryz.f95.body.getD .skip)).getD .bad
theorem comp95 : (V2.compC Tryz.prog 6 Tryz.f95.ntmps (fun _ => false) (Tryz.f95.body.getD .skip), V2.compR Tryz.prog Tryz.f95.results.toList) = (some c95, some [(.tmp 6), (.tmp 7)]) := by kernel_rfl
theorem body95 : Tryz.f95.body = some (Tryz.f95.body.getD .skip) := by kernel_rfl
noncomputable def c96 : ACode := (compC Tryz.prog 6 Tryz.f96.ntmps (fun _ => false) (Tryz.f96.body.getD .skip)).getD .bad
theorem comp96 : (V2.compC Tryz.prog 6 Tryz.f96.ntmps (fun _ => false) (Tryz.f96.body.getD .skip), V2.compR Tryz.prog Tryz.f96.results.toList) = (some c96, some [(.tmp 2)]) := by kernel_rfl
theorem body96 : Tryz.f96.body = some (Tryz.f96.body.getD .skip) := by kernel_rfl
noncomputable def c97 : ACode := (compC Tryz.prog 6 Tryz.f97.ntmps (fun _ => false) (Tryz.f97.body.getD .skip)).getD .bad
theorem comp97 : (V2.compC Tryz.prog 6 Tryz.f97.ntmps (fun _ => false) (Tryz.f97.body.getD .skip), V2.compR Tryz.prog Tryz.f97.results.toList) = (some c97, some [(.tmp 2)]) := by kernel_rfl
theorem body97 : Tryz.f97.body = some (Tryz.f97.body.getD .skip) := by kernel_rfl
noncomputable def c98 : ACode := (compC Tryz.prog 6 Tryz.f98.ntmps (fun _ => false) (Tryz.f98.body.getD .skip)).getD .bad
theorem comp98 : (V2.compC Tryz.prog 6 Tryz.f98.ntmps (fun _ => false) (Tryz.f98.body.getD .skip), V2.compR Tryz.prog Tryz.f98.results.toList) = (some c98, some []) := by kernel_rfl
theorem body98 : Tryz.f98.body = some (Tryz.f98.body.getD .skip) := by kernel_rfl
noncomputable def c105 : ACode := (compC Tryz.prog 6 Tryz.f105.ntmps (fun _ => false) (Tryz.f105.body.getD .skip)).getD .bad
theorem comp105 : (V2.compC Tryz.prog 6 Tryz.f105.ntmps (fun _ => false) (Tryz.f105.body.getD .skip), V2.compR Tryz.prog Tryz.f105.results.toList) = (some c105, some [(.tmp 2)]) := by kernel_rfl
theorem body105 : Tryz.f105.body = some (Tryz.f105.body.getD .skip) := by kernel_rfl
noncomputable def c106 : ACode := (compC Tryz.prog 6 Tryz.f106.ntmps (fun _ => false) (Tryz.f106.body.getD .skip)).getD .bad
theorem comp106 : (V2.compC Tryz.prog 6 Tryz.f106.ntmps (fun _ => false) (Tryz.f106.body.getD .skip), V2.compR Tryz.prog Tryz.f106.results.toList) = (some c106, some [(.tmp 2)]) := by kernel_rfl
theorem body106 : Tryz.f106.body = some (Tryz.f106.body.getD .skip) := by kernel_rfl
noncomputable def c107 : ACode := (compC Tryz.prog 6 Tryz.f107.ntmps (fun _ => false) (Tryz.f107.body.getD .skip)).getD .bad
theorem comp107 : (V2.compC Tryz.prog 6 Tryz.f107.ntmps (fun _ => false) (Tryz.f107.body.getD .skip), V2.compR Tryz.prog Tryz.f107.results.toList) = (some c107, some [(.tmp 4)]) := by kernel_rfl
theorem body107 : Tryz.f107.body = some (Tryz.f107.body.getD .skip) := by kernel_rfl
noncomputable def c108 : ACode := (compC Tryz.prog 6 Tryz.f108.ntmps (fun _ => false) (Tryz.f108.body.getD .skip)).getD .bad
theorem comp108 : (V2.compC Tryz.prog 6 Tryz.f108.ntmps (fun _ => false) (Tryz.f108.body.getD .skip), V2.compR Tryz.prog Tryz.f108.results.toList) = (some c108, some [(.tmp 4)]) := by kernel_rfl
theorem body108 : Tryz.f108.body = some (Tryz.f108.body.getD .skip) := by kernel_rfl
noncomputable def c126 : ACode := (compC Tryz.prog 6 Tryz.f126.ntmps (fun _ => false) (Tryz.f126.body.getD .skip)).getD .bad
theorem comp126 : (V2.compC Tryz.prog 6 Tryz.f126.ntmps (fun _ => false) (Tryz.f126.body.getD .skip), V2.compR Tryz.prog Tryz.f126.results.toList) = (some c126, some [(.tmp 2)]) := by kernel_rfl
theorem body126 : Tryz.f126.body = some (Tryz.f126.body.getD .skip) := by kernel_rfl
noncomputable def c127 : ACode := (compC Tryz.prog 6 Tryz.f127.ntmps (fun _ => false) (Tryz.f127.body.getD .skip)).getD .bad
theorem comp127 : (V2.compC Tryz.prog 6 Tryz.f127.ntmps (fun _ => false) (Tryz.f127.body.getD .skip), V2.compR Tryz.prog Tryz.f127.results.toList) = (some c127, some [(.tmp 4)]) := by kernel_rfl
theorem body127 : Tryz.f127.body = some (Tryz.f127.body.getD .skip) := by kernel_rfl
noncomputable def c128 : ACode := (compC Tryz.prog 6 Tryz.f128.ntmps (fun _ => false) (Tryz.f128.body.getD .skip)).getD .bad
theorem comp128 : (V2.compC Tryz.prog 6 Tryz.f128.ntmps (fun _ => false) (Tryz.f128.body.getD .skip), V2.compR Tryz.prog Tryz.f128.results.toList) = (some c128, some [(.cellN 2 10), (.tmp 3)]) := by kernel_rfl
theorem body128 : Tryz.f128.body = some (Tryz.f128.body.getD .skip) := by kernel_rfl
noncomputable def c129 : ACode := (compC Tryz.prog 6 Tryz.f129.ntmps (fun _ => false) (Tryz.f129.body.getD .skip)).getD .bad
theorem comp129 : (V2.compC Tryz.prog 6 Tryz.f129.ntmps (fun _ => false) (Tryz.f129.body.getD .skip), V2.compR Tryz.prog Tryz.f129.results.toList) = (some c129, some [(.tmp 4)]) := by kernel_rfl
theorem body129 : Tryz.f129.body = some (Tryz.f129.body.getD .skip) := by kernel_rfl
noncomputable def c130 : ACode := (compC Tryz.prog 6 Tryz.f130.ntmps (fun _ => false) (Tryz.f130.body.getD .skip)).getD .bad
theorem comp130 : (V2.compC Tryz.prog 6 Tryz.f130.ntmps (fun _ => false) (Tryz.f130.body.getD .skip), V2.compR Tryz.prog Tryz.f130.results.toList) = (some c130, some [(.tmp 0)]) := by kernel_rfl
theorem body130 : Tryz.f130.body = some (Tryz.f130.body.getD .skip) := by kernel_rfl
noncomputable def c131 : ACode := (compC Tryz.prog 6 Tryz.f131.ntmps (fun _ => false) (Tryz.f131.body.getD .skip)).getD .bad
theorem comp131 : (V2.compC Tryz.prog 6 Tryz.f131.ntmps (fun _ => false) (Tryz.f131.body.getD .skip), V2.compR Tryz.prog Tryz.f131.results.toList) = (some c131, some [(.tmp 2)]) := by kernel_rfl
theorem body131 : Tryz.f131.body = some (Tryz.f131.body.getD .skip) := by kernel_rfl
noncomputable def c132 : ACode := (compC Tryz.prog 6 Tryz.f132.ntmps (fun _ => false) (Tryz.f132.body.getD .skip)).getD .bad
theorem comp132 : (V2.compC Tryz.prog 6 Tryz.f132.ntmps (fun _ => false) (Tryz.f132.body.getD .skip), V2.compR Tryz.prog Tryz.f132.results.toList) = (some c132, some [(.tmp 4)]) := by kernel_rfl
theorem body132 : Tryz.f132.body = some (Tryz.f132.body.getD .skip) := by kernel_rfl
noncomputable def c133 : ACode := (compC Tryz.prog 6 Tryz.f133.ntmps (fun _ => false) (Tryz.f133.body.getD .skip)).getD .bad
theorem comp133 : (V2.compC Tryz.prog 6 Tryz.f133.ntmps (fun _ => false) (Tryz.f133.body.getD .skip), V2.compR Tryz.prog Tryz.f133.results.toList) = (some c133, some [(.tmp 2)]) := by kernel_rfl
theorem body133 : Tryz.f133.body = some (Tryz.f133.body.getD .skip) := by kernel_rfl
noncomputable def c134 : ACode := (compC Tryz.prog 6 Tryz.f134.ntmps (fun _ => false) (Tryz.f134.body.getD .skip)).getD .bad
theorem comp134 : (V2.compC Tryz.prog 6 Tryz.f134.ntmps (fun _ => false) (Tryz.f134.body.getD .skip), V2.compR Tryz.prog Tryz.f134.results.toList) = (some c134, some [(.tmp 2)]) := by kernel_rfl
theorem body134 : Tryz.f134.body = some (Tryz.f134.body.getD .skip) := by kernel_rfl
noncomputable def c135 : ACode := (compC Tryz.prog 6 Tryz.f135.ntmps (fun _ => false) (Tryz.f135.body.getD .skip)).getD .bad
theorem comp135 : (V2.compC Tryz.prog 6 Tryz.f135.ntmps (fun _ => false) (Tryz.f135.body.getD .skip), V2.compR Tryz.prog Tryz.f135.results.toList) = (some c135, some [(.tmp 2)]) := by kernel_rfl
theorem body135 : Tryz.f135.body = some (Tryz.f135.body.getD .skip) := by kernel_rfl
noncomputable def c136 : ACode := (compC Tryz.prog 6 Tryz.f136.ntmps (fun _ => false) (Tryz.f136.body.getD .skip)).getD .bad
theorem comp136 : (V2.compC Tryz.prog 6 Tryz.f136.ntmps (fun _ => false) (Tryz.f136.body.getD .skip), V2.compR Tryz.prog Tryz.f136.results.toList) = (some c136, some [(.tmp 2)]) := by kernel_rfl
theorem body136 : Tryz.f136.body = some (Tryz.f136.body.getD .skip) := by kernel_rfl
noncomputable def c137 : ACode := (compC Tryz.prog 6 Tryz.f137.ntmps (fun _ => false) (Tryz.f137.body.getD .skip)).getD .bad
theorem comp137 : (V2.compC Tryz.prog 6 Tryz.f137.ntmps (fun _ => false) (Tryz.f137.body.getD .skip), V2.compR Tryz.prog Tryz.f137.results.toList) = (some c137, some [(.tmp 2)]) := by kernel_rfl
theorem body137 : Tryz.f137.body = some (Tryz.f137.body.getD .skip) := by kernel_rfl
noncomputable def c138 : ACode := (compC Tryz.prog 6 Tryz.f138.ntmps (fun _ => false) (Tryz.f138.body.getD .skip)).getD .bad
theorem comp138 : (V2.compC Tryz.prog 6 Tryz.f138.ntmps (fun _ => false) (Tryz.f138.body.getD .skip), V2.compR Tryz.prog Tryz.f138.results.toList) = (some c138, some [(.tmp 6)]) := by kernel_rfl
theorem body138 : Tryz.f138.body = some (Tryz.f138.body.getD .skip) := by kernel_rfl
noncomputable def c139 : ACode := (compC Tryz.prog 6 Tryz.f139.ntmps (fun _ => false) (Tryz.f139.body.getD .skip)).getD .bad
theorem comp139 : (V2.compC Tryz.prog 6 Tryz.f139.ntmps (fun _ => false) (Tryz.f139.body.getD .skip), V2.compR Tryz.prog Tryz.f139.results.toList) = (some c139, some [(.tmp 2)]) := by kernel_rfl
theorem body139 : Tryz.f139.body = some (Tryz.f139.body.getD .skip) := by kernel_rfl
noncomputable def c140 : ACode := (compC Tryz.prog 6 Tryz.f140.ntmps (fun _ => false) (Tryz.f140.body.getD .skip)).getD .bad
theorem comp140 : (V2.compC Tryz.prog 6 Tryz.f140.ntmps (fun _ => false) (Tryz.f140.body.getD .skip), V2.compR Tryz.prog Tryz.f140.results.toList) = (some c140, some [(.tmp 6)]) := by kernel_rfl
theorem body140 : Tryz.f140.body = some (Tryz.f140.body.getD .skip) := by kernel_rfl
noncomputable def c141 : ACode := (compC Tryz.prog 6 Tryz.f141.ntmps (fun _ => false) (Tryz.f141.body.getD .skip)).getD .bad
theorem comp141 : (V2.compC Tryz.prog 6 Tryz.f141.ntmps (fun _ => false) (Tryz.f141.body.getD .skip), V2.compR Tryz.prog Tryz.f141.results.toList) = (some c141, some [(.tmp 2)]) := by kernel_rfl
theorem body141 : Tryz.f141.body = some (Tryz.f141.body.getD .skip) := by kernel_rfl
noncomputable def c144 : ACode := (compC Tryz.prog 6 Tryz.f144.ntmps (fun _ => false) (Tryz.f144.body.getD .skip)).getD .bad
theorem comp144 : (V2.compC Tryz.prog 6 Tryz.f144.ntmps (fun _ => false) (Tryz.f144.body.getD .skip), V2.compR Tryz.prog Tryz.f144.results.toList) = (some c144, some []) := by kernel_rfl
theorem body144 : Tryz.f144.body = some (Tryz.f144.body.getD .skip) := by kernel_rfl
noncomputable def c145 : ACode := (compC Tryz.prog 6 Tryz.f145.ntmps (fun _ => false) (Tryz.f145.body.getD .skip)).getD .bad
theorem comp145 : (V2.compC Tryz.prog 6 Tryz.f145.ntmps (fun _ => false) (Tryz.f145.body.getD .skip), V2.compR Tryz.prog Tryz.f145.results.toList) = (some c145, some [(.tmp 2)]) := by kernel_rfl
theorem body145 : Tryz.f145.body = some (Tryz.f145.body.getD .skip) := by kernel_rfl
noncomputable def c146 : ACode := (compC Tryz.prog 6 Tryz.f146.ntmps (fun _ => false) (Tryz.f146.body.getD .skip)).getD .bad
theorem comp146 : (V2.compC Tryz.prog 6 Tryz.f146.ntmps (fun _ => false) (Tryz.f146.body.getD .skip), V2.compR Tryz.prog Tryz.f146.results.toList) = (some c146, some [(.tmp 2)]) := by kernel_rfl
theorem body146 : Tryz.f146.body = some (Tryz.f146.body.getD .skip) := by kernel_rfl
noncomputable def c147 : ACode := (compC Tryz.prog 6 Tryz.f147.ntmps (fun _ => false) (Tryz.f147.body.getD .skip)).getD .bad
theorem comp147 : (V2.compC Tryz.prog 6 Tryz.f147.ntmps (fun _ => false) (Tryz.f147.body.getD .skip), V2.compR Tryz.prog Tryz.f147.results.toList) = (some c147, some [(.tmp 2)]) := by kernel_rfl
theorem body147 : Tryz.f147.body = some (Tryz.f147.body.getD .skip) := by kernel_rfl
noncomputable def c177 : ACode := (compC Tryz.prog 6 Tryz.f177.ntmps (fun _ => false) (Tryz.f177.body.getD .skip)).getD .bad
theorem comp177 : (V2.compC Tryz.prog 6 Tryz.f177.ntmps (fun _ => false) (Tryz.f177.body.getD .skip), V2.compR Tryz.prog Tryz.f177.results.toList) = (some c177, some [(.tmp 4)]) := by kernel_rfl
theorem body177 : Tryz.f177.body = some (Tryz.f177.body.getD .skip) := by kernel_rfl
noncomputable def c178 : ACode := (compC Tryz.prog 6 Tryz.f178.ntmps (fun _ => false) (Tryz.f178.body.getD .skip)).getD .bad
theorem comp178 : (V2.compC Tryz.prog 6 Tryz.f178.ntmps (fun _ => false) (Tryz.f178.body.getD .skip), V2.compR Tryz.prog Tryz.f178.results.toList) = (some c178, some [(.tmp 8)]) := by kernel_rfl
theorem body178 : Tryz.f178.body = some (Tryz.f178.body.getD .skip) := by kernel_rfl
noncomputable def c186 : ACode := (compC Tryz.prog 6 Tryz.f186.ntmps (fun _ => false) (Tryz.f186.body.getD .skip)).getD .bad
theorem comp186 : (V2.compC Tryz.prog 6 Tryz.f186.ntmps (fun _ => false) (Tryz.f186.body.getD .skip), V2.compR Tryz.prog Tryz.f186.results.toList) = (some c186, some [(.tmp 2)]) := by kernel_rfl
theorem body186 : Tryz.f186.body = some (Tryz.f186.body.getD .skip) := by kernel_rfl
noncomputable def c200 : ACode := (compC Tryz.prog 6 Tryz.f200.ntmps (fun _ => false) (Tryz.f200.body.getD .skip)).getD .bad
theorem comp200 : (V2.compC Tryz.prog 6 Tryz.f200.ntmps (fun _ => false) (Tryz.f200.body.getD .skip), V2.compR Tryz.prog Tryz.f200.results.toList) = (some c200, some [(.tmp 4)]) := by kernel_rfl
theorem body200 : Tryz.f200.body = some (Tryz.f200.body.getD .skip) := by kernel_rfl
noncomputable def c201 : ACode := (compC Tryz.prog 6 Tryz.f201.ntmps (fun _ => false) (Tryz.f201.body.getD .skip)).getD .bad
theorem comp201 : (V2.compC Tryz.prog 6 Tryz.f201.ntmps (fun _ => false) (Tryz.f201.body.getD .skip), V2.compR Tryz.prog Tryz.f201.results.toList) = (some c201, some [(.tmp 4), (.tmp 5)]) := by kernel_rfl
theorem body201 : Tryz.f201.body = some (Tryz.f201.body.getD .skip) := by kernel_rfl
noncomputable def c202 : ACode := (compC Tryz.prog 6 Tryz.f202.ntmps (fun _ => false) (Tryz.f202.body.getD .skip)).getD .bad
theorem comp202 : (V2.compC Tryz.prog 6 Tryz.f202.ntmps (fun _ => false) (Tryz.f202.body.getD .skip), V2.compR Tryz.prog Tryz.f202.results.toList) = (some c202, some [(.tmp 2)]) := by kernel_rfl
theorem body202 : Tryz.f202.body = some (Tryz.f202.body.getD .skip) := by kernel_rfl
noncomputable def c203 : ACode := (compC Tryz.prog 6 Tryz.f203.ntmps (fun _ => false) (Tryz.f203.body.getD .skip)).getD .bad
theorem comp203 : (V2.compC Tryz.prog 6 Tryz.f203.ntmps (fun _ => false) (Tryz.f203.body.getD .skip), V2.compR Tryz.prog Tryz.f203.results.toList) = (some c203, some [(.tmp 2), (.tmp 3)]) := by kernel_rfl
theorem body203 : Tryz.f203.body = some (Tryz.f203.body.getD .skip) := by kernel_rfl
noncomputable def c204 : ACode := (compC Tryz.prog 6 Tryz.f204.ntmps (fun _ => false) (Tryz.f204.body.getD .skip)).getD .bad
theorem comp204 : (V2.compC Tryz.prog 6 Tryz.f204.ntmps (fun _ => false) (Tryz.f204.body.getD .skip), V2.compR Tryz.prog Tryz.f204.results.toList) = (some c204, some [(.tmp 2)]) := by kernel_rfl
theorem body204 : Tryz.f204.body = some (Tryz.f204.body.getD .skip) := by kernel_rfl
noncomputable def c205 : ACode := (compC Tryz.prog 6 Tryz.f205.ntmps (fun _ => false) (Tryz.f205.body.getD .skip)).getD .bad
theorem comp205 : (V2.compC Tryz.prog 6 Tryz.f205.ntmps (fun _ => false) (Tryz.f205.body.getD .skip), V2.compR Tryz.prog Tryz.f205.results.toList) = (some c205, some [(.tmp 2)]) := by kernel_rfl
theorem body205 : Tryz.f205.body = some (Tryz.f205.body.getD .skip) := by kernel_rfl
noncomputable def c206 : ACode := (compC Tryz.prog 6 Tryz.f206.ntmps (fun _ => false) (Tryz.f206.body.getD .skip)).getD .bad
theorem comp206 : (V2.compC Tryz.prog 6 Tryz.f206.ntmps (fun _ => false) (Tryz.f206.body.getD .skip), V2.compR Tryz.prog Tryz.f206.results.toList) = (some c206, some []) := by kernel_rfl
theorem body206 : Tryz.f206.body = some (Tryz.f206.body.getD .skip) := by kernel_rfl
noncomputable def c207 : ACode := (compC Tryz.prog 6 Tryz.f207.ntmps (fun _ => false) (Tryz.f207.body.getD .skip)).getD .bad
theorem comp207 : (V2.compC Tryz.prog 6 Tryz.f207.ntmps (fun _ => false) (Tryz.f207.body.getD .skip), V2.compR Tryz.prog Tryz.f207.results.toList) = (some c207, some []) := by kernel_rfl
theorem body207 : Tryz.f207.body = some (Tryz.f207.body.getD .skip) := by kernel_rfl
noncomputable def c208 : ACode := (compC Tryz.prog 6 Tryz.f208.ntmps (fun _ => false) (Tryz.f208.body.getD .skip)).getD .bad
theorem comp208 : (V2.compC Tryz.prog 6 Tryz.f208.ntmps (fun _ => false) (Tryz.f208.body.getD .skip), V2.compR Tryz.prog Tryz.f208.results.toList) = (some c208, some []) := by kernel_rfl
theorem body208 : Tryz.f208.body = some (Tryz.f208.body.getD .skip) := by kernel_rfl
noncomputable def c209 : ACode := (compC Tryz.prog 6 Tryz.f209.ntmps (fun _ => false) (Tryz.f209.body.getD .skip)).getD .bad
theorem comp209 : (V2.compC Tryz.prog 6 Tryz.f209.ntmps (fun _ => false) (Tryz.f209.body.getD .skip), V2.compR Tryz.prog Tryz.f209.results.toList) = (some c209, some []) := by kernel_rfl
theorem body209 : Tryz.f209.body = some (Tryz.f209.body.getD .skip) := by kernel_rfl
noncomputable def c210 : ACode := (compC Tryz.prog 6 Tryz.f210.ntmps (fun _ => false) (Tryz.f210.body.getD .skip)).getD .bad
theorem comp210 : (V2.compC Tryz.prog 6 Tryz.f210.ntmps (fun _ => false) (Tryz.f210.body.getD .skip), V2.compR Tryz.prog Tryz.f210.results.toList) = (some c210, some []) := by kernel_rfl
theorem body210 : Tryz.f210.body = some (Tryz.f210.body.getD .skip) := by kernel_rfl
noncomputable def c211 : ACode := (compC Tryz.prog 6 Tryz.f211.ntmps (fun _ => false) (Tryz.f211.body.getD .skip)).getD .bad
theorem comp211 : (V2.compC Tryz.prog 6 Tryz.f211.ntmps (fun _ => false) (Tryz.f211.body.getD .skip), V2.compR Tryz.prog Tryz.f211.results.toList) = (some c211, some []) := by kernel_rfl
theorem body211 : Tryz.f211.body = some (Tryz.f211.body.getD .skip) := by kernel_rfl
noncomputable def c214 : ACode := (compC Tryz.prog 6 Tryz.f214.ntmps (fun _ => false) (Tryz.f214.body.getD .skip)).getD .bad
theorem comp214 : (V2.compC Tryz.prog 6 Tryz.f214.ntmps (fun _ => false) (Tryz.f214.body.getD .skip), V2.compR Tryz.prog Tryz.f214.results.toList) = (some c214, some []) := by kernel_rfl
theorem body214 : Tryz.f214.body = some (Tryz.f214.body.getD .skip) := by kernel_rfl
noncomputable def c216 : ACode := (compC Tryz.prog 6 Tryz.f216.ntmps (fun _ => false) (Tryz.f216.body.getD .skip)).getD .bad
theorem comp216 : (V2.compC Tryz.prog 6 Tryz.f216.ntmps (fun _ => false) (Tryz.f216.body.getD .skip), V2.compR Tryz.prog Tryz.f216.results.toList) = (some c216, some []) := by kernel_rfl
theorem body216 : Tryz.f216.body = some (Tryz.f216.body.getD .skip) := by kernel_rfl
noncomputable def c219 : ACode := (compC Tryz.prog 6 Tryz.f219.ntmps (fun _ => false) (Tryz.f219.body.getD .skip)).getD .bad
theorem comp219 : (V2.compC Tryz.prog 6 Tryz.f219.ntmps (fun _ => false) (Tryz.f219.body.getD .skip), V2.compR Tryz.prog Tryz.f219.results.toList) = (some c219, some [(.tmp 6)]) := by kernel_rfl
theorem body219 : Tryz.f219.body = some (Tryz.f219.body.getD .skip) := by kernel_rfl
noncomputable def c220 : ACode := (compC Tryz.prog 6 Tryz.f220.ntmps (fun _ => false) (Tryz.f220.body.getD .skip)).getD .bad
theorem comp220 : (V2.compC Tryz.prog 6 Tryz.f220.ntmps (fun _ => false) (Tryz.f220.body.getD .skip), V2.compR Tryz.prog Tryz.f220.results.toList) = (some c220, some []) := by kernel_rfl
theorem body220 : Tryz.f220.body = some (Tryz.f220.body.getD .skip) := by kernel_rfl
noncomputable def c221 : ACode := (compC Tryz.prog 6 Tryz.f221.ntmps (fun _ => false) (Tryz.f221.body.getD .skip)).getD .bad
theorem comp221 : (V2.compC Tryz.prog 6 Tryz.f221.ntmps (fun _ => false) (Tryz.f221.body.getD .skip), V2.compR Tryz.prog Tryz.f221.results.toList) = (some c221, some [(.tmp 4)]) := by kernel_rfl
theorem body221 : Tryz.f221.body = some (Tryz.f221.body.getD .skip) := by kernel_rfl
noncomputable def c254 : ACode := (compC Tryz.prog 6 Tryz.f254.ntmps (fun _ => false) (Tryz.f254.body.getD .skip)).getD .bad
theorem comp254 : (V2.compC Tryz.prog 6 Tryz.f254.ntmps (fun _ => false) (Tryz.f254.body.getD .skip), V2.compR Tryz.prog Tryz.f254.results.toList) = (some c254, some [(.tmp 6)]) := by kernel_rfl
theorem body254 : Tryz.f254.body = some (Tryz.f254.body.getD .skip) := by kernel_rfl
noncomputable def c255 : ACode := (compC Tryz.prog 6 Tryz.f255.ntmps (fun _ => false) (Tryz.f255.body.getD .skip)).getD .bad
theorem comp255 : (V2.compC Tryz.prog 6 Tryz.f255.ntmps (fun _ => false) (Tryz.f255.body.getD .skip), V2.compR Tryz.prog Tryz.f255.results.toList) = (some c255, some [(.tmp 2)]) := by kernel_rfl
theorem body255 : Tryz.f255.body = some (Tryz.f255.body.getD .skip) := by kernel_rfl
noncomputable def c283 : ACode := (compC Tryz.prog 6 Tryz.f283.ntmps (fun _ => false) (Tryz.f283.body.getD .skip)).getD .bad
theorem comp283 : (V2.compC Tryz.prog 6 Tryz.f283.ntmps (fun _ => false) (Tryz.f283.body.getD .skip), V2.compR Tryz.prog Tryz.f283.results.toList) = (some c283, some [(.tmp 2)]) := by kernel_rfl
theorem body283 : Tryz.f283.body = some (Tryz.f283.body.getD .skip) := by kernel_rfl
noncomputable def c308 : ACode := (compC Tryz.prog 6 Tryz.f308.ntmps (fun _ => false) (Tryz.f308.body.getD .skip)).getD .bad
theorem comp308 : (V2.compC Tryz.prog 6 Tryz.f308.ntmps (fun _ => false) (Tryz.f308.body.getD .skip), V2.compR Tryz.prog Tryz.f308.results.toList) = (some c308, some [(.tmp 2)]) := by kernel_rfl
theorem body308 : Tryz.f308.body = some (Tryz.f308.body.getD .skip) := by kernel_rfl
noncomputable def c6 : ACode := (.seq (.reg [⟨(.aop (.mov (.lit (.bool false)))), (some 0), none⟩]) (.seq (.reg [⟨(.aop (.mov (.lit .nilptr))), (some 1), none⟩]) (.seq (.reg [⟨(.aop (.pur (.build [.nilptr, .nilsl, .nilptr, (.int .u32 (0)), (.int .u32 (0)), (.int .u32 (0))] []) [])), (some 43), none⟩, ⟨(.aop (.box 101 (.slot 43))), (some 44), none⟩, ⟨(.aop (.mov (.slot 44))), (some 2), none⟩]) (.seq (.reg [⟨(.aop (.mov (.slot 1))), (some 46), none⟩, ⟨(.call (.lit (.fn (.func 46) [] [])) [(.slot 46), (.lit (.str [97]))]), (some 47), none⟩, ⟨(.aop (.mov (.slot 47))), (some 45), none⟩, ⟨(.aop (.extract (.slot 45) 0)), (some 48), none⟩, ⟨(.aop (.extract (.slot 45) 1)), (some 49), none⟩, ⟨(.aop (.mov (.slot 48))), (some 3), none⟩, ⟨(.aop (.mov (.slot 49))), (some 4), none⟩]) (.seq (.reg [⟨(.call (.lit (.fn (.func 47) [] [])) [(.lit .nilptr)]), (some 51), none⟩, ⟨(.aop (.mov (.slot 51))), (some 50), none⟩, ⟨(.aop (.extract (.slot 50) 0)), (some 52), none⟩, ⟨(.aop (.extract (.slot 50) 1)), (some 53), none⟩, ⟨(.aop (.mov (.slot 52))), (some 5), none⟩, ⟨(.aop (.mov (.slot 53))), (some 6), none⟩]) (.seq (.reg [⟨(.aop (.mov (.slot 1))), (some 55), none⟩, ⟨(.call (.lit (.fn (.func 48) [] [])) [(.slot 55), (.lit (.int .u32 (1)))]), (some 56), none⟩, ⟨(.aop (.mov (.slot 56))), (some 54), none⟩, ⟨(.aop (.extract (.slot 54) 0)), (some 57), none⟩, ⟨(.aop (.extract (.slot 54) 1)), (some 58), none⟩, ⟨(.aop (.alloc 107 [(.int .u32 (0)), (.str []), (.str []), (.str []), (.int .i64 (0)), (.int .i64 (0)), (.bool false), (.bool false)])), (some 7), none⟩, ⟨(.aop (.store 8 (.slot 7) (.slot 57))), none, none⟩, ⟨(.aop (.mov (.slot 58))), (some 8), none⟩]) (.seq (.seq (.reg [⟨(.aop (.mov (.slot 4))), (some 59), none⟩, ⟨(.aop (.bin .neq (.slot 59) (.lit (.int .i64 (2))))), (some 60), none⟩, ⟨(.aop (.mov (.slot 60))), (some 61), none⟩, ⟨(.aop (.mov (.slot 6))), (some 62), (some ((.slot 61), false))⟩, ⟨(.aop (.bin .neq (.slot 62) (.lit (.int .i64 (2))))), (some 63), (some ((.slot 61), false))⟩, ⟨(.aop (.pick (.slot 61) (.lit (.bool true)) (.slot 63))), (some 64), none⟩, ⟨(.aop (.mov (.slot 64))), (some 65), none⟩, ⟨(.aop (.mov (.slot 8))), (some 66), (some ((.slot 65), false))⟩, ⟨(.aop (.pick (.slot 65) (.lit (.bool true)) (.slot 66))), (some 67), none⟩, ⟨(.aop (.mov (.slot 67))), (some 68), none⟩, ⟨(.aop (.mov (.slot 2))), (some 69), (some ((.slot 68), false))⟩, ⟨(.call (.lit (.fn (.func 49) [] [])) [(.slot 69), (.lit (.int .i64 (2))), (.lit (.str [120]))]), (some 70), (some ((.slot 68), false))⟩, ⟨(.aop (.bin .neq (.slot 70) (.lit (.int .i64 (2))))), (some 71), (some ((.slot 68), false))⟩, ⟨(.aop (.pick (.slot 68) (.lit (.bool true)) (.slot 71))), (some 72), none⟩, ⟨(.aop (.mov (.slot 72))), (some 73), none⟩, ⟨(.aop (.mov (.slot 1))), (some 74), (some ((.slot 73), false))⟩, ⟨(.call (.lit (.fn (.func 50) [] [])) [(.slot 74)]), (some 75), (some ((.slot 73), false))⟩, ⟨(.aop (.bin .neq (.slot 75) (.lit (.int .u32 (0))))), (some 76), (some ((.slot 73), false))⟩, ⟨(.aop (.pick (.slot 73) (.lit (.bool true)) (.slot 76))), (some 77), none⟩, ⟨(.aop (.mov (.slot 77))), (some 78), none⟩, ⟨(.aop (.mov (.slot 2))), (some 79), (some ((.slot 78), false))⟩, ⟨(.call (.lit (.fn (.func 51) [] [])) [(.slot 79)]), (some 80), (some ((.slot 78), false))⟩, ⟨(.aop (.pick (.slot 78) (.lit (.bool true)) (.slot 80))), (some 81), none⟩, ⟨(.aop (.mov (.slot 81))), (some 82), none⟩, ⟨(.aop (.mov (.slot 1))), (some 83), (some ((.slot 82), false))⟩, ⟨(.call (.lit (.fn (.func 52) [] [])) [(.slot 83)]), (some 84), (some ((.slot 82), false))⟩, ⟨(.aop (.pur (.eqv true .ptr) [(.slot 84), (.lit .nilptr)])), (some 85), (some ((.slot 82), false))⟩, ⟨(.aop (.pick (.slot 82) (.lit (.bool true)) (.slot 85))), (some 86), none⟩, ⟨(.aop (.mov (.slot 86))), (some 87), none⟩, ⟨(.aop (.mov (.slot 2))), (some 88), (some ((.slot 87), false))⟩, ⟨(.call (.lit (.fn (.func 53) [] [])) [(.slot 88)]), (some 89), (some ((.slot 87), false))⟩, ⟨(.aop (.lenSl (.slot 89))), (some 90), (some ((.slot 87), false))⟩, ⟨(.aop (.bin .neq (.slot 90) (.lit (.int .i64 (0))))), (some 91), (some ((.slot 87), false))⟩, ⟨(.aop (.pick (.slot 87) (.lit (.bool true)) (.slot 91))), (some 92), none⟩]) (.cond (.slot 92) (.seq (.reg [⟨(.aop (.mov (.lit (.bool false)))), (some 0), none⟩]) .ret) .skip)) (.seq (.reg [⟨(.call (.lit (.fn (.func 54) [] [])) [(.lit (.int .i64 (262144)))]), (some 94), none⟩, ⟨(.aop (.mov (.slot 94))), (some 93), none⟩, ⟨(.aop (.extract (.slot 93) 0)), (some 95), none⟩, ⟨(.aop (.extract (.slot 93) 1)), (some 96), none⟩, ⟨(.aop (.mov (.slot 95))), (some 9), none⟩, ⟨(.aop (.mov (.slot 96))), (some 10), none⟩]) (.seq (.reg [⟨(.aop (.mov (.slot 9))), (some 98), none⟩, ⟨(.call (.lit (.fn (.func 47) [] [])) [(.slot 98)]), (some 99), none⟩, ⟨(.aop (.mov (.slot 99))), (some 97), none⟩, ⟨(.aop (.extract (.slot 97) 0)), (some 100), none⟩, ⟨(.aop (.extract (.slot 97) 1)), (some 101), none⟩, ⟨(.aop (.mov (.slot 100))), (some 11), none⟩, ⟨(.aop (.mov (.slot 101))), (some 12), none⟩]) (.seq (.reg [⟨(.aop (.mov (.slot 11))), (some 102), none⟩, ⟨(.aop (.pur (.build [(.int .u32 (0)), (.int .u32 (0)), (.int .u32 (0))] [(0, 1), (1, 1), (2, 1)]) [(.lit (.int .u32 (1))), (.lit (.int .u32 (2))), (.lit (.int .u32 (3)))])), (some 103), none⟩, ⟨(.call (.lit (.fn (.func 55) [] [])) [(.slot 102), (.slot 103)]), (some 104), none⟩]) (.seq (.reg [⟨(.aop (.mov (.slot 11))), (some 105), none⟩, ⟨(.call (.lit (.fn (.func 46) [] [])) [(.slot 105), (.lit (.str [97, 98]))]), (some 106), none⟩]) (.seq (.reg [⟨(.aop (.mov (.slot 11))), (some 107), none⟩, ⟨(.call (.lit (.fn (.func 49) [] [])) [(.slot 107), (.lit (.int .i64 (2))), (.lit (.str [99]))]), (some 108), none⟩]) (.seq (.reg [⟨(.aop (.mov (.slot 11))), (some 109), none⟩, ⟨(.call (.lit (.fn (.func 56) [] [])) [(.slot 109), (.lit (.int .i64 (5)))]), (some 110), none⟩]) (.seq (.reg [⟨(.aop (.mov (.slot 9))), (some 112), none⟩, ⟨(.call (.lit (.fn (.func 58) [] [])) [(.slot 112)]), (some 113), none⟩, ⟨(.call (.lit (.fn (.func 57) [] [])) [(.slot 113)]), (some 114), none⟩, ⟨(.aop (.mov (.slot 114))), (some 111), none⟩, ⟨(.aop (.extract (.slot 111) 0)), (some 115), none⟩, ⟨(.aop (.extract (.slot 111) 1)), (some 116), none⟩, ⟨(.aop (.mov (.slot 115))), (some 13), none⟩, ⟨(.aop (.mov (.slot 116))), (some 14), none⟩]) (.seq (.reg [⟨(.aop (.mk (.bslice 5 1 0) [])), (some 117), none⟩, ⟨(.aop (.alloc 49 [.nilsl])), (some 15), none⟩, ⟨(.aop (.store 1 (.slot 15) (.slot 117))), none, none⟩]) (.seq (.seq (.reg [⟨(.aop (.mov (.slot 13))), (some 118), none⟩, ⟨(.call (.lit (.fn (.func 60) [] [])) [(.slot 118)]), (some 119), none⟩, ⟨(.call (.lit (.fn (.func 59) [] [])) [(.slot 119)]), (some 120), none⟩]) (.block 0 (.rfun (.slot 120) [121, 122] (.reg [⟨(.aop (.mov (.slot 122))), (some 17), none⟩]) (.block 1 (.reg [⟨(.aop (.load1 (.slot 15))), (some 123), none⟩, ⟨(.aop (.mov (.slot 17))), (some 124), none⟩, ⟨(.aop (.ext (.append 5 false 1) [(.slot 123), (.slot 124)])), (some 125), none⟩, ⟨(.aop (.mk (.bslice 5 1 1) [(.lit (.int .u8 (124)))])), (some 126), none⟩, ⟨(.aop (.ext (.append 5 false 1) [(.slot 125), (.slot 126)])), (some 127), none⟩, ⟨(.aop (.store 1 (.slot 15) (.slot 127))), none, none⟩]))))) (.seq (.reg [⟨(.aop (.mk (.bslice 5 1 48) [(.lit (.int .u8 (6))), (.lit (.int .u8 (0))), (.lit (.int .u8 (0))), (.lit (.int .u8 (0))), (.lit (.int .u8 (1))), (.lit (.int .u8 (0))), (.lit (.int .u8 (0))), (.lit (.int .u8 (0))), (.lit (.int .u8 (2))), (.lit (.int .u8 (0))), (.lit (.int .u8 (0))), (.lit (.int .u8 (0))), (.lit (.int .u8 (3))), (.lit (.int .u8 (124))), (.lit (.int .u8 (1))), (.lit (.int .u8 (0))), (.lit (.int .u8 (0))), (.lit (.int .u8 (0))), (.lit (.int .u8 (1))), (.lit (.int .u8 (0))), (.lit (.int .u8 (2))), (.lit (.int .u8 (97))), (.lit (.int .u8 (98))), (.lit (.int .u8 (124))), (.lit (.int .u8 (2))), (.lit (.int .u8 (0))), (.lit (.int .u8 (0))), (.lit (.int .u8 (0))), (.lit (.int .u8 (1))), (.lit (.int .u8 (2))), (.lit (.int .u8 (0))), (.lit (.int .u8 (0))), (.lit (.int .u8 (0))), (.lit (.int .u8 (0))), (.lit (.int .u8 (0))), (.lit (.int .u8 (1))), (.lit (.int .u8 (99))), (.lit (.int .u8 (124))), (.lit (.int .u8 (3))), (.lit (.int .u8 (0))), (.lit (.int .u8 (0))), (.lit (.int .u8 (0))), (.lit (.int .u8 (1))), (.lit (.int .u8 (0))), (.lit (.int .u8 (0))), (.lit (.int .u8 (0))), (.lit (.int .u8 (5))), (.lit (.int .u8 (124)))])), (some 128), none⟩, ⟨(.aop (.mov (.slot 128))), (some 18), none⟩]) (.seq (.seq (.reg [⟨(.aop (.load1 (.slot 15))), (some 129), none⟩, ⟨(.aop (.mov (.slot 18))), (some 130), none⟩, ⟨(.call (.lit (.fn (.func 61) [] [])) [(.slot 129), (.slot 130)]), (some 131), none⟩, ⟨(.aop (.un .not (.slot 131))), (some 132), none⟩]) (.cond (.slot 132) (.seq (.reg [⟨(.aop (.mov (.lit (.bool false)))), (some 0), none⟩]) .ret) .skip)) (.seq (.reg [⟨(.aop (.mov (.slot 11))), (some 134), none⟩, ⟨(.call (.lit (.fn (.func 46) [] [])) [(.slot 134), (.lit (.str [120]))]), (some 135), none⟩, ⟨(.aop (.mov (.slot 135))), (some 133), none⟩, ⟨(.aop (.extract (.slot 133) 0)), (some 136), none⟩, ⟨(.aop (.extract (.slot 133) 1)), (some 137), none⟩, ⟨(.aop (.mov (.slot 136))), (some 19), none⟩, ⟨(.aop (.mov (.slot 137))), (some 20), none⟩]) (.seq (.reg [⟨(.aop (.mov (.slot 11))), (some 138), none⟩, ⟨(.call (.lit (.fn (.func 56) [] [])) [(.slot 138), (.lit (.int .i64 (6)))]), (some 139), none⟩, ⟨(.aop (.mov (.slot 11))), (some 140), none⟩, ⟨(.call (.lit (.fn (.func 49) [] [])) [(.slot 140), (.lit (.int .i64 (1))), (.lit (.str [120]))]), (some 141), none⟩, ⟨(.aop (.mov (.slot 11))), (some 142), none⟩, ⟨(.call (.lit (.fn (.func 49) [] [])) [(.slot 142), (.lit (.int .i64 (2))), (.lit (.str []))]), (some 143), none⟩, ⟨(.aop (.mov (.slot 139))), (some 21), none⟩, ⟨(.aop (.mov (.slot 141))), (some 22), none⟩, ⟨(.aop (.mov (.slot 143))), (some 23), none⟩]) (.seq (.reg [⟨(.aop (.mov (.slot 11))), (some 144), none⟩, ⟨(.call (.lit (.fn (.func 28) [] [])) [(.lit (.str [120])), (.lit (.int .i64 (4097)))]), (some 145), none⟩, ⟨(.call (.lit (.fn (.func 49) [] [])) [(.slot 144), (.lit (.int .i64 (2))), (.slot 145)]), (some 146), none⟩, ⟨(.aop (.mov (.slot 11))), (some 147), none⟩, ⟨(.call (.lit (.fn (.func 63) [] [])) []), (some 148), none⟩, ⟨(.call (.lit (.fn (.func 62) [] [])) [(.slot 147), (.lit (.int .i64 (256))), (.slot 148)]), (some 149), none⟩, ⟨(.aop (.mov (.slot 11))), (some 150), none⟩, ⟨(.call (.lit (.fn (.func 62) [] [])) [(.slot 150), (.lit (.int .i64 (0))), (.lit .nilptr)]), (some 151), none⟩, ⟨(.aop (.mov (.slot 146))), (some 24), none⟩, ⟨(.aop (.mov (.slot 149))), (some 25), none⟩, ⟨(.aop (.mov (.slot 151))), (some 26), none⟩]) (.seq (.seq (.reg [⟨(.aop (.mov (.slot 20))), (some 152), none⟩, ⟨(.aop (.bin .neq (.slot 152) (.lit (.int .i64 (10))))), (some 153), none⟩, ⟨(.aop (.mov (.slot 153))), (some 154), none⟩, ⟨(.aop (.mov (.slot 21))), (some 155), (some ((.slot 154), false))⟩, ⟨(.aop (.bin .neq (.slot 155) (.lit (.int .i64 (10))))), (some 156), (some ((.slot 154), false))⟩, ⟨(.aop (.pick (.slot 154) (.lit (.bool true)) (.slot 156))), (some 157), none⟩, ⟨(.aop (.mov (.slot 157))), (some 158), none⟩, ⟨(.aop (.mov (.slot 22))), (some 159), (some ((.slot 158), false))⟩, ⟨(.aop (.bin .neq (.slot 159) (.lit (.int .i64 (1))))), (some 160), (some ((.slot 158), false))⟩, ⟨(.aop (.pick (.slot 158) (.lit (.bool true)) (.slot 160))), (some 161), none⟩, ⟨(.aop (.mov (.slot 161))), (some 162), none⟩, ⟨(.aop (.mov (.slot 23))), (some 163), (some ((.slot 162), false))⟩, ⟨(.aop (.bin .neq (.slot 163) (.lit (.int .i64 (3))))), (some 164), (some ((.slot 162), false))⟩, ⟨(.aop (.pick (.slot 162) (.lit (.bool true)) (.slot 164))), (some 165), none⟩, ⟨(.aop (.mov (.slot 165))), (some 166), none⟩, ⟨(.aop (.mov (.slot 24))), (some 167), (some ((.slot 166), false))⟩, ⟨(.aop (.bin .neq (.slot 167) (.lit (.int .i64 (3))))), (some 168), (some ((.slot 166), false))⟩, ⟨(.aop (.pick (.slot 166) (.lit (.bool true)) (.slot 168))), (some 169), none⟩, ⟨(.aop (.mov (.slot 169))), (some 170), none⟩, ⟨(.aop (.mov (.slot 25))), (some 171), (some ((.slot 170), false))⟩, ⟨(.aop (.bin .neq (.slot 171) (.lit (.int .i64 (1))))), (some 172), (some ((.slot 170), false))⟩, ⟨(.aop (.pick (.slot 170) (.lit (.bool true)) (.slot 172))), (some 173), none⟩, ⟨(.aop (.mov (.slot 173))), (some 174), none⟩, ⟨(.aop (.mov (.slot 26))), (some 175), (some ((.slot 174), false))⟩, ⟨(.aop (.bin .neq (.slot 175) (.lit (.int .i64 (2))))), (some 176), (some ((.slot 174), false))⟩, ⟨(.aop (.pick (.slot 174) (.lit (.bool true)) (.slot 176))), (some 177), none⟩, ⟨(.aop (.mov (.slot 177))), (some 178), none⟩, ⟨(.aop (.mov (.slot 11))), (some 179), (some ((.slot 178), false))⟩, ⟨(.call (.lit (.fn (.func 56) [] [])) [(.slot 179), (.lit (.int .i64 (-1)))]), (some 180), (some ((.slot 178), false))⟩, ⟨(.aop (.bin .neq (.slot 180) (.lit (.int .i64 (1))))), (some 181), (some ((.slot 178), false))⟩, ⟨(.aop (.pick (.slot 178) (.lit (.bool true)) (.slot 181))), (some 182), none⟩]) (.cond (.slot 182) (.seq (.reg [⟨(.aop (.mov (.lit (.bool false)))), (some 0), none⟩]) .ret) .skip)) (.seq (.seq (.reg [⟨(.aop (.mov (.lit (.int .i64 (0))))), (some 183), none⟩]) (.block 2 (.loop (.seq (.reg [⟨(.aop (.bin .lss (.slot 183) (.lit (.int .i64 (16))))), (some 184), none⟩]) (.seq (.cond (.slot 184) .skip (.exit 2)) (.seq (.block 3 (.seq (.reg [⟨(.aop (.mov (.slot 11))), (some 185), none⟩, ⟨(.call (.lit (.fn (.func 28) [] [])) [(.lit (.str [121])), (.lit (.int .i64 (4090)))]), (some 186), none⟩, ⟨(.call (.lit (.fn (.func 49) [] [])) [(.slot 185), (.lit (.int .i64 (3))), (.slot 186)]), (some 187), none⟩, ⟨(.aop (.bin .neq (.slot 187) (.lit (.int .i64 (0))))), (some 188), none⟩]) (.cond (.slot 188) (.seq (.reg [⟨(.aop (.mov (.lit (.bool false)))), (some 0), none⟩]) .ret) .skip))) (.reg [⟨(.aop (.bin .add (.slot 183) (.lit (.int .i64 (1))))), (some 189), none⟩, ⟨(.aop (.mov (.slot 189))), (some 183), none⟩]))))))) (.seq (.seq (.reg [⟨(.aop (.mov (.slot 11))), (some 190), none⟩, ⟨(.call (.lit (.fn (.func 28) [] [])) [(.lit (.str [121])), (.lit (.int .i64 (96)))]), (some 191), none⟩, ⟨(.call (.lit (.fn (.func 49) [] [])) [(.slot 190), (.lit (.int .i64 (3))), (.slot 191)]), (some 192), none⟩, ⟨(.aop (.bin .neq (.slot 192) (.lit (.int .i64 (3))))), (some 193), none⟩, ⟨(.aop (.mov (.slot 193))), (some 194), none⟩, ⟨(.aop (.mov (.slot 11))), (some 195), (some ((.slot 194), false))⟩, ⟨(.call (.lit (.fn (.func 28) [] [])) [(.lit (.str [121])), (.lit (.int .i64 (95)))]), (some 196), (some ((.slot 194), false))⟩, ⟨(.call (.lit (.fn (.func 49) [] [])) [(.slot 195), (.lit (.int .i64 (3))), (.slot 196)]), (some 197), (some ((.slot 194), false))⟩, ⟨(.aop (.bin .neq (.slot 197) (.lit (.int .i64 (0))))), (some 198), (some ((.slot 194), false))⟩, ⟨(.aop (.pick (.slot 194) (.lit (.bool true)) (.slot 198))), (some 199), none⟩, ⟨(.aop (.mov (.slot 199))), (some 200), none⟩, ⟨(.aop (.mov (.slot 11))), (some 201), (some ((.slot 200), false))⟩, ⟨(.call (.lit (.fn (.func 49) [] [])) [(.slot 201), (.lit (.int .i64 (2))), (.lit (.str [122]))]), (some 202), (some ((.slot 200), false))⟩, ⟨(.aop (.bin .neq (.slot 202) (.lit (.int .i64 (3))))), (some 203), (some ((.slot 200), false))⟩, ⟨(.aop (.pick (.slot 200) (.lit (.bool true)) (.slot 203))), (some 204), none⟩]) (.cond (.slot 204) (.seq (.reg [⟨(.aop (.mov (.lit (.bool false)))), (some 0), none⟩]) .ret) .skip)) (.seq (.reg [⟨(.call (.lit (.fn (.func 63) [] [])) []), (some 205), none⟩, ⟨(.aop (.mov (.slot 205))), (some 27), none⟩]) (.seq (.reg [⟨(.aop (.mov (.slot 27))), (some 206), none⟩, ⟨(.call (.lit (.fn (.func 64) [] [])) [(.slot 206), (.lit (.str [120])), (.lit (.str [49]))]), (some 207), none⟩]) (.seq (.reg [⟨(.aop (.mov (.slot 27))), (some 208), none⟩, ⟨(.aop (.nilCheck (.slot 208))), (some 209), none⟩, ⟨(.aop (.fieldAddr 0 (.slot 209))), (some 210), none⟩, ⟨(.aop (.store 1 (.slot 210) (.lit (.int .i64 (9))))), none, none⟩]) (.seq (.reg [⟨(.aop (.mov (.slot 11))), (some 211), none⟩, ⟨(.aop (.mov (.slot 27))), (some 212), none⟩, ⟨(.call (.lit (.fn (.func 62) [] [])) [(.slot 211), (.lit (.int .i64 (3))), (.slot 212)]), (some 213), none⟩, ⟨(.aop (.mov (.slot 213))), (some 28), none⟩]) (.seq (.reg [⟨(.aop (.mov (.slot 27))), (some 214), none⟩, ⟨(.call (.lit (.fn (.func 64) [] [])) [(.slot 214), (.lit (.str [120])), (.lit (.str [50]))]), (some 215), none⟩]) (.seq (.reg [⟨(.aop (.mov (.slot 11))), (some 217), none⟩, ⟨(.call (.lit (.fn (.func 52) [] [])) [(.slot 217)]), (some 218), none⟩, ⟨(.call (.lit (.fn (.func 65) [] [])) [(.slot 218), (.lit (.str [120]))]), (some 219), none⟩, ⟨(.aop (.mov (.slot 219))), (some 216), none⟩, ⟨(.aop (.extract (.slot 216) 0)), (some 220), none⟩, ⟨(.aop (.extract (.slot 216) 1)), (some 221), none⟩, ⟨(.aop (.mov (.slot 220))), (some 29), none⟩, ⟨(.aop (.mov (.slot 221))), (some 30), none⟩]) (.seq (.reg [⟨(.aop (.mov (.slot 11))), (some 222), none⟩, ⟨(.call (.lit (.fn (.func 56) [] [])) [(.slot 222), (.lit (.int .i64 (1)))]), (some 223), none⟩, ⟨(.aop (.mov (.slot 11))), (some 224), none⟩, ⟨(.aop (.mov (.slot 27))), (some 225), none⟩, ⟨(.call (.lit (.fn (.func 62) [] [])) [(.slot 224), (.lit (.int .i64 (0))), (.slot 225)]), (some 226), none⟩, ⟨(.aop (.mov (.slot 223))), (some 31), none⟩, ⟨(.aop (.mov (.slot 226))), (some 32), none⟩]) (.seq (.reg [⟨(.aop (.mov (.slot 11))), (some 228), none⟩, ⟨(.call (.lit (.fn (.func 48) [] [])) [(.slot 228), (.lit (.int .u32 (1)))]), (some 229), none⟩, ⟨(.aop (.mov (.slot 229))), (some 227), none⟩, ⟨(.aop (.extract (.slot 227) 0)), (some 230), none⟩, ⟨(.aop (.extract (.slot 227) 1)), (some 231), none⟩, ⟨(.aop (.alloc 107 [(.int .u32 (0)), (.str []), (.str []), (.str []), (.int .i64 (0)), (.int .i64 (0)), (.bool false), (.bool false)])), (some 33), none⟩, ⟨(.aop (.store 8 (.slot 33) (.slot 230))), none, none⟩, ⟨(.aop (.mov (.slot 231))), (some 34), none⟩]) (.seq (.reg [⟨(.aop (.mov (.slot 11))), (some 233), none⟩, ⟨(.call (.lit (.fn (.func 28) [] [])) [(.lit (.str [116])), (.lit (.int .i64 (2049)))]), (some 234), none⟩, ⟨(.call (.lit (.fn (.func 46) [] [])) [(.slot 233), (.slot 234)]), (some 235), none⟩, ⟨(.aop (.mov (.slot 235))), (some 232), none⟩, ⟨(.aop (.extract (.slot 232) 0)), (some 236), none⟩, ⟨(.aop (.extract (.slot 232) 1)), (some 237), none⟩, ⟨(.aop (.mov (.slot 236))), (some 35), none⟩, ⟨(.aop (.mov (.slot 237))), (some 36), none⟩]) (.seq (.reg [⟨(.aop (.mov (.slot 11))), (some 239), none⟩, ⟨(.call (.lit (.fn (.func 28) [] [])) [(.lit (.str [116])), (.lit (.int .i64 (2048)))]), (some 240), none⟩, ⟨(.call (.lit (.fn (.func 46) [] [])) [(.slot 239), (.slot 240)]), (some 241), none⟩, ⟨(.aop (.mov (.slot 241))), (some 238), none⟩, ⟨(.aop (.extract (.slot 238) 0)), (some 242), none⟩, ⟨(.aop (.extract (.slot 238) 1)), (some 243), none⟩, ⟨(.aop (.mov (.slot 242))), (some 37), none⟩, ⟨(.aop (.mov (.slot 243))), (some 38), none⟩]) (.seq (.reg [⟨(.aop (.mov (.slot 9))), (some 245), none⟩, ⟨(.call (.lit (.fn (.func 47) [] [])) [(.slot 245)]), (some 246), none⟩, ⟨(.aop (.mov (.slot 246))), (some 244), none⟩, ⟨(.aop (.extract (.slot 244) 0)), (some 247), none⟩, ⟨(.aop (.extract (.slot 244) 1)), (some 248), none⟩, ⟨(.aop (.mov (.slot 247))), (some 39), none⟩, ⟨(.aop (.mov (.slot 248))), (some 40), none⟩]) (.seq (.reg [⟨(.aop (.mov (.slot 39))), (some 250), none⟩, ⟨(.call (.lit (.fn (.func 48) [] [])) [(.slot 250), (.lit (.int .u32 (2)))]), (some 251), none⟩, ⟨(.aop (.mov (.slot 251))), (some 249), none⟩, ⟨(.aop (.extract (.slot 249) 0)), (some 252), none⟩, ⟨(.aop (.extract (.slot 249) 1)), (some 253), none⟩, ⟨(.aop (.alloc 107 [(.int .u32 (0)), (.str []), (.str []), (.str []), (.int .i64 (0)), (.int .i64 (0)), (.bool false), (.bool false)])), (some 41), none⟩, ⟨(.aop (.store 8 (.slot 41) (.slot 252))), none, none⟩, ⟨(.aop (.mov (.slot 253))), (some 42), none⟩]) (.seq (.reg [⟨(.aop (.mov (.slot 28))), (some 254), none⟩, ⟨(.aop (.bin .eql (.slot 254) (.lit (.int .i64 (0))))), (some 255), none⟩, ⟨(.aop (.mov (.slot 255))), (some 256), none⟩, ⟨(.aop (.mov (.slot 29))), (some 257), (some ((.slot 256), true))⟩, ⟨(.aop (.bin .eql (.slot 257) (.lit (.str [49])))), (some 258), (some ((.slot 256), true))⟩, ⟨(.aop (.pick (.slot 256) (.slot 258) (.lit (.bool false)))), (some 259), none⟩, ⟨(.aop (.mov (.slot 259))), (some 260), none⟩, ⟨(.aop (.mov (.slot 11))), (some 261), (some ((.slot 260), true))⟩, ⟨(.call (.lit (.fn (.func 52) [] [])) [(.slot 261)]), (some 262), (some ((.slot 260), true))⟩, ⟨(.aop (.nilCheck (.slot 262))), (some 263), (some ((.slot 260), true))⟩, ⟨(.aop (.fieldAddr 0 (.slot 263))), (some 264), (some ((.slot 260), true))⟩, ⟨(.aop (.load1 (.slot 264))), (some 265), (some ((.slot 260), true))⟩, ⟨(.aop (.bin .eql (.slot 265) (.lit (.int .i64 (3))))), (some 266), (some ((.slot 260), true))⟩, ⟨(.aop (.pick (.slot 260) (.slot 266) (.lit (.bool false)))), (some 267), none⟩, ⟨(.aop (.mov (.slot 267))), (some 268), none⟩, ⟨(.aop (.mov (.slot 31))), (some 269), (some ((.slot 268), true))⟩, ⟨(.aop (.bin .eql (.slot 269) (.lit (.int .i64 (10))))), (some 270), (some ((.slot 268), true))⟩, ⟨(.aop (.pick (.slot 268) (.slot 270) (.lit (.bool false)))), (some 271), none⟩, ⟨(.aop (.mov (.slot 271))), (some 272), none⟩, ⟨(.aop (.mov (.slot 32))), (some 273), (some ((.slot 272), true))⟩, ⟨(.aop (.bin .eql (.slot 273) (.lit (.int .i64 (10))))), (some 274), (some ((.slot 272), true))⟩, ⟨(.aop (.pick (.slot 272) (.slot 274) (.lit (.bool false)))), (some 275), none⟩, ⟨(.aop (.mov (.slot 275))), (some 276), none⟩, ⟨(.aop (.mov (.slot 34))), (some 277), (some ((.slot 276), true))⟩, ⟨(.aop (.pick (.slot 276) (.slot 277) (.lit (.bool false)))), (some 278), none⟩, ⟨(.aop (.mov (.slot 278))), (some 279), none⟩, ⟨(.aop (.fieldAddr 6 (.slot 33))), (some 280), (some ((.slot 279), true))⟩, ⟨(.aop (.load1 (.slot 280))), (some 281), (some ((.slot 279), true))⟩, ⟨(.aop (.pick (.slot 279) (.slot 281) (.lit (.bool false)))), (some 282), none⟩, ⟨(.aop (.mov (.slot 282))), (some 283), none⟩, ⟨(.aop (.fieldAddr 7 (.slot 33))), (some 284), (some ((.slot 283), true))⟩, ⟨(.aop (.load1 (.slot 284))), (some 285), (some ((.slot 283), true))⟩, ⟨(.aop (.un .not (.slot 285))), (some 286), (some ((.slot 283), true))⟩, ⟨(.aop (.pick (.slot 283) (.slot 286) (.lit (.bool false)))), (some 287), none⟩, ⟨(.aop (.mov (.slot 287))), (some 288), none⟩, ⟨(.aop (.fieldAddr 5 (.slot 33))), (some 289), (some ((.slot 288), true))⟩, ⟨(.aop (.load1 (.slot 289))), (some 290), (some ((.slot 288), true))⟩, ⟨(.aop (.bin .eql (.slot 290) (.lit (.int .i64 (3))))), (some 291), (some ((.slot 288), true))⟩, ⟨(.aop (.pick (.slot 288) (.slot 291) (.lit (.bool false)))), (some 292), none⟩, ⟨(.aop (.mov (.slot 292))), (some 293), none⟩, ⟨(.aop (.fieldAddr 2 (.slot 33))), (some 294), (some ((.slot 293), true))⟩, ⟨(.aop (.load1 (.slot 294))), (some 295), (some ((.slot 293), true))⟩, ⟨(.aop (.bin .eql (.slot 295) (.lit (.str [99])))), (some 296), (some ((.slot 293), true))⟩, ⟨(.aop (.pick (.slot 293) (.slot 296) (.lit (.bool false)))), (some 297), none⟩, ⟨(.aop (.mov (.slot 297))), (some 298), none⟩, ⟨(.aop (.fieldAddr 3 (.slot 33))), (some 299), (some ((.slot 298), true))⟩, ⟨(.aop (.load1 (.slot 299))), (some 300), (some ((.slot 298), true))⟩, ⟨(.aop (.lenStr (.slot 300))), (some 301), (some ((.slot 298), true))⟩, ⟨(.aop (.bin .eql (.slot 301) (.lit (.int .i64 (65535))))), (some 302), (some ((.slot 298), true))⟩, ⟨(.aop (.pick (.slot 298) (.slot 302) (.lit (.bool false)))), (some 303), none⟩, ⟨(.aop (.mov (.slot 303))), (some 304), none⟩, ⟨(.aop (.fieldAddr 4 (.slot 33))), (some 305), (some ((.slot 304), true))⟩, ⟨(.aop (.load1 (.slot 305))), (some 306), (some ((.slot 304), true))⟩, ⟨(.aop (.bin .eql (.slot 306) (.lit (.int .i64 (5))))), (some 307), (some ((.slot 304), true))⟩, ⟨(.aop (.pick (.slot 304) (.slot 307) (.lit (.bool false)))), (some 308), none⟩, ⟨(.aop (.mov (.slot 308))), (some 309), none⟩, ⟨(.aop (.mov (.slot 36))), (some 310), (some ((.slot 309), true))⟩, ⟨(.aop (.bin .eql (.slot 310) (.lit (.int .i64 (3))))), (some 311), (some ((.slot 309), true))⟩, ⟨(.aop (.pick (.slot 309) (.slot 311) (.lit (.bool false)))), (some 312), none⟩, ⟨(.aop (.mov (.slot 312))), (some 313), none⟩, ⟨(.aop (.mov (.slot 37))), (some 314), (some ((.slot 313), true))⟩, ⟨(.aop (.bin .eql (.slot 314) (.lit (.int .u32 (2))))), (some 315), (some ((.slot 313), true))⟩, ⟨(.aop (.pick (.slot 313) (.slot 315) (.lit (.bool false)))), (some 316), none⟩, ⟨(.aop (.mov (.slot 316))), (some 317), none⟩, ⟨(.aop (.mov (.slot 38))), (some 318), (some ((.slot 317), true))⟩, ⟨(.aop (.bin .eql (.slot 318) (.lit (.int .i64 (0))))), (some 319), (some ((.slot 317), true))⟩, ⟨(.aop (.pick (.slot 317) (.slot 319) (.lit (.bool false)))), (some 320), none⟩, ⟨(.aop (.mov (.slot 320))), (some 321), none⟩, ⟨(.aop (.mov (.slot 40))), (some 322), (some ((.slot 321), true))⟩, ⟨(.aop (.bin .eql (.slot 322) (.lit (.int .i64 (0))))), (some 323), (some ((.slot 321), true))⟩, ⟨(.aop (.pick (.slot 321) (.slot 323) (.lit (.bool false)))), (some 324), none⟩, ⟨(.aop (.mov (.slot 324))), (some 325), none⟩, ⟨(.aop (.mov (.slot 42))), (some 326), (some ((.slot 325), true))⟩, ⟨(.aop (.pick (.slot 325) (.slot 326) (.lit (.bool false)))), (some 327), none⟩, ⟨(.aop (.mov (.slot 327))), (some 328), none⟩, ⟨(.aop (.fieldAddr 7 (.slot 41))), (some 329), (some ((.slot 328), true))⟩, ⟨(.aop (.load1 (.slot 329))), (some 330), (some ((.slot 328), true))⟩, ⟨(.aop (.pick (.slot 328) (.slot 330) (.lit (.bool false)))), (some 331), none⟩, ⟨(.aop (.mov (.slot 331))), (some 332), none⟩, ⟨(.aop (.fieldAddr 5 (.slot 41))), (some 333), (some ((.slot 332), true))⟩, ⟨(.aop (.load1 (.slot 333))), (some 334), (some ((.slot 332), true))⟩, ⟨(.aop (.bin .eql (.slot 334) (.lit (.int .i64 (125))))), (some 335), (some ((.slot 332), true))⟩, ⟨(.aop (.pick (.slot 332) (.slot 335) (.lit (.bool false)))), (some 336), none⟩, ⟨(.aop (.mov (.slot 336))), (some 337), none⟩, ⟨(.aop (.mov (.slot 39))), (some 338), (some ((.slot 337), true))⟩, ⟨(.call (.lit (.fn (.func 66) [] [])) [(.slot 338)]), (some 339), (some ((.slot 337), true))⟩, ⟨(.aop (.pur (.build [(.int .u32 (0)), (.int .u32 (0)), (.int .u32 (0))] [(0, 1), (1, 1), (2, 1)]) [(.lit (.int .u32 (1))), (.lit (.int .u32 (2))), (.lit (.int .u32 (3)))])), (some 340), (some ((.slot 337), true))⟩, ⟨(.aop (.pur (.eqF false [.int, .int, .int]) [(.slot 339), (.slot 340)])), (some 341), (some ((.slot 337), true))⟩, ⟨(.aop (.pick (.slot 337) (.slot 341) (.lit (.bool false)))), (some 342), none⟩, ⟨(.aop (.mov (.slot 342))), (some 343), none⟩, ⟨(.aop (.mov (.slot 39))), (some 344), (some ((.slot 343), true))⟩, ⟨(.call (.lit (.fn (.func 50) [] [])) [(.slot 344)]), (some 345), (some ((.slot 343), true))⟩, ⟨(.aop (.bin .eql (.slot 345) (.lit (.int .u32 (2))))), (some 346), (some ((.slot 343), true))⟩, ⟨(.aop (.pick (.slot 343) (.slot 346) (.lit (.bool false)))), (some 347), none⟩, ⟨(.aop (.mov (.slot 347))), (some 348), none⟩, ⟨(.call (.lit (.fn (.func 67) [] [])) []), (some 349), (some ((.slot 348), true))⟩, ⟨(.aop (.pick (.slot 348) (.slot 349) (.lit (.bool false)))), (some 350), none⟩, ⟨(.aop (.mov (.slot 350))), (some 0), none⟩]) .ret)))))))))))))))))))))))))))))))))))))
theorem comp6 : (V2.compC Tryz.prog 6 Tryz.f6.ntmps (fun _ => false) (Tryz.f6.body.getD .skip), V2.compR Tryz.prog Tryz.f6.results.toList) = (some c6, some [(.tmp 0)]) := by kernel_rfl
theorem body6 : Tryz.f6.body = some (Tryz.f6.body.getD .skip) := by kernel_rfl
end Go.Proofs.YtjgmpdklfcmelaaGreatDoor.V2
