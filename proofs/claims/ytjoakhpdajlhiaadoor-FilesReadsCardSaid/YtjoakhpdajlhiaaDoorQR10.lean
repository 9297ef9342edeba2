/- Part 10 of the proof: texts of the proof. -/
import Derived.Test.YtjoakhpdajlhiaaDoorQR9
import Derived.Shelf.Strings.Count
import Derived.Shelf.Strings.Search3
import Derived.Shelf.Strings.Repeat
import Derived.Shelf.SlIter.Nil
import Derived.Shelf.SortM.Plain
import Derived.Shelf.SortM.SortNone
import Derived.Shelf.Strings.LastIndexAll
import Derived.Shelf.Strings.Prefix
import Derived.Test.YtjoakhpdajlhiaaDoorChecked
import Derived.Maps.AppendAt
namespace Go.Proofs.YtjoakhpdajlhiaaDoor.V2.S
open Go
set_option maxRecDepth 100000
set_option maxHeartbeats 4000000
set_option linter.unusedVariables false
attribute [local irreducible] fN fO nM gM pM Phi.fn mp bl bpart bapp top1 pack
theorem setM_len (x : En) : ∀ L : List En, (setM En.path x L).length = match lookM En.path x.path L with | some _ => L.length | none => L.length + 1
  | [] => rfl
  | a :: l => by
    unfold setM lookM
    by_cases h : a.path = x.path
    · rw [if_pos h, if_pos h]; rfl
    · rw [if_neg h, if_neg h, List.length_cons, setM_len x l]
      cases lookM En.path x.path l <;> rfl
theorem setM_sizes (x : En) : ∀ L : List En, sizesG (setM En.path x L) = (match lookM En.path x.path L with | some o => sizesG L - o.data.length | none => sizesG L + x.path.length) + x.data.length
  | [] => by show x.path.length + x.data.length + 0 = 0 + x.path.length + x.data.length; omega
  | a :: l => by
    unfold setM lookM
    by_cases h : a.path = x.path
    · rw [if_pos h, if_pos h]; show x.path.length + x.data.length + sizesG l = a.path.length + a.data.length + sizesG l - a.data.length + x.data.length; rw [h]; omega
    · rw [if_neg h, if_neg h]
      have := setM_sizes x l
      cases hl : lookM En.path x.path l with
      | none => rw [hl] at this; show a.path.length + a.data.length + sizesG (setM En.path x l) = a.path.length + a.data.length + sizesG l + x.path.length + x.data.length; rw [this]; show _ + (sizesG l + x.path.length + x.data.length) = _; omega
      | some o =>
        have h2 := look_sizes hl
        rw [hl] at this; show a.path.length + a.data.length + sizesG (setM En.path x l) = a.path.length + a.data.length + sizesG l - o.data.length + x.data.length; rw [this]; show _ + (sizesG l - o.data.length + x.data.length) = _; omega
theorem setM_mem {x e : En} : ∀ {L : List En}, e ∈ setM En.path x L → e = x ∨ e ∈ L
  | [], h => .inl (by simpa [setM] using h)
  | a :: l, h => by
    unfold setM at h
    by_cases hp : a.path = x.path
    · rw [if_pos hp] at h
      rcases List.mem_cons.1 h with h | h
      · exact .inl h
      · exact .inr (List.mem_cons_of_mem _ h)
    · rw [if_neg hp] at h
      rcases List.mem_cons.1 h with h | h
      · exact .inr (by rw [h]; exact List.mem_cons_self)
      · rcases setM_mem h with h | h
        · exact .inl h
        · exact .inr (List.mem_cons_of_mem _ h)
theorem setM_path {x : En} {p : Bs} : ∀ {L : List En}, p ∈ (setM En.path x L).map En.path → p = x.path ∨ p ∈ L.map En.path := fun {L} h => by
  obtain ⟨e, h1, rfl⟩ := List.mem_map.1 h
  rcases setM_mem h1 with h | h
  · exact .inl (by rw [h])
  · exact .inr (List.mem_map.2 ⟨e, h, rfl⟩)
theorem setM_nd (x : En) : ∀ {L : List En}, (L.map En.path).Nodup → ((setM En.path x L).map En.path).Nodup
  | [], _ => by simp [setM]
  | a :: l, h => by
    rw [List.map_cons, List.nodup_cons] at h
    unfold setM
    by_cases hp : a.path = x.path
    · rw [if_pos hp, List.map_cons, List.nodup_cons, ← hp]; exact h
    · rw [if_neg hp, List.map_cons, List.nodup_cons]
      exact ⟨fun hm => (setM_path hm).elim hp h.1, setM_nd x h.2⟩
theorem look_in : ∀ {L : List En} {p : Bs} {a : En}, lookM En.path p L = some a → a ∈ L
  | [], p, a, h => by cases h
  | b :: L, p, a, h => by
    unfold lookM at h
    by_cases hb : b.path = p
    · rw [if_pos hb] at h; cases h; exact List.mem_cons_self
    · rw [if_neg hb] at h; exact List.mem_cons_of_mem _ (look_in h)
theorem putG_wf {t : Tr} (hW : WfT t) {x : En} (hx : x.path.head? = some 47) : WfT (putG t x).1 := by
  unfold putG
  split
  · exact hW
  split
  · exact hW
  rename_i h1 h2
  refine ⟨setM_nd x hW.nd, ?_, ?_, fun e he => ?_, fun e he => ?_, hW.hc, hW.c1, hW.c2⟩
  · show (setM En.path x t.L).length ≤ 128
    rw [setM_len]
    have : manyG t x = match lookM En.path x.path t.L with | some _ => t.L.length | none => t.L.length + 1 := rfl
    omega
  · show sizesG (setM En.path x t.L) ≤ 32768
    rw [setM_sizes]
    have : bytesG t x = match lookM En.path x.path t.L with | some o => sizesG t.L - o.data.length | none => sizesG t.L + x.path.length := rfl
    omega
  · rcases setM_mem he with rfl | he
    · exact hx
    · exact hW.hd e he
  · rcases setM_mem he with rfl | he
    · omega
    · exact hW.pl e he
theorem makeG_wf {t : Tr} (hW : WfT t) (path : Bs) : WfT (makeG t path).1 := by
  unfold makeG
  split
  · exact hW
  split
  · exact hW
  rename_i h1 h2
  exact putG_wf hW (absG_head hW.hc (by omega))
theorem writeG_wf {t : Tr} (hW : WfT t) (path data : Bs) (more : Bool) : WfT (writeG t path data more).1 := by
  unfold writeG
  split
  · exact hW
  split
  · exact hW
  rename_i h1 h2
  exact putG_wf hW (absG_head hW.hc (by omega))
theorem kindG_le {t : Tr} (hW : WfT t) {a : Bs} (h : kindG t a ≠ 0) : a.head? = some 47 ∧ 1 ≤ a.length ∧ a.length ≤ 256 := by
  unfold kindG look at h
  by_cases ha : a = [47]
  · subst ha; exact ⟨rfl, by decide, by decide⟩
  · rw [if_neg ha] at h
    cases hl : lookM En.path a t.L with
    | none => rw [hl] at h; exact absurd rfl h
    | some e =>
      have h1 := look_in hl
      have h2 := (look_sizes hl).2
      have h3 := hW.hd e h1
      have h4 := (hW.pl e h1).1
      rw [h2] at h3 h4
      refine ⟨h3, ?_, h4⟩
      cases a with
      | nil => cases h3
      | cons c l => exact Nat.succ_le_succ (Nat.zero_le _)
theorem cdG_wf {t : Tr} (hW : WfT t) (path : Bs) : WfT (cdG t path).1 := by
  unfold cdG
  split
  · exact hW
  rename_i h
  have h : (isG t path 1).2 = 0 := by omega
  have h1 : kindG t (isG t path 1).1 ≠ 0 := by
    unfold isG at h ⊢
    by_cases ha : (absG t path).2 ≠ 0
    · rw [if_pos ha] at h; exact absurd h ha
    · rw [if_neg ha] at h ⊢
      by_cases hk : kindG t (absG t path).1 = 1
      · rw [if_pos hk]; show kindG t (absG t path).1 ≠ 0; omega
      · rw [if_neg hk] at h
        split at h <;> cases h
  obtain ⟨h2, h3, h4⟩ := kindG_le hW h1
  exact ⟨hW.nd, hW.len, hW.sz, hW.hd, hW.pl, h2, h3, h4⟩
theorem newG_wf : WfT newG := ⟨by simp [newG], by decide, by decide, fun e he => absurd he List.not_mem_nil, fun e he => absurd he List.not_mem_nil, rfl, by decide, by decide⟩
end Go.Proofs.YtjoakhpdajlhiaaDoor.V2.S
namespace Go.Proofs.YtjoakhpdajlhiaaDoor.V2.S
open Go
set_option maxRecDepth 100000
set_option maxHeartbeats 4000000
set_option linter.unusedVariables false
attribute [local irreducible] fN fO nM gM pM Phi.fn mp bl bpart bapp top1 pack
def pF : List Bs → Bs
  | [] => []
  | n :: ns => 47 :: n ++ pF ns
def dirP (ns : List Bs) : Bs := if ns = [] then [47] else pF ns
theorem pF_app : ∀ a b : List Bs, pF (a ++ b) = pF a ++ pF b
  | [], b => rfl
  | n :: a, b => by show 47 :: n ++ pF (a ++ b) = 47 :: n ++ pF a ++ pF b; rw [pF_app a b, List.append_assoc]
theorem pF_snoc (a : List Bs) (n : Bs) : pF (a ++ [n]) = pF a ++ 47 :: n := by rw [pF_app]; show _ ++ (47 :: n ++ []) = _; rw [List.append_nil]
theorem splitB_ne : ∀ l : Bs, splitB l ≠ []
  | [] => by simp [splitB]
  | c :: l => by
    unfold splitB
    split
    · simp
    · split <;> simp
theorem splitB_app : ∀ a b : Bs, splitB (a ++ 47 :: b) = splitB a ++ splitB b
  | [], b => by show splitB (47 :: b) = [[]] ++ splitB b; rw [splitB, if_pos rfl]; rfl
  | c :: a, b => by
    have ih := splitB_app a b
    rw [List.cons_append, splitB, splitB, ih]
    by_cases hc : c = 47
    · rw [if_pos hc, if_pos hc]; rfl
    · rw [if_neg hc, if_neg hc]
      cases h : splitB a with
      | nil => exact absurd h (splitB_ne a)
      | cons p ps => rfl
theorem splitB_pF : ∀ (ns : List Bs) (a : Bs), (∀ n ∈ ns, countS n = 0) → splitB (a ++ pF ns) = splitB a ++ ns
  | [], a, _ => by show splitB (a ++ []) = _; rw [List.append_nil, List.append_nil]
  | n :: ns, a, h => by
    have e : a ++ pF (n :: ns) = (a ++ 47 :: n) ++ pF ns := by show a ++ (47 :: n ++ pF ns) = _; rw [List.append_assoc]
    rw [e, splitB_pF ns _ fun x hx => h x (List.mem_cons_of_mem _ hx), splitB_app, split_none (h n List.mem_cons_self), List.append_assoc]; rfl
theorem split_pF {ns : List Bs} (h : ∀ n ∈ ns, countS n = 0) : splitB (pF ns) = [] :: ns := splitB_pF ns [] h
structure Good (n : Bs) : Prop where
  nm : nameB n = true
  c0 : countS n = 0
  e1 : n ≠ []
  e2 : n ≠ [46]
  e3 : n ≠ [46, 46]
theorem lastS_app0 : ∀ (a n : Bs), countS n = 0 → lastS (a ++ 47 :: n) = a.length + 1
  | [], n, h => by
    show lastS (47 :: n) = 1
    have h0 : lastS n = 0 := lastS_none fun i hi hb => by
      have : (47 : UInt8) ∈ n := by
        unfold bt at hb
        rw [List.getD_eq_getElem?_getD, List.getElem?_eq_getElem hi, Option.getD_some] at hb
        rw [← show n[i] = 47 from UInt8.toNat_inj.1 hb]; exact List.getElem_mem hi
      exact absurd h (by unfold countS; exact Nat.pos_iff_ne_zero.1 (List.count_pos_iff.2 this))
    rw [lastS, if_pos h0, if_pos rfl]
  | c :: a, n, h => by
    show lastS (c :: (a ++ 47 :: n)) = _
    rw [lastS, lastS_app0 a n h, if_neg (by omega)]; rfl
theorem hasSuf_app (a : Bs) {n : Bs} (h0 : countS n = 0) (h1 : n ≠ []) : hasSuf (a ++ n) [47] = false := by
  unfold hasSuf
  have hl := List.length_pos_iff.2 h1
  by_cases h : (a ++ n).drop ((a ++ n).length - [(47 : UInt8)].length) = [47]
  · have hm : (47 : UInt8) ∈ n := by
      rw [List.length_append, show a.length + n.length - [(47 : UInt8)].length = a.length + (n.length - 1) by show _ - 1 = _; omega, List.drop_length_add_append] at h
      exact List.mem_of_mem_drop (h ▸ List.mem_singleton.2 rfl)
    exact absurd h0 (by unfold countS; exact Nat.pos_iff_ne_zero.1 (List.count_pos_iff.2 hm))
  · rw [decide_eq_false h, Bool.and_false]
theorem hasSuf_app' (b : List Bs) {x : Bs} (h : Good x) : hasSuf (pF b ++ 47 :: x) [47] = false := by
  have := hasSuf_app (pF b ++ [47]) h.c0 h.e1
  rwa [List.append_assoc] at this
theorem dirP_snoc (a : List Bs) (n : Bs) : dirP (a ++ [n]) = pF a ++ 47 :: n := by
  unfold dirP; rw [if_neg (by simp), pF_snoc]
theorem join_dirP {a : List Bs} (ha : ∀ x ∈ a, Good x) (n : Bs) : joinG (dirP a) n = dirP (a ++ [n]) := by
  rw [dirP_snoc]
  unfold joinG trimG
  rcases List.eq_nil_or_concat a with rfl | ⟨b, x, rfl⟩
  · rfl
  · have hx := ha x (by simp)
    rw [List.concat_eq_append] at *
    rw [dirP_snoc, pF_snoc, hasSuf_app' b hx]
    simp
theorem par_dirP (a : List Bs) {n : Bs} (h : Good n) : parG (dirP (a ++ [n])) = dirP a := by
  rw [dirP_snoc]
  unfold parG
  rw [lastS_app0 _ _ h.c0, Nat.add_sub_cancel]
  cases a with
  | nil => rfl
  | cons x a =>
    have : 1 ≤ (pF (x :: a)).length := by show 1 ≤ (47 :: x ++ pF a).length; simp
    rw [Nat.max_eq_left this, List.take_left']
    · unfold dirP; rw [if_neg (by simp)]
    · rfl
end Go.Proofs.YtjoakhpdajlhiaaDoor.V2.S
namespace Go.Proofs.YtjoakhpdajlhiaaDoor.V2.S
open Go
set_option maxRecDepth 100000
set_option maxHeartbeats 4000000
set_option linter.unusedVariables false
attribute [local irreducible] fN fO nM gM pM Phi.fn mp bl bpart bapp top1 pack
def tT1 : Tr := ⟨[⟨[47, 97], true, []⟩], [47]⟩
def tT2 : Tr := ⟨[⟨[47, 97], true, []⟩, ⟨[47, 97, 47, 102], false, [120]⟩], [47]⟩
def tT3 : Tr := ⟨[⟨[47, 97], true, []⟩, ⟨[47, 97, 47, 102], false, [120]⟩], [47, 97]⟩
theorem tellsM : makeG newG [97] = (tT1, 0) := by rfl
theorem tellsW : writeG tT1 [97, 47, 46, 46, 47, 97, 47, 46, 47, 102] [120] false = (tT2, 0) := by rfl
theorem tellsC : cdG tT2 [47, 97] = (tT3, 0) := by rfl
theorem tellsR : readG tT3 [102] = ([120], 0) := by rfl
theorem tT1_wf : WfT tT1 := by have := makeG_wf newG_wf [97]; rw [tellsM] at this; exact this
theorem tT2_wf : WfT tT2 := by have := writeG_wf tT1_wf [97, 47, 46, 46, 47, 97, 47, 46, 47, 102] [120] false; rw [tellsW] at this; exact this
theorem tT3_wf : WfT tT3 := by have := cdG_wf tT2_wf [47, 97]; rw [tellsC] at this; exact this
def TellsS (H : HF) : Prop := ∀ (n : Nat) (m : T FObj), Ret 4000 H [] n m (.b true)
theorem tells_s {O : Oz} (hO : O = zO) (Φ : Phi) (HN : NewS (Phi.fn Φ 26)) (HM : MakeS (Phi.fn Φ 14)) (HW : WriteS (Phi.fn Φ 13)) (HC : CdS (Phi.fn Φ 16)) (HD : ReadS (Phi.fn Φ 20)) (HE : CwdS (Phi.fn Φ 11)) : TellsS (p18 O Φ) := fun n m k P hn hf => by
  repeat' ((conv => lhs; whnf); first | ((with_reducible refine atFn ?_); first | (refine HN _ _ _ _ (by omega) (fun v1 n1 m1 h1 g1 k1 q1 => ?_); obtain ⟨tb, mb, rfl, htm, t1, htb, t3, hmb, hT⟩ := q1; have k1p := Kq.kp k1) | (refine HM (t := newG) (hT.kp kQ htb hmb) (by omega) (by omega) htm newG_wf _ (by decide) _ _ (by omega) (fun v5 n5 m5 h5 g5 k5 q5 => (fun k5l => ?_) (Kq.low (n := n) k5 (by omega) (by simp only [List.mem_cons, List.not_mem_nil, or_false, forall_eq]; omega))); obtain ⟨hv, hT⟩ := q5; rw [tellsM] at hv hT; have htb : tb < n5 := (by omega); have hmb : mb < n5 := (by omega); subst hv) | (refine HW (t := tT1) (hT.kp kQ htb hmb) (by omega) (by omega) htm tT1_wf _ _ _ (by decide) (by decide) _ _ (by omega) (fun v5 n5 m5 h5 g5 k5 q5 => (fun k5l => ?_) (Kq.low (n := n) k5 (by omega) (by simp only [List.mem_cons, List.not_mem_nil, or_false, forall_eq]; omega))); obtain ⟨hv, hT⟩ := q5; rw [tellsW] at hv hT; have htb : tb < n5 := (by omega); have hmb : mb < n5 := (by omega); subst hv) | (refine HC (t := tT2) (hT.kp kQ htb hmb) (by omega) (by omega) tT2_wf _ (by decide) _ _ (by omega) (fun v5 n5 m5 h5 g5 k5 q5 => (fun k5l => ?_) (Kq.low (n := n) k5 (by omega) (by simp only [List.mem_cons, List.not_mem_nil, or_false, forall_eq]; omega))); obtain ⟨hv, hT⟩ := q5; have hT := hT htm; rw [tellsC] at hv hT; have htb : tb < n5 := (by omega); have hmb : mb < n5 := (by omega); subst hv) | (refine HD (t := tT3) (hT.kp kQ htb hmb) (by omega) (by omega) tT3_wf _ (by decide) _ _ (by omega) (fun n5 m5 h5 g5 k5 => ?_); rw [tellsR]) | (refine HE (t := tT3) (hT.kp kQ htb hmb) (by omega) (by omega) _ _ ?_)) | ((with_reducible refine eqT hO (by omega) ?_)) | ((with_reducible refine eqST hO (by first | rfl | assumption) ?_)) | ((with_reducible refine eqSB hO (fun h => ?_) (fun h => ?_))))
  all_goals (conv => lhs; whnf)
  all_goals first
    | exact hf _ _ (by omega) (by omega) kQ
    | (rename_i hx; exact absurd rfl hx)
    | exact absurd rfl h
end Go.Proofs.YtjoakhpdajlhiaaDoor.V2.S
namespace Go.Proofs.YtjoakhpdajlhiaaDoor.V2
open Go Go.Shelf Go.Proofs Go.RowKit
def count241_lay_ren : Go.Shelf.Ren := ⟨fun | 138 => 88 | 195 => 106 | 218 => 108 | 143 => 89 | 219 => 109 | 217 => 119 | 225 => 120 | 224 => 121 | 267 => 122 | 266 => 124 | 314 => 125 | n => n, fun | 9 => 9 | 3 => 3 | 4 => 4 | 5 => 5 | 0 => 0 | 46 => 97 | 146 => 118 | 51 => 117 | n => n, fun | 1 => 0 | n => n⟩
theorem count241_lay : Go.Proofs.Lays.n138 Tryd.prog count241_lay_ren := {
  mixed := by kernel_rfl
  f138 := Tryd.func88.trans (congrArg some (by kernel_rfl))
  f143 := Tryd.func89.trans (congrArg some (by kernel_rfl))
  f195 := Tryd.func106.trans (congrArg some (by kernel_rfl))
  f217 := Tryd.func119.trans (congrArg some (by kernel_rfl))
  f218 := Tryd.func108.trans (congrArg some (by kernel_rfl))
  f219 := Tryd.func109.trans (congrArg some (by kernel_rfl))
  f224 := Tryd.func121.trans (congrArg some (by kernel_rfl))
  f225 := Tryd.func120.trans (congrArg some (by kernel_rfl))
  f266 := Tryd.func124.trans (congrArg some (by kernel_rfl))
  f267 := Tryd.func122.trans (congrArg some (by kernel_rfl))
  f314 := Tryd.func125.trans (congrArg some (by kernel_rfl))
  t0 := Tryd.underlying0
  a0 := Tryd.isAgg0
  z0 := Tryd.sizeOf0
  v0 := Tryd.zeroValue0
  t3 := Tryd.underlying3
  a3 := Tryd.isAgg3
  z3 := Tryd.sizeOf3
  v3 := Tryd.zeroValue3
  t4 := Tryd.underlying4
  a4 := Tryd.isAgg4
  z4 := Tryd.sizeOf4
  v4 := Tryd.zeroValue4
  t5 := Tryd.underlying5
  a5 := Tryd.isAgg5
  z5 := Tryd.sizeOf5
  v5 := Tryd.zeroValue5
  t9 := Tryd.underlying9
  a9 := Tryd.isAgg9
  z9 := Tryd.sizeOf9
  v9 := Tryd.zeroValue9
  t46 := Tryd.underlying97
  a46 := Tryd.isAgg97
  z46 := Tryd.sizeOf97
  v46 := Tryd.zeroValue97
  t51 := Tryd.underlying117
  a51 := Tryd.isAgg117
  z51 := Tryd.sizeOf117
  v51 := Tryd.zeroValue117
  t146 := Tryd.underlying118
  a146 := Tryd.isAgg118
  z146 := Tryd.sizeOf118
  v146 := Tryd.zeroValue118
  g1 := by kernel_rfl }
def index242_lay_ren : Go.Shelf.Ren := ⟨fun | 143 => 89 | 219 => 109 | 217 => 119 | 225 => 120 | 224 => 121 | 267 => 122 | 266 => 124 | 314 => 125 | n => n, fun | 9 => 9 | 3 => 3 | 4 => 4 | 5 => 5 | 46 => 97 | 146 => 118 | 51 => 117 | n => n, fun | 1 => 0 | n => n⟩
theorem index242_lay : Go.Proofs.Lays.n143 Tryd.prog index242_lay_ren := {
  mixed := by kernel_rfl
  f143 := Tryd.func89.trans (congrArg some (by kernel_rfl))
  f217 := Tryd.func119.trans (congrArg some (by kernel_rfl))
  f219 := Tryd.func109.trans (congrArg some (by kernel_rfl))
  f224 := Tryd.func121.trans (congrArg some (by kernel_rfl))
  f225 := Tryd.func120.trans (congrArg some (by kernel_rfl))
  f266 := Tryd.func124.trans (congrArg some (by kernel_rfl))
  f267 := Tryd.func122.trans (congrArg some (by kernel_rfl))
  f314 := Tryd.func125.trans (congrArg some (by kernel_rfl))
  t3 := Tryd.underlying3
  a3 := Tryd.isAgg3
  z3 := Tryd.sizeOf3
  v3 := Tryd.zeroValue3
  t4 := Tryd.underlying4
  a4 := Tryd.isAgg4
  z4 := Tryd.sizeOf4
  v4 := Tryd.zeroValue4
  t5 := Tryd.underlying5
  a5 := Tryd.isAgg5
  z5 := Tryd.sizeOf5
  v5 := Tryd.zeroValue5
  t9 := Tryd.underlying9
  a9 := Tryd.isAgg9
  z9 := Tryd.sizeOf9
  v9 := Tryd.zeroValue9
  t46 := Tryd.underlying97
  a46 := Tryd.isAgg97
  z46 := Tryd.sizeOf97
  v46 := Tryd.zeroValue97
  t51 := Tryd.underlying117
  a51 := Tryd.isAgg117
  z51 := Tryd.sizeOf117
  v51 := Tryd.zeroValue117
  t146 := Tryd.underlying118
  a146 := Tryd.isAgg118
  z146 := Tryd.sizeOf118
  v146 := Tryd.zeroValue118
  g1 := by kernel_rfl }
def ixS : List UInt8 → UInt8 → Nat → Int
  | [], _, _ => -1
  | b :: l, c, i => bif b == c then (i : Int) else ixS l c (i + 1)
theorem ixS_eq : ∀ (l : List UInt8) (c : UInt8) (i : Nat), ixS l c i = if Lib.indexByte l c = -1 then -1 else i + Lib.indexByte l c
  | [], _, _ => rfl
  | b :: l, c, i => by
    have ih := ixS_eq l c (i + 1)
    have hge := Lib.indexByte_ge l c
    unfold ixS Lib.indexByte
    cases hb : b == c
    · rw [cond_false, ih]
      simp only [Bool.false_eq_true, if_false, beq_iff_eq]
      by_cases h : Lib.indexByte l c = -1
      · simp [h]
      · simp only [h, if_false]
        rw [if_neg (by omega)]
        omega
    · simp
theorem ixS_zero (l : List UInt8) (c : UInt8) : ixS l c 0 = Lib.indexByte l c := by
  rw [ixS_eq]
  by_cases h : Lib.indexByte l c = -1
  · simp [h]
  · simp [h]
theorem count241 (s : List UInt8) (c : UInt8) (w : World) : Calls Tryd.prog 88 #[.string ⟨s.toArray⟩, .string ⟨#[c]⟩] w fun e w' => e = .returned (.int .i64 (s.count c)) ∧ w' = w :=
  Any.strings_Count_one count241_lay ⟨s.toArray⟩ c w
theorem index242 (s : List UInt8) (c : UInt8) (w : World) : Calls Tryd.prog 89 #[.string ⟨s.toArray⟩, .string ⟨#[c]⟩] w fun e w' => e = .returned (.int .i64 (ixS s c 0)) ∧ w' = w := by
  rw [ixS_zero]
  exact Any.strings_Index_one index242_lay ⟨s.toArray⟩ c w
def ctA (args : List AV) (σ : AH) : Out := match args with
  | [.str s, .str [c]] => (true, .int .i64 (s.count c), σ)
  | _ => bad σ
def ixA (args : List AV) (σ : AH) : Out := match args with
  | [.str s, .str [c]] => (true, .int .i64 (ixS s c 0), σ)
  | _ => bad σ
noncomputable def ciF (g : FuncId → List AV → AH → Out) (f : FuncId) (args : List AV) (σ : AH) : Out := bif Nat.beq f 88 then ctA args σ else bif Nat.beq f 89 then ixA args σ else g f args σ
theorem ciF_ok {Y : List Yl} {g : FuncId → List AV → AH → Out} (hg : FnOk Tryd.prog 3 g Y) : FnOk Tryd.prog 3 (ciF g) Y := by
  intro f args σ h
  unfold ciF at h ⊢
  cases hf : Nat.beq f 88
  case true =>
    rw [hf] at h
    simp only [cond_true] at h ⊢
    have e := Nat.eq_of_beq_eq_true hf
    subst e
    refine ⟨⟨_, Tryd.func88, by kernel_rfl, by kernel_rfl⟩, fun ρ W vs _ hG hr hvs => ?_⟩
    unfold ctA at h ⊢
    split at h
    case h_2 => cases h
    rename_i s c
    obtain ⟨v, mm, rfl, hv, u, mmm, rfl, hu, hmm⟩ := hvs
    have hmm : mmm = [] := hmm
    subst hmm
    unfold VR at hv hu
    subst hu hv
    refine (count241 s c W).mono ?_
    rintro e W' ⟨rfl, hw⟩
    subst hw
    exact ⟨_, ρ, rfl, hr, .refl (Nat.le_refl _), by unfold VR; rfl⟩
  case false =>
    rw [hf] at h
    rw [cond_false] at h ⊢
    cases hf2 : Nat.beq f 89
    case false => rw [hf2] at h; rw [cond_false] at h ⊢; exact hg f args σ h
    rw [hf2] at h
    simp only [cond_true] at h ⊢
    have e := Nat.eq_of_beq_eq_true hf2
    subst e
    refine ⟨⟨_, Tryd.func89, by kernel_rfl, by kernel_rfl⟩, fun ρ W vs _ hG hr hvs => ?_⟩
    unfold ixA at h ⊢
    split at h
    case h_2 => cases h
    rename_i s c
    obtain ⟨v, mm, rfl, hv, u, mmm, rfl, hu, hmm⟩ := hvs
    have hmm : mmm = [] := hmm
    subst hmm
    unfold VR at hv hu
    subst hu hv
    refine (index242 s c W).mono ?_
    rintro e W' ⟨rfl, hw⟩
    subst hw
    exact ⟨_, ρ, rfl, hr, .refl (Nat.le_refl _), by unfold VR; rfl⟩
noncomputable section
def k1S (l : List UInt8) (f : UInt8 → FR) : FR := List.rec (motive := fun _ => FR) .bad (fun c m _ => List.rec (motive := fun _ => FR) (f c) (fun _ _ _ => .bad) m) l
theorem k1S_cases {l : List UInt8} {f : UInt8 → FR} (h : k1S l f ≠ .bad) : ∃ c, l = [c] ∧ k1S l f = f c := by
  cases l with
  | nil => exact absurd rfl h
  | cons c m =>
    cases m with
    | nil => exact ⟨c, rfl, rfl⟩
    | cons _ _ => exact absurd rfl h
def ctQ (l : List FV) (σ : FH) (k : KV) : FR := k2L l fun x y => kS (fun s => kS (fun c => k1S (unp c) fun c => fN ((unp s).count c) fun m => k (.n .i64 m) σ) y) x
def ixQ (l : List FV) (σ : FH) (k : KV) : FR := k2L l fun x y => kS (fun s => kS (fun c => k1S (unp c) fun c => vI .i64 (ixS (unp s) c 0) fun v => k v σ) y) x
theorem ctQ_sm (l : List FV) (σ : FH) (k : KV) : Sm (ctQ l σ k) k (ctA (αL l) (αH σ)) := by
  intro h
  unfold ctQ at h ⊢
  obtain ⟨x, y, rfl, h1⟩ := k2L_cases h
  rw [h1] at h ⊢
  obtain ⟨s, rfl, h2⟩ := kS_cases h
  rw [h2] at h ⊢
  obtain ⟨c, rfl, h3⟩ := kS_cases h
  rw [h3] at h ⊢
  obtain ⟨u, h4, h5⟩ := k1S_cases h
  rw [h5] at h ⊢
  rw [fN_eq]
  refine ⟨_, σ, ?_, rfl⟩
  simp only [αL, αV, ctA, h4]
  rfl
theorem ixQ_sm (l : List FV) (σ : FH) (k : KV) : Sm (ixQ l σ k) k (ixA (αL l) (αH σ)) := by
  intro h
  unfold ixQ at h ⊢
  obtain ⟨x, y, rfl, h1⟩ := k2L_cases h
  rw [h1] at h ⊢
  obtain ⟨s, rfl, h2⟩ := kS_cases h
  rw [h2] at h ⊢
  obtain ⟨c, rfl, h3⟩ := kS_cases h
  rw [h3] at h ⊢
  obtain ⟨u, h4, h5⟩ := k1S_cases h
  rw [h5] at h ⊢
  obtain ⟨v, h6, h7⟩ := vI_of .i64 (ixS (unp s) u 0) fun v => k v σ
  refine ⟨v, σ, ?_, h7⟩
  simp only [αL, αV, ixA, h4, h6]
end
end Go.Proofs.YtjoakhpdajlhiaaDoor.V2
namespace Go.Proofs.YtjoakhpdajlhiaaDoor.V2
open Go Go.Shelf Go.Proofs Go.RowKit
theorem HR.below {ρ : Ren} {σ : AH} {W W' : World} (h : HR ρ σ W) (hb : Below W.heap.size W W') : HR ρ σ W' :=
  ⟨h.small, h.none_, fun b c d hρ => by
    obtain ⟨h1, h2, o, h3, h4⟩ := h.dom b c d hρ
    refine ⟨h1, Nat.lt_of_lt_of_le h2 hb.size, o, h3, ?_⟩
    rw [hb.block c h2]; exact h4, h.inj⟩
theorem Stp.below {N : Nat} {ρ : Ren} {σ : AH} {W W' : World} (hN : N ≤ σ.next) (hb : Below W.heap.size W W') : Stp N ρ σ W ρ σ W' :=
  ⟨fun _ _ => rfl, fun b _c d h => .inl ⟨b, d, h⟩, hN, fun _ _ _ _ h _ => h, fun c hc _ => hb.block c hc, hb.tape, hb.os, hb.output, hb.size, fun _ c _ _ _ _ hc h _ => ⟨h, hb.block c hc⟩⟩
noncomputable section
end
end Go.Proofs.YtjoakhpdajlhiaaDoor.V2
namespace Go.Proofs.YtjoakhpdajlhiaaDoor.V2.S
open Go
set_option maxRecDepth 100000
set_option maxHeartbeats 4000000
set_option linter.unusedVariables false
attribute [local irreducible] fN fO nM gM pM Phi.fn mp bl bpart bapp top1 pack
theorem ct_s : CntS ctQ := fun l σ k => by
  show k1S (unp (pack [47])) (fun c => fN ((unp (pack l)).count c) fun m => k (.n .i64 m) σ) = _
  rw [unp_pack, unp_pack]
  show (fN (l.count 47) fun m => k (.n .i64 m) σ) = _
  rw [fN_eq]; rfl
theorem ixS_first : ∀ (l : Bs) (i : Nat), ixS l 47 i = if 0 < countS l then ((i + firstS l : Nat) : Int) else -1
  | [], i => rfl
  | c :: l, i => by
    rw [ixS]
    by_cases h : c = 47
    · subst h
      have : 0 < countS (47 :: l) := by unfold countS; simp
      rw [if_pos this]; rfl
    · have e1 : countS (c :: l) = countS l := by unfold countS; rw [List.count_cons_of_ne h]
      have e2 : firstS (c :: l) = firstS l + 1 := by rw [firstS, if_neg h]
      rw [e1, e2, ixS_first l (i + 1), show (c == 47) = false from beq_eq_false_iff_ne.2 h, cond_false]
      by_cases hp : 0 < countS l
      · rw [if_pos hp, if_pos hp]; congr 1; omega
      · rw [if_neg hp, if_neg hp]
theorem ix_s : IxS ixQ := fun l σ k => by
  show k1S (unp (pack [47])) (fun c => vI .i64 (ixS (unp (pack l)) c 0) fun v => k v σ) = _
  rw [unp_pack, unp_pack]
  show (vI .i64 (ixS l 47 0) fun v => k v σ) = _
  rw [ixS_first]
  by_cases hp : 0 < countS l
  · rw [if_pos hp, if_pos hp, Nat.zero_add]
    show (fN (firstS l) fun m => k (.n .i64 m) σ) = _
    rw [fN_eq]
  · rw [if_neg hp, if_neg hp]
    show (fN 0 fun m => k (.z .i64 m) σ) = _
    rw [fN_eq]
end Go.Proofs.YtjoakhpdajlhiaaDoor.V2.S
namespace Go.Proofs.YtjoakhpdajlhiaaDoor.V2
open Go.Shelf Go.Proofs
def sorted185_lay_ren : Go.Shelf.Ren := ⟨fun | 6 => 29 | 8 => 63 | 9 => 64 | 11 => 84 | 13 => 86 | 12 => 85 | 23 => 104 | 24 => 105 | 14 => 95 | 15 => 96 | 16 => 97 | 17 => 98 | 18 => 99 | 19 => 100 | 20 => 101 | 21 => 102 | 22 => 103 | 25 => 112 | 26 => 113 | 27 => 114 | 28 => 115 | 29 => 116 | 30 => 117 | 31 => 123 | n => n, fun | 26 => 9 | 28 => 62 | 24 => 56 | 0 => 0 | 3 => 3 | 37 => 97 | 48 => 117 | 50 => 120 | 4 => 4 | 40 => 133 | 39 => 132 | 45 => 137 | 5 => 5 | 9 => 9 | 51 => 144 | 55 => 148 | 57 => 151 | 58 => 87 | 33 => 71 | n => n, fun | n => n⟩
theorem sorted185_lay : Go.Proofs.SlLaysZ.n6 Tryd.prog sorted185_lay_ren := {
  mixed := by kernel_rfl
  f6 := ⟨Tryd.f29.name, by decide, Tryd.func29.trans (congrArg some (by kernel_rfl))⟩
  f8 := ⟨Tryd.f63.name, by decide, Tryd.func63.trans (congrArg some (by kernel_rfl))⟩
  f11 := ⟨Tryd.f84.name, by decide, Tryd.func84.trans (congrArg some (by kernel_rfl))⟩
  t0 := Tryd.underlying0
  a0 := Tryd.isAgg0
  z0 := Tryd.sizeOf0
  v0 := Tryd.zeroValue0
  t24 := Tryd.underlying56
  a24 := Tryd.isAgg56
  z24 := Tryd.sizeOf56
  v24 := Tryd.zeroValue56
  t26 := Tryd.underlying9
  a26 := Tryd.isAgg9
  z26 := Tryd.sizeOf9
  v26 := Tryd.zeroValue9
  t28 := Tryd.underlying62
  a28 := Tryd.isAgg62
  z28 := Tryd.sizeOf62
  v28 := Tryd.zeroValue62
  i26 := by kernel_rfl }
def sort184_lay_ren : Go.Shelf.Ren := ⟨fun | 6 => 64 | 8 => 86 | 9 => 85 | 19 => 104 | 20 => 105 | 21 => 95 | 22 => 96 | 23 => 97 | 24 => 98 | 25 => 99 | 26 => 100 | 27 => 101 | 28 => 102 | 29 => 103 | 36 => 112 | 31 => 113 | 32 => 114 | 37 => 115 | 38 => 116 | 39 => 117 | 41 => 123 | n => n, fun | 27 => 56 | 29 => 9 | 3 => 3 | 32 => 97 | 26 => 56 | 0 => 0 | 44 => 117 | 46 => 120 | 4 => 4 | 36 => 133 | 35 => 132 | 41 => 137 | 5 => 5 | 9 => 9 | 53 => 144 | 57 => 148 | 63 => 151 | 64 => 87 | n => n, fun | n => n⟩
theorem sort184_lay : Go.Proofs.SlLaysM.n6 Tryd.prog sort184_lay_ren := {
  mixed := by kernel_rfl
  f6 := ⟨Tryd.f64.name, by decide, Tryd.func64.trans (congrArg some (by kernel_rfl))⟩
  f8 := Tryd.func86.trans (congrArg some (by kernel_rfl))
  f9 := ⟨Tryd.f85.name, by decide, Tryd.func85.trans (congrArg some (by kernel_rfl))⟩
  f19 := Tryd.func104.trans (congrArg some (by kernel_rfl))
  f20 := Tryd.func105.trans (congrArg some (by kernel_rfl))
  f21 := ⟨Tryd.f95.name, by decide, Tryd.func95.trans (congrArg some (by kernel_rfl))⟩
  f22 := ⟨Tryd.f96.name, by decide, Tryd.func96.trans (congrArg some (by kernel_rfl))⟩
  f23 := ⟨Tryd.f97.name, by decide, Tryd.func97.trans (congrArg some (by kernel_rfl))⟩
  f24 := ⟨Tryd.f98.name, by decide, Tryd.func98.trans (congrArg some (by kernel_rfl))⟩
  f25 := ⟨Tryd.f99.name, by decide, Tryd.func99.trans (congrArg some (by kernel_rfl))⟩
  f26 := ⟨Tryd.f100.name, by decide, Tryd.func100.trans (congrArg some (by kernel_rfl))⟩
  f27 := ⟨Tryd.f101.name, by decide, Tryd.func101.trans (congrArg some (by kernel_rfl))⟩
  f28 := ⟨Tryd.f102.name, by decide, Tryd.func102.trans (congrArg some (by kernel_rfl))⟩
  f29 := ⟨Tryd.f103.name, by decide, Tryd.func103.trans (congrArg some (by kernel_rfl))⟩
  f31 := Tryd.func113.trans (congrArg some (by kernel_rfl))
  f32 := Tryd.func114.trans (congrArg some (by kernel_rfl))
  f36 := ⟨Tryd.f112.name, by decide, Tryd.func112.trans (congrArg some (by kernel_rfl))⟩
  f37 := ⟨Tryd.f115.name, by decide, Tryd.func115.trans (congrArg some (by kernel_rfl))⟩
  f38 := ⟨Tryd.f116.name, by decide, Tryd.func116.trans (congrArg some (by kernel_rfl))⟩
  f39 := ⟨Tryd.f117.name, by decide, Tryd.func117.trans (congrArg some (by kernel_rfl))⟩
  f41 := ⟨Tryd.f123.name, by decide, Tryd.func123.trans (congrArg some (by kernel_rfl))⟩
  t0 := Tryd.underlying0
  a0 := Tryd.isAgg0
  z0 := Tryd.sizeOf0
  v0 := Tryd.zeroValue0
  t3 := Tryd.underlying3
  a3 := Tryd.isAgg3
  z3 := Tryd.sizeOf3
  v3 := Tryd.zeroValue3
  t4 := Tryd.underlying4
  a4 := Tryd.isAgg4
  z4 := Tryd.sizeOf4
  v4 := Tryd.zeroValue4
  t5 := Tryd.underlying5
  a5 := Tryd.isAgg5
  z5 := Tryd.sizeOf5
  v5 := Tryd.zeroValue5
  t9 := Tryd.underlying9
  a9 := Tryd.isAgg9
  z9 := Tryd.sizeOf9
  v9 := Tryd.zeroValue9
  t26 := Tryd.underlying56
  a26 := Tryd.isAgg56
  z26 := Tryd.sizeOf56
  v26 := Tryd.zeroValue56
  t27 := Tryd.underlying56
  a27 := Tryd.isAgg56
  z27 := Tryd.sizeOf56
  v27 := Tryd.zeroValue56
  t29 := Tryd.underlying9
  a29 := Tryd.isAgg9
  z29 := Tryd.sizeOf9
  v29 := Tryd.zeroValue9
  t32 := Tryd.underlying97
  a32 := Tryd.isAgg97
  z32 := Tryd.sizeOf97
  v32 := Tryd.zeroValue97
  t35 := Tryd.underlying132
  a35 := Tryd.isAgg132
  z35 := Tryd.sizeOf132
  v35 := Tryd.zeroValue132
  t36 := Tryd.underlying133
  a36 := Tryd.isAgg133
  z36 := Tryd.sizeOf133
  v36 := Tryd.zeroValue133
  t41 := Tryd.underlying137
  a41 := Tryd.isAgg137
  z41 := Tryd.sizeOf137
  v41 := Tryd.zeroValue137
  t44 := Tryd.underlying117
  a44 := Tryd.isAgg117
  z44 := Tryd.sizeOf117
  v44 := Tryd.zeroValue117
  t46 := Tryd.underlying120
  a46 := Tryd.isAgg120
  z46 := Tryd.sizeOf120
  v46 := Tryd.zeroValue120
  t53 := Tryd.underlying144
  a53 := Tryd.isAgg144
  z53 := Tryd.sizeOf144
  v53 := Tryd.zeroValue144
  t57 := Tryd.underlying148
  a57 := Tryd.isAgg148
  z57 := Tryd.sizeOf148
  v57 := Tryd.zeroValue148
  t63 := Tryd.underlying151
  a63 := Tryd.isAgg151
  z63 := Tryd.sizeOf151
  v63 := Tryd.zeroValue151
  t64 := Tryd.underlying87
  a64 := Tryd.isAgg87
  z64 := Tryd.sizeOf87
  v64 := Tryd.zeroValue87 }
end Go.Proofs.YtjoakhpdajlhiaaDoor.V2
namespace Go.Proofs.YtjoakhpdajlhiaaDoor.V2
open Go Go.RowKit Go.Maps Go.Sort Go.Shelf
theorem law9 : Keyed Tryd.prog 9 := string_keyed Tryd.underlying9
theorem sorts185 (m : Nat) : AnyZ.SortsIn Tryd.prog sorted185_lay_ren Fence.wide m :=
  ⟨fun blk off cap ss W hH hblk hsz => callsIn_wide.2 (AnyM.slices_Sort_string sort184_lay blk off cap ss W hH hblk hsz),
   fun p cap W => callsIn_wide.2 (AnyM.slices_Sort_string_none sort184_lay p cap W)⟩
set_option maxRecDepth 100000 in
set_option maxHeartbeats 1000000 in
theorem keys250 {H : Type} (n : Nat) (hn : 1 ≤ n) (l Bm o b nn : Nat) (D0 : DataW H) {R : Value → Option (DataW H × List MemPlace)} (J : List (List UInt8) → World → Prop)
    (hY : ∀ pre x W, J pre W → pre.length < Maps.size D0 → YieldAt Fence.wide (n - 1) Tryd.prog l #[encStr x] W fun e W' => e = .returned (.bool true) ∧ J (pre ++ [x]) W' ∧ KeepsWalks W W')
    (W : World) (hJ : AbidesFrom W.heap.size J) (hm : W.cell? ⟨Bm, o, none⟩ = some (.map (some b))) (hown : W.ownsMap Tryd.prog 9 R b nn D0) (h0 : J [] W) :
    CallsIn Fence.wide n Tryd.prog 65 #[.func (.yield l) #[] #[], .pointer (some ⟨Bm, o, none⟩)] W fun e W' => (∃ v, e = .returned v) ∧ ∃ ss : List (List UInt8), ss.Perm (strKeys D0) ∧ J ss W' := by
  refine callsIn_of_wp Tryd.func65 rfl trivial ?_ rfl
  simp only [Tryd.ntmps65, List.size_toArray, List.length_cons, List.length_nil, Nat.reduceAdd, Nat.reduceSub, Array.replicate_succ, Array.replicate_zero, List.push_toArray, List.append_toArray, List.nil_append, List.cons_append]
  gi_wp2_with (first
    | (gi_at_range; refine wpListIn_range_own _ rfl _ 29 rfl 9 32 law9 Tryd.underlying29 _ b nn _ rfl hown ?_; intro w0 hrg0 hg0 hs0)
    | gi_in)
  go_frame
  gi_loopw [3] (fun _ wr => ∃ (left : Lit → Bool) (cnt : Nat) (ss : List (List UInt8)), wr.ranges Tryd.prog 9 R b W.heap.size nn D0 left cnt ∧ ss.length + cnt ≤ Maps.size D0 ∧ Collected D0 left ss ∧ J ss wr)
    (fun _ wr => wr.rangeLeft b W.heap.size)
  case atStart =>
    exact ⟨_, _, [], hrg0, by simp, Collected.start D0, hJ [] W w0 none h0 hg0 (fun r e => by cases e)⟩
  case round =>
    obtain ⟨left, cnt, ss, hrg, hcs, hC, hJs⟩ := hrel
    gi_wp2_with (first
      | (gi_at_next; refine wpListIn_next_ranges _ rfl _ rfl 9 law9 R encStr id (fun key kl hk => by obtain ⟨x, hx, _⟩ := Maps.keyOf_str Tryd.underlying9 hk; exact ⟨x, hx⟩) (fun v _ _ => ⟨v, rfl⟩) b W.heap.size nn _ _ _ rfl hrg ?_ ?_)
      | gi_in)
    · intro hc0 hl0
      gi_wp2
      go_end0
      exact ⟨⟨_, rfl⟩, ss, hC.perm hown law9 Tryd.underlying9 hl0, hJs⟩
    · intro x c kl yd yp w2 cnt2 hkey hlk hv hat hrg2 hlt hg2 hs2 hen
      obtain ⟨x', ex, rfl, _⟩ := Maps.keyOf_str Tryd.underlying9 hkey
      obtain rfl : x = x' := encStr_inj ex
      have hJ2 : J ss w2 := hJ ss wr w2 (some W.heap.size) hJs hg2 (fun r e => by cases e; exact ⟨Nat.le_refl _, hrg.iter_walk⟩)
      obtain ⟨fn, tmps, assign, body, hy, hR⟩ := hY ss x w2 hJ2 (by omega)
      clear hs2
      gi_wp2
      refine hR.mono ?_
      rintro e W3 ⟨rfl, hJ3, hk3⟩
      gi_wp2
      have hrg3 := hrg2.of_walks hk3
      go_roundw
      case rel => exact ⟨_, cnt2, ss ++ [x], hrg3, by simp; omega, hC.step hlk hat, hJ3⟩
      case measure => rw [hrg3.left_eq, hrg.left_eq]; exact hlt
theorem gives250 {H : Type} (n : Nat) (hn : 1 ≤ n) (Bm o b nn : Nat) (D0 : DataW H) {R : Value → Option (DataW H × List MemPlace)} (w : World) (hBm : Bm < w.heap.size)
    (hm : w.cell? ⟨Bm, o, none⟩ = some (.map (some b))) (hown : w.ownsMap Tryd.prog 9 R b nn D0) :
    SeqGives Fence.wide n Tryd.prog 65 #[.pointer (some ⟨Bm, o, none⟩)] encStr (fun ss => ss.Perm (strKeys D0)) (Maps.size D0) w := fun l J W hW hJ hY h0 => by
  have hown' : W.ownsMap Tryd.prog 9 R b nn D0 := by
    have hbl := hown.lt
    obtain ⟨es, clock, hb, Ft, hs, hD⟩ := hown
    exact ⟨es, clock, (hW.block b hbl).trans hb, Ft, hs, hD⟩
  exact keys250 n hn l Bm o b nn D0 J hY W hJ ((hW.cell (p := ⟨Bm, o, none⟩) hBm).trans hm) hown' h0
theorem sorted250 {H : Type} (Bm o b nn : Nat) (D0 : DataW H) {R : Value → Option (DataW H × List MemPlace)} (w : World) (hBm : Bm < w.heap.size) (hm : w.cell? ⟨Bm, o, none⟩ = some (.map (some b)))
    (hown : w.ownsMap Tryd.prog 9 R b nn D0) (hmax : Maps.size D0 ≤ maxLen) (hbytes : Maps.size D0 * 16 ≤ 140737488355328) :
    Calls Tryd.prog 29 #[.func (.func 65) #[] #[.pointer (some ⟨Bm, o, none⟩)]] w fun e w' => ∃ (v : Value) (ss : List (List UInt8)), e = .returned v ∧ ss.Perm (strKeys D0) ∧
      w'.ownsRow w.heap.size 9 1 v ss.length ((ss.mergeSort (fun x y => decide (x ≤ y))).map encStr) ∧ (v = .slice none 0 0 ↔ ss = []) ∧ Below w.heap.size w w' :=
  (callsIn_wide (n := 5)).1 (AnyZ.sorted_in sorted185_lay Fence.wide 5 trivial trivial trivial trivial rfl (by omega) (sorts185 _) (enters_of Tryd.func64 (by kernel_rfl) rfl) 65 #[.pointer (some ⟨Bm, o, none⟩)] trivial (enters_of Tryd.func65 (by kernel_rfl) rfl) _ _ hmax hbytes _ (gives250 _ (by omega) Bm o b nn D0 w hBm hm hown))
end Go.Proofs.YtjoakhpdajlhiaaDoor.V2
namespace Go.Proofs.YtjoakhpdajlhiaaDoor.V2
open Go
open Go.RowKit Go.Maps Go.Sort
theorem HR.adopt {ρ : Ren} {σ : AH} {W W' : World} (h : HR ρ σ W) (hb : Below W.heap.size W W') {g s : Nat} (hg : W.heap.size ≤ g) (hg' : g < W'.heap.size) (hs : σ.next < 1000000) {o : AObj} (hO : OR ρ (0, s) o W'.heap[g]?) :
    ∃ ρ', ρ' σ.next = some (g, (0, s)) ∧ Sub ρ ρ' ∧ HR ρ' (σ.new o) W' ∧ Stp σ.next ρ σ W ρ' (σ.new o) W' := by
  have hn : ρ σ.next = none := by
    cases hc : ρ σ.next with
    | none => rfl
    | some c => have := (h.dom _ c.1 c.2 hc).1; omega
  have hget : ∀ m, (σ.new o).get m = if m = σ.next then some o else σ.get m := fun m => T.get_put _ _ _ _ (by omega)
  have hsub : Sub ρ (fun b => if b = σ.next then some (g, (0, s)) else ρ b) := fun b x hc => by
    have hne : b ≠ σ.next := by rintro rfl; rw [hn] at hc; cases hc
    simp only [if_neg hne]; exact hc
  refine ⟨fun b => if b = σ.next then some (g, (0, s)) else ρ b, if_pos rfl, hsub, ⟨by show σ.next + 1 ≤ _; omega, fun m hm => by have hm : σ.next + 1 ≤ m := hm; rw [hget, if_neg (by omega)]; exact h.none_ m (by omega), fun b c d hc => ?_, fun b b' c d d' h1 h2 hne => ?_⟩, ⟨fun b hb => if_neg (by omega), fun b c d hc => ?_, by show σ.next ≤ σ.next + 1; omega, fun b ob hb _ ho' _ => ?_, fun c hc _ => hb.block c hc, hb.tape, hb.os, hb.output, hb.size, fun b c d ob hb' _ hc ho' _ => ⟨by rw [hget, if_neg (by omega)]; exact ho', hb.block c hc⟩⟩⟩
  · rw [hget]
    by_cases hbn : b = σ.next
    · subst hbn
      simp only [if_true, Option.some.injEq, Prod.mk.injEq] at hc
      obtain ⟨rfl, rfl⟩ := hc
      exact ⟨Nat.lt_succ_self _, hg', o, if_pos rfl, hO.mono hsub⟩
    · simp only [if_neg hbn] at hc ⊢
      obtain ⟨h1, h2, o2, h3, h4⟩ := h.dom b c d hc
      refine ⟨by show b < σ.next + 1; omega, Nat.lt_of_lt_of_le h2 hb.size, o2, h3, ?_⟩
      rw [hb.block c h2]
      exact h4.mono hsub
  · by_cases e1 : b = σ.next
    · subst e1
      simp only [if_true, Option.some.injEq, Prod.mk.injEq] at h1
      obtain ⟨rfl, rfl⟩ := h1
      simp only [if_neg (Ne.symm hne)] at h2
      have := (h.dom _ _ _ h2).2.1
      omega
    · by_cases e2 : b' = σ.next
      · subst e2
        simp only [if_true, Option.some.injEq, Prod.mk.injEq] at h2
        obtain ⟨rfl, rfl⟩ := h2
        simp only [if_neg e1] at h1
        have := (h.dom _ _ _ h1).2.1
        omega
      · simp only [if_neg e1, if_neg e2] at h1 h2
        exact (h.inj b b' c d d' h1 h2 hne).congr (by rw [hget, if_neg e1]) (by rw [hget, if_neg e2])
  · by_cases hbn : b = σ.next
    · subst hbn
      simp only [if_true, Option.some.injEq, Prod.mk.injEq] at hc
      exact .inr (by omega)
    · simp only [if_neg hbn] at hc
      exact .inl ⟨b, d, hc⟩
  · rw [hget, if_neg (by omega)]; exact ho'
theorem vrs_strs (ρ : Ren) : ∀ ss : List (List UInt8), VRs ρ (ss.map AV.str) (ss.map encStr)
  | [] => rfl
  | s :: ss => ⟨_, _, rfl, rfl, vrs_strs ρ ss⟩
theorem adopt_strs {ρ : Ren} {σ : AH} {W W' : World} (h : HR ρ σ W) (hb : Below W.heap.size W W') (hs : σ.next < 1000000) {u : Value} {ss : List (List UInt8)} (hne : ss ≠ []) (ho : W'.ownsRow W.heap.size 9 1 u ss.length (ss.map encStr)) :
    ∃ ρ', HR ρ' (σ.new (.cells (ss.map AV.str) 9 .more)) W' ∧ Stp σ.next ρ σ W ρ' (σ.new (.cells (ss.map AV.str) 9 .more)) W' ∧ VR ρ' (.sl σ.next 0 ss.length ss.length false 1) u := by
  have hl : 0 < ss.length := List.length_pos_iff.2 hne
  obtain ⟨_, ⟨_, h0⟩ | ⟨g, cap, cur, rfl, hg, hrow, hn, hcap, hsz, htk⟩⟩ := ho
  · omega
  have hg' : g < W'.heap.size := (Array.getElem?_eq_some_iff.1 hrow).1
  have hO : OR ρ (0, cap) (.cells (ss.map AV.str) 9 .more) W'.heap[g]? := by
    rw [hrow]
    refine OR.mk' rfl ⟨cur, 9, (0, 0), rfl, fun _ => ⟨rfl, .inl rfl, by rw [hsz, Nat.mul_one]⟩, by show (ss.map AV.str).length + 0 ≤ _; rw [List.length_map]; omega, by show (ss.map AV.str).length + 0 ≤ cap; rw [List.length_map]; omega, fun i a hi => ?_⟩
    have hil : i < ss.length := by have := (List.getElem?_eq_some_iff.1 hi).1; rwa [List.length_map] at this
    obtain ⟨v, h1, h2⟩ := (vrs_strs ρ ss).at i a hi
    refine ⟨v, ?_, h2⟩
    have e1 : (cur.toList.take (ss.length * 1))[i]? = (ss.map encStr)[i]? := by rw [htk]
    rw [List.getElem?_take, if_pos (by omega), Array.getElem?_toList] at e1
    rw [Nat.add_zero, e1]; exact h1
  obtain ⟨ρ', k1, _, k3, k4⟩ := h.adopt hb hg hg' hs hO
  refine ⟨ρ', k3, k4, ?_⟩
  unfold VR
  exact .inl ⟨g, (0, cap), 0, cap, k1, rfl, fun _ => rfl, Nat.le_refl _, hn, fun h => (by cases h), by show 0 + cap * 1 ≤ cap; omega⟩
def keysS : List (AV × AV) → Option (List (List UInt8))
  | [] => some []
  | p :: l => match p.1 with
    | .str s => match keysS l with
      | some m => some (s :: m)
      | none => none
    | _ => none
theorem keysS_spec {ρ : Ren} : ∀ {l : List (AV × AV)} {ks : List (List UInt8)} {es : List MapEntry}, keysS l = some ks → MapL ρ l es → es.map (·.key) = ks.map encStr
  | [], ks, es, h, hm => by cases h; rw [show es = [] from hm]; rfl
  | p :: l, ks, es, h, hm => by
    obtain ⟨e, m, rfl, h1, h2, h3⟩ := hm
    obtain ⟨a, b⟩ := p
    cases a <;> first | (cases h; done) | skip
    rename_i s
    simp only [keysS] at h
    cases hk : keysS l <;> rw [hk] at h
    · cases h
    rename_i m'
    cases h
    have h1 : e.key = .string ⟨s.toArray⟩ := h1
    rw [List.map_cons, List.map_cons, keysS_spec hk h3, h1]
def insS (x : List UInt8) : List (List UInt8) → List (List UInt8)
  | [] => [x]
  | y :: l => bif decide (y < x) then y :: insS x l else x :: y :: l
def sortS : List (List UInt8) → List (List UInt8)
  | [] => []
  | x :: l => insS x (sortS l)
def risS : List (List UInt8) → Bool
  | [] => true
  | x :: l => (match l with | [] => true | y :: _ => decide (x < y)) && risS l
theorem insS_perm (x : List UInt8) : ∀ l, (insS x l).Perm (x :: l)
  | [] => .refl _
  | y :: l => by
    unfold insS
    cases decide (y < x)
    · exact .refl _
    · exact (List.Perm.cons y (insS_perm x l)).trans (.swap _ _ _)
theorem sortS_perm : ∀ l, (sortS l).Perm l
  | [] => .refl _
  | x :: l => (insS_perm x _).trans (.cons x (sortS_perm l))
theorem risS_lt : ∀ {l : List (List UInt8)}, risS l = true → l.Pairwise (· < ·)
  | [], _ => .nil
  | [x], _ => List.pairwise_singleton _ _
  | x :: y :: l, h => by
    unfold risS at h
    rw [Bool.and_eq_true, decide_eq_true_eq] at h
    have ih := risS_lt h.2
    refine List.pairwise_cons.2 ⟨fun z hz => ?_, ih⟩
    rcases List.mem_cons.1 hz with rfl | hz
    · exact h.1
    · exact List.lt_trans h.1 (List.rel_of_pairwise_cons ih hz)
theorem risS_sort {l : List (List UInt8)} (h : risS (sortS l) = true) : l.Nodup ∧ l.mergeSort (fun x y => decide (x ≤ y)) = sortS l := by
  have hp := risS_lt h
  refine ⟨(sortS_perm l).nodup_iff.1 (hp.imp fun {a b} hab e => by subst e; exact List.lt_irrefl _ hab), ?_⟩
  have hle : (sortS l).Pairwise (fun a b => leB a b = true) := hp.imp fun {a b} hab => by simp only [leB, decide_eq_true_eq]; exact List.le_of_lt hab
  show l.mergeSort leB = _
  rw [mergeSort_of_perm (sortS_perm l).symm]
  exact List.mergeSort_of_pairwise hle
def shS (l : List (List UInt8)) : Bool := l.all fun s => Nat.ble s.length 1000000
def RNil (_ : Value) : Option (DataW Nat × List MemPlace) := some (.nil, [])
theorem own_of {ρ : Ren} {l : List (AV × AV)} {c : Nat} {W : World} (hM : MR ρ l W.heap[c]?) {ks : List (List UInt8)} (hk : keysS l = some ks) (hn : ks.Nodup) (hs : shS ks = true) (hl : ks.length ≤ 1000000) :
    ∃ D : DataW Nat, W.ownsMap Tryd.prog 9 RNil c ks.length D ∧ (strKeys D).Perm ks ∧ Maps.size D = ks.length := by
  obtain ⟨es, ck, hb, h1, h2, h3⟩ := hM
  have hkey := keysS_spec hk h1
  have hlen : es.size = ks.length := by have := congrArg List.length hkey; simpa using this
  have hrd : ∀ x ∈ es.toList, ∃ s, s ∈ ks ∧ x.key = encStr s ∧ Go.WideElems.rd Tryd.prog 9 RNil x = some (.string s, .nil) := fun x hx => by
    have : x.key ∈ ks.map encStr := by rw [← hkey]; exact List.mem_map_of_mem hx
    obtain ⟨s, hs1, hs2⟩ := List.mem_map.1 this
    refine ⟨s, hs1, hs2.symm, ?_⟩
    have hsl : s.length ≤ 1000000 := by have := List.all_eq_true.1 hs s hs1; rwa [Nat.ble_eq] at this
    have hko : keyOf Tryd.prog 9 (encStr s) = some (.string s) := by
      simp only [keyOf, Tryd.underlying9, mapKey, encStr]
      rw [if_pos (by show s.toArray.size ≤ maxLen; simp [maxLen]; omega)]
    exact Go.WideElems.rd_mk (yv := (.nil, [])) (by rw [← hs2]; exact hko) rfl
  have F : Go.WideElems.Fit Tryd.prog 9 RNil es ck := ⟨by rw [hlen]; simp only [maxLen]; omega, ⟨h3, Go.Proofs.YtjoakhpdajlhiaaDoor.V2.nodup_born h2, by rw [hkey]; exact List.pairwise_map.2 (hn.imp fun {a b} hab e => hab (encStr_inj e))⟩, fun x hx => by obtain ⟨s, _, _, h⟩ := hrd x hx; exact ⟨_, h⟩⟩
  refine ⟨_, ⟨es, ck, hb, F, Nat.le_of_eq hlen, rfl⟩, ?_, ?_⟩
  · show (((es.toList.map (Go.WideElems.rg Tryd.prog 9 RNil)).foldr DataW.insert []).map fun p => strOf p.1).Perm ks
    refine ((WideShapes.sorted_perm _).map _).trans ?_
    have : (es.toList.map (Go.WideElems.rg Tryd.prog 9 RNil)).map (fun p => strOf p.1) = ks := by
      have e2 : ∀ x ∈ es.toList, encStr (strOf (Go.WideElems.rg Tryd.prog 9 RNil x).1) = x.key := fun x hx => by
        obtain ⟨s, _, h5, h6⟩ := hrd x hx
        rw [Go.WideElems.rg_of h6, h5]; rfl
      have e3 : ((es.toList.map (Go.WideElems.rg Tryd.prog 9 RNil)).map (fun p => strOf p.1)).map encStr = ks.map encStr := by
        rw [List.map_map, List.map_map, ← hkey]
        exact List.map_congr_left e2
      exact (List.map_inj_right fun a b h => encStr_inj h).1 e3
    rw [this]
  · show ((es.toList.map (Go.WideElems.rg Tryd.prog 9 RNil)).foldr DataW.insert []).length = _
    rw [(WideShapes.sorted_perm _).length_eq, List.length_map, Array.length_toList, hlen]
noncomputable def srtO (σ : AH) (ks : List (List UInt8)) : Out := match sortS ks with
  | [] => (true, .nilsl, σ)
  | x :: l => (risS (x :: l) && shS ks && Nat.ble ks.length 1000000 && Nat.blt σ.next 1000000, .sl σ.next 0 (x :: l).length (x :: l).length false 1, σ.new (.cells ((x :: l).map AV.str) 9 .more))
noncomputable def srtM (σ : AH) (m : Nat) : Out := match σ.get m with
  | some (.map l) => match keysS l with
    | some ks => srtO σ ks
    | none => bad σ
  | _ => bad σ
noncomputable def srtA (args : List AV) (σ : AH) : Out := match args with
  | [.fn (.func q) [] [.ptr b o]] => bif Nat.beq q 65 || Nat.beq q 65 then match (σ.get b).bind fun ob => ob.at o with
    | some (.map m) => srtM σ m
    | _ => bad σ else bad σ
  | _ => bad σ
noncomputable def srF (g : FuncId → List AV → AH → Out) (f : FuncId) (args : List AV) (σ : AH) : Out := bif Nat.beq f 29 then srtA args σ else g f args σ
theorem srtO_ok {ρ : Ren} {σ : AH} {W : World} (hr : HR ρ σ W) {l : List (AV × AV)} {c : Nat} (hM : MR ρ l W.heap[c]?) {ks : List (List UInt8)} (hk : keysS l = some ks) (h : (srtO σ ks).1 = true) {v : Value}
    (hC : ∀ (D0 : DataW Nat), W.ownsMap Tryd.prog 9 RNil c ks.length D0 → Maps.size D0 ≤ maxLen → Maps.size D0 * 16 ≤ 140737488355328 → Calls Tryd.prog 29 #[v] W fun e w' => ∃ (v : Value) (ss : List (List UInt8)), e = .returned v ∧ ss.Perm (strKeys D0) ∧
      w'.ownsRow W.heap.size 9 1 v ss.length ((ss.mergeSort (fun x y => decide (x ≤ y))).map encStr) ∧ (v = .slice none 0 0 ↔ ss = []) ∧ Below W.heap.size W w') :
    Calls Tryd.prog 29 #[v] W fun e W' => ∃ v ρ', e = .returned v ∧ HR ρ' (srtO σ ks).2.2 W' ∧ Stp σ.next ρ σ W ρ' (srtO σ ks).2.2 W' ∧ VR ρ' (srtO σ ks).2.1 v := by
  unfold srtO at h ⊢
  have hso := sortS_perm ks
  cases hS : sortS ks with
  | nil =>
    rw [hS] at hso
    have hks : ks = [] := by simpa using hso.symm.length_eq
    subst hks
    obtain ⟨D, h1, h2, h3⟩ := own_of hM hk List.nodup_nil rfl (by simp)
    refine (hC D h1 (by rw [h3]; simp) (by rw [h3]; simp)).mono ?_
    rintro e W' ⟨v, ss, rfl, g1, g2, g3, g4⟩
    have : ss = [] := by have := (g1.trans h2).length_eq; simpa using this
    refine ⟨v, ρ, rfl, hr.below g4, .below (Nat.le_refl _) g4, ?_⟩
    unfold VR
    exact g3.2 this
  | cons x t =>
    rw [hS] at h
    simp only [Bool.and_eq_true, Nat.ble_eq, Nat.blt_eq] at h
    obtain ⟨⟨⟨h1, h2⟩, h3⟩, h4⟩ := h
    rw [← hS] at h1
    obtain ⟨i1, i2⟩ := risS_sort h1
    obtain ⟨D, j1, j2, j3⟩ := own_of hM hk i1 h2 h3
    refine (hC D j1 (by rw [j3]; simp only [maxLen]; omega) (by rw [j3]; omega)).mono ?_
    rintro e W' ⟨v, ss, rfl, g1, g2, g3, g4⟩
    have e1 : ss.mergeSort (fun x y => decide (x ≤ y)) = x :: t := by
      rw [← hS, ← i2]
      exact mergeSort_of_perm (g1.trans j2)
    have e2 : ss.length = (x :: t).length := by rw [← hS, hso.length_eq, (g1.trans j2).length_eq]
    rw [e1, e2] at g2
    obtain ⟨ρ', k1, k2, k3⟩ := adopt_strs hr g4 h4 (by simp) g2
    exact ⟨v, ρ', rfl, k1, k2, k3⟩
theorem srF_ok {Y : List Yl} {g : FuncId → List AV → AH → Out} (hg : FnOk Tryd.prog 3 g Y) : FnOk Tryd.prog 3 (srF g) Y := by
  intro f args σ h
  unfold srF at h ⊢
  cases hf : Nat.beq f 29
  case false => rw [hf] at h; rw [cond_false] at h ⊢; exact hg f args σ h
  rw [hf] at h
  simp only [cond_true] at h ⊢
  have e := Nat.eq_of_beq_eq_true hf
  subst e
  refine ⟨⟨_, Tryd.func29, by kernel_rfl, by kernel_rfl⟩, fun ρ W vs _ hG hr hvs => ?_⟩
  unfold srtA at h ⊢
  split at h
  case h_2 => cases h
  rename_i q b o
  cases hq : Nat.beq q 65 || Nat.beq q 65 <;> rw [hq] at h
  · cases h
  rw [cond_true] at h ⊢
  split at h
  case h_2 => cases h
  rename_i m hm
  obtain ⟨ob, hob, hat⟩ := Option.bind_eq_some_iff.1 hm
  obtain ⟨v, mm, rfl, hv, hmm⟩ := hvs
  have hmm : mm = [] := hmm
  subst hmm
  unfold VR at hv
  obtain ⟨us, ys, rfl, hus, hys⟩ := hv
  have hus : us = [] := hus
  subst hus
  obtain ⟨y, yy, rfl, hy, hyy⟩ := hys
  have hyy : yy = [] := hyy
  subst hyy
  unfold VR at hy
  obtain ⟨c, d, hc, rfl⟩ := hy
  obtain ⟨_, hcl, ob', ho', hO⟩ := hr.dom b c d hc
  rw [hob] at ho'
  cases ho'
  have hcy : ob.cellsy = true := by cases ob <;> first | rfl | (exact absurd hat (by simp [AObj.at]))
  have hpos : 0 < ob.len := by
    cases ob <;> simp only [AObj.at] at hat
    · cases hat
    · exact Nat.lt_of_le_of_lt (Nat.zero_le _) (List.getElem?_eq_some_iff.1 hat).1
    · obtain ⟨_, h5, _⟩ := Option.map_eq_some_iff.1 hat; exact Nat.lt_of_le_of_lt (Nat.zero_le _) (List.getElem?_eq_some_iff.1 h5).1
    · cases hat
    · cases hat
  obtain ⟨cs, el, fr, hx, _, _, _, hall⟩ := (hO.1 hcy).2 fun _ => hpos
  obtain ⟨u, hu, huv⟩ := hall o _ hat
  unfold VR at huv
  obtain ⟨c2, d2, hc2, rfl⟩ := huv
  have hcell : W.cell? ⟨c, o + d.1, none⟩ = some (.map (some c2)) := by simp [World.cell?, hx, hu]
  obtain ⟨_, _, ob2, ho2, hO2⟩ := hr.dom m c2 d2 hc2
  unfold srtM at h ⊢
  split at h
  case h_2 => cases h
  rename_i l hl
  rw [hl] at ho2
  cases ho2
  cases hk : keysS l <;> simp only [hk] at h ⊢
  · cases h
  rename_i ks
  rw [Bool.or_eq_true] at hq
  rcases hq with hq | hq
  · have e := Nat.eq_of_beq_eq_true hq
    subst e
    exact srtO_ok hr (hO2.2 l rfl) hk h fun D0 h1 h2 h3 => sorted250 c (o + d.1) c2 ks.length D0 W hcl hcell h1 h2 h3
  · have e := Nat.eq_of_beq_eq_true hq
    subst e
    exact srtO_ok hr (hO2.2 l rfl) hk h fun D0 h1 h2 h3 => sorted250 c (o + d.1) c2 ks.length D0 W hcl hcell h1 h2 h3
end Go.Proofs.YtjoakhpdajlhiaaDoor.V2
namespace Go.Proofs.YtjoakhpdajlhiaaDoor.V2
open Go
noncomputable section
def ltK (n : Nat) : Nat → Nat → Nat → FR → FR → FR := Nat.rec (motive := fun _ => Nat → Nat → Nat → FR → FR → FR) (fun m _ _ y s => Nat.rec s (fun _ _ => y) m)
  (fun _ ih m a b y s => Nat.rec (motive := fun _ => FR) s (fun m _ => Bool.rec (Bool.rec s (fN (Nat.div a 256) fun a => fN (Nat.div b 256) fun b => ih m a b y s) (Nat.beq (Nat.mod a 256) (Nat.mod b 256))) y (Nat.blt (Nat.mod a 256) (Nat.mod b 256))) m) n
theorem u8_lt {x y : Nat} : UInt8.ofNat (x % 256) < UInt8.ofNat (y % 256) ↔ x % 256 < y % 256 := by
  rw [UInt8.lt_iff_toNat_lt, UInt8.toNat_ofNat', UInt8.toNat_ofNat']; simp
theorem u8_eq {x y : Nat} : UInt8.ofNat (x % 256) = UInt8.ofNat (y % 256) ↔ x % 256 = y % 256 := by
  rw [← UInt8.toNat_inj, UInt8.toNat_ofNat', UInt8.toNat_ofNat']; simp
theorem ltK_eq : ∀ (n m a b : Nat) (y s : FR), ltK n m a b y s = bif decide (unpN n a < unpN m b) then y else s
  | 0, 0, a, b, y, s => by show s = _; simp [unpN]
  | 0, m + 1, a, b, y, s => by show y = _; simp [unpN]
  | n + 1, 0, a, b, y, s => by show s = _; simp [unpN]
  | n + 1, m + 1, a, b, y, s => by
    show (Bool.rec (Bool.rec s (fN (Nat.div a 256) fun a => fN (Nat.div b 256) fun b => ltK n m a b y s) (Nat.beq (Nat.mod a 256) (Nat.mod b 256))) y (Nat.blt (Nat.mod a 256) (Nat.mod b 256)) : FR) = _
    rw [fN_eq, fN_eq, ltK_eq n m]
    have h : decide (unpN (n + 1) a < unpN (m + 1) b) = (Nat.blt (Nat.mod a 256) (Nat.mod b 256) || (Nat.beq (Nat.mod a 256) (Nat.mod b 256) && decide (unpN n (Nat.div a 256) < unpN m (Nat.div b 256)))) := by
      rw [Bool.eq_iff_iff]
      simp only [unpN, List.cons_lt_cons_iff, decide_eq_true_eq, Bool.or_eq_true, Bool.and_eq_true, Nat.blt_eq, Nat.beq_eq, u8_lt, u8_eq]
      rfl
    rw [h]
    cases Nat.blt (Nat.mod a 256) (Nat.mod b 256)
    · cases Nat.beq (Nat.mod a 256) (Nat.mod b 256) <;> rfl
    · rfl
def ltC (x y : Nat) (t s : FR) : FR := ltK (bl x) (bl y) x y t s
theorem ltC_eq (x y : Nat) (t s : FR) : ltC x y t s = bif decide (unp x < unp y) then t else s := ltK_eq _ _ _ _ _ _
def insK (x : Nat) (l : List Nat) (k : List Nat → FR) : FR := List.rec (motive := fun _ => (List Nat → FR) → FR) (fun k => k [x]) (fun y m ih k => ltC y x (ih fun r => k (y :: r)) (k (x :: y :: m))) l k
def insN (x : Nat) : List Nat → List Nat
  | [] => [x]
  | y :: l => bif decide (unp y < unp x) then y :: insN x l else x :: y :: l
theorem insK_eq (x : Nat) : ∀ (l : List Nat) (k : List Nat → FR), insK x l k = k (insN x l)
  | [], _ => rfl
  | y :: l, k => by
    show ltC y x (insK x l fun r => k (y :: r)) (k (x :: y :: l)) = _
    rw [ltC_eq, insK_eq x l, insN]
    cases decide (unp y < unp x) <;> rfl
theorem insN_unp (x : Nat) : ∀ l : List Nat, (insN x l).map unp = insS (unp x) (l.map unp)
  | [] => rfl
  | y :: l => by
    rw [List.map_cons, insN, insS, ← insN_unp x l]
    cases decide (unp y < unp x) <;> rfl
def srtK (l : List Nat) (k : List Nat → FR) : FR := List.rec (motive := fun _ => (List Nat → FR) → FR) (fun k => k []) (fun x _ ih k => ih fun r => insK x r k) l k
theorem srtK_eq : ∀ (l : List Nat) (k : List Nat → FR), ∃ r, r.map unp = sortS (l.map unp) ∧ srtK l k = k r
  | [], _ => ⟨[], rfl, rfl⟩
  | x :: l, k => by
    obtain ⟨r, h1, h2⟩ := srtK_eq l fun r => insK x r k
    refine ⟨insN x r, ?_, ?_⟩
    · rw [insN_unp, h1]; rfl
    · show srtK l (fun r => insK x r k) = _
      rw [h2, insK_eq]
def risK (l : List Nat) (s : FR) : FR := List.rec (motive := fun _ => FR → FR) (fun s => s) (fun x m ih s => List.rec (motive := fun _ => FR) (ih s) (fun y _ _ => ltC x y (ih s) .bad) m) l s
theorem risK_cases : ∀ {l : List Nat} {s : FR}, risK l s ≠ .bad → risS (l.map unp) = true ∧ risK l s = s
  | [], _, _ => ⟨rfl, rfl⟩
  | [x], s, _ => ⟨rfl, rfl⟩
  | x :: y :: l, s, h => by
    have h : ltC x y (risK (y :: l) s) .bad ≠ .bad := h
    show _ ∧ ltC x y (risK (y :: l) s) .bad = s
    rw [ltC_eq] at h ⊢
    cases hd : decide (unp x < unp y) <;> rw [hd] at h
    · exact absurd rfl h
    · obtain ⟨h1, h2⟩ := risK_cases (l := y :: l) (s := s) h
      refine ⟨?_, h2⟩
      rw [List.map_cons, List.map_cons]
      unfold risS
      rw [List.map_cons] at h1
      rw [h1]
      simp [hd]
def shK (l : List Nat) (s : FR) : FR := List.rec (motive := fun _ => FR) s (fun x _ ih => gB (Nat.ble (bl x) 1000000) ih) l
theorem shK_cases : ∀ {l : List Nat} {s : FR}, shK l s ≠ .bad → shS (l.map unp) = true ∧ shK l s = s
  | [], _, _ => ⟨rfl, rfl⟩
  | x :: l, s, h => by
    have h : gB (Nat.ble (bl x) 1000000) (shK l s) ≠ .bad := h
    show _ ∧ gB (Nat.ble (bl x) 1000000) (shK l s) = s
    rw [gB_eq] at h ⊢
    cases hd : Nat.ble (bl x) 1000000 <;> rw [hd] at h
    · exact absurd rfl h
    · obtain ⟨h1, h2⟩ := shK_cases (l := l) (s := s) h
      refine ⟨?_, h2⟩
      unfold shS at h1 ⊢
      rw [List.map_cons, List.all_cons, h1, unp_length, hd]; rfl
def keysK (l : List (FV × FV)) (k : List Nat → FR) : FR := List.rec (motive := fun _ => (List Nat → FR) → FR) (fun k => k []) (fun p _ ih k => Prod.rec (fun x _ => kS (fun c => ih fun r => k (c :: r)) x) p) l k
theorem keysK_cases : ∀ {l : List (FV × FV)} {k : List Nat → FR}, keysK l k ≠ .bad → ∃ cs, keysS (αP l) = some (cs.map unp) ∧ keysK l k = k cs
  | [], _, _ => ⟨[], rfl, rfl⟩
  | (x, y) :: l, k, h => by
    have h : kS (fun c => keysK l fun r => k (c :: r)) x ≠ .bad := h
    show ∃ cs, _ ∧ kS (fun c => keysK l fun r => k (c :: r)) x = k cs
    obtain ⟨c, rfl, h1⟩ := kS_cases h
    rw [h1] at h ⊢
    obtain ⟨cs, h2, h3⟩ := keysK_cases h
    refine ⟨c :: cs, ?_, h3⟩
    simp only [αP, keysS, αV, h2, List.map_cons]
def txK (l : List Nat) (k : List FV → FR) : FR := List.rec (motive := fun _ => (List FV → FR) → FR) (fun k => k []) (fun c _ ih k => ih fun r => k (.s c :: r)) l k
theorem txK_eq : ∀ (l : List Nat) (k : List FV → FR), ∃ r, αL r = (l.map unp).map AV.str ∧ txK l k = k r
  | [], _ => ⟨[], rfl, rfl⟩
  | c :: l, k => by
    obtain ⟨r, h1, h2⟩ := txK_eq l fun r => k (.s c :: r)
    exact ⟨.s c :: r, by rw [αL, h1]; rfl, h2⟩
def lnK (l : List Nat) (k : Nat → FR) : FR := List.rec (motive := fun _ => (Nat → FR) → FR) (fun k => k 0) (fun _ _ ih k => ih fun n => fN (Nat.succ n) k) l k
theorem lnK_eq : ∀ (l : List Nat) (k : Nat → FR), lnK l k = k l.length
  | [], _ => rfl
  | c :: l, k => by
    show lnK l (fun n => fN (Nat.succ n) k) = _
    rw [lnK_eq l, fN_eq]; rfl
def srtQ (ks : List Nat) (σ : FH) (k : KV) : FR := shK ks (srtK ks fun r => List.rec (motive := fun _ => FR) (k (.o .sl) σ) (fun _ _ _ => risK r (lnK r fun n => gB (Nat.ble n 1000000) (txK r fun l => nM σ (.cells l 9 .more) fun b σ => k (.sl b 0 n n false 1) σ))) r)
theorem srtQ_sm (ks : List Nat) (σ : FH) (k : KV) : Sm (srtQ ks σ k) k (srtO (αH σ) (ks.map unp)) := by
  intro h
  unfold srtQ at h ⊢
  obtain ⟨h1, h2⟩ := shK_cases h
  rw [h2] at h ⊢
  obtain ⟨r, h3, h4⟩ := srtK_eq ks (fun r => List.rec (motive := fun _ => FR) (k (.o .sl) σ) (fun _ _ _ => risK r (lnK r fun n => gB (Nat.ble n 1000000) (txK r fun l => nM σ (.cells l 9 .more) fun b σ => k (.sl b 0 n n false 1) σ))) r)
  rw [h4] at h ⊢
  cases r with
  | nil =>
    refine ⟨.o .sl, σ, ?_, rfl⟩
    unfold srtO
    rw [← h3]; rfl
  | cons x t =>
    have h : risK (x :: t) (lnK (x :: t) fun n => gB (Nat.ble n 1000000) (txK (x :: t) fun l => nM σ (.cells l 9 .more) fun b σ => k (.sl b 0 n n false 1) σ)) ≠ .bad := h
    show ∃ v σ', _ ∧ risK (x :: t) (lnK (x :: t) fun n => gB (Nat.ble n 1000000) (txK (x :: t) fun l => nM σ (.cells l 9 .more) fun b σ => k (.sl b 0 n n false 1) σ)) = k v σ'
    obtain ⟨g1, g2⟩ := risK_cases h
    rw [g2] at h ⊢
    rw [lnK_eq, gB_eq] at h ⊢
    cases hb : Nat.ble (x :: t).length 1000000 <;> rw [hb] at h
    · exact absurd rfl h
    rw [cond_true] at h ⊢
    obtain ⟨l, g3, g4⟩ := txK_eq (x :: t) fun l => nM σ (.cells l 9 .more) fun b σ => k (.sl b 0 (x :: t).length (x :: t).length false 1) σ
    rw [g4] at h ⊢
    obtain ⟨g5, σ', g6, g7⟩ := nM_cases h
    refine ⟨.sl σ.next 0 (x :: t).length (x :: t).length false 1, σ', ?_, g7⟩
    have hlen : (ks.map unp).length = (x :: t).length := by
      have := (sortS_perm (ks.map unp)).length_eq
      rw [← h3, List.length_map] at this; exact this.symm
    unfold srtO
    rw [← h3, List.map_cons]
    simp only
    rw [List.map_cons] at g1 g3
    rw [g1, h1, hlen, hb, g5, g6]
    simp only [αO, αV, g3, List.length_cons, List.length_map]
    rfl
def kFn (f : Fn → List FV → List FV → FR) (v : FV) : FR := FV.rec (motive_1 := fun _ => FR) (motive_2 := fun _ => FR) (fun _ _ => .bad) (fun _ _ => .bad) (fun _ => .bad) (fun _ => .bad) (fun _ _ => .bad) (fun _ _ _ _ _ _ => .bad) (fun _ => .bad) (fun _ => .bad) (fun g a b _ _ => f g a b) (fun _ _ _ => .bad) (fun _ _ => .bad) (fun _ => .bad) (fun _ _ => .bad) (fun _ _ => .bad) (fun _ => .bad) .bad (fun _ _ _ _ => .bad) v
theorem kFn_cases {f : Fn → List FV → List FV → FR} {v : FV} (h : kFn f v ≠ .bad) : ∃ g a b, v = .fn g a b ∧ kFn f v = f g a b := by
  cases v <;> first | exact ⟨_, _, _, rfl, rfl⟩ | exact absurd rfl h
def kFu (f : Nat → FR) (g : Fn) : FR := Fn.rec (motive := fun _ => FR) f (fun _ => .bad) (fun _ _ => .bad) (fun _ _ _ _ => .bad) (fun _ => .bad) g
theorem kFu_cases {f : Nat → FR} {g : Fn} (h : kFu f g ≠ .bad) : ∃ n, g = .func n ∧ kFu f g = f n := by
  cases g <;> first | exact ⟨_, rfl, rfl⟩ | exact absurd rfl h
def kNi (l : List FV) (s : FR) : FR := List.rec (motive := fun _ => FR) s (fun _ _ _ => .bad) l
theorem kNi_cases {l : List FV} {s : FR} (h : kNi l s ≠ .bad) : l = [] ∧ kNi l s = s := by
  cases l
  · exact ⟨rfl, rfl⟩
  · exact absurd rfl h
def kCe (f : List FV → FR) (ob : FObj) : FR := FObj.rec (motive := fun _ => FR) .bad (fun l _ _ => f l) (fun _ _ _ => .bad) (fun _ _ _ _ => .bad) (fun _ => .bad) .bad ob
theorem kCe_cases {f : List FV → FR} {ob : FObj} (h : kCe f ob ≠ .bad) : ∃ l e t, ob = .cells l e t ∧ kCe f ob = f l := by
  cases ob <;> first | exact ⟨_, _, _, rfl, rfl⟩ | exact absurd rfl h
def srMQ (σ : FH) (m : Nat) (k : KV) : FR := gM σ m (kMp fun l => keysK l fun cs => srtQ cs σ k)
def srQ (l : List FV) (σ : FH) (k : KV) : FR := k1L l (kFn fun g a c => kFu (fun q => gB (Nat.beq q 65 || Nat.beq q 65) (kNi a (k1L c (kP fun b o => gM σ b (kCe fun l => nthK l o (kM fun m => srMQ σ m k)))))) g)
theorem srMQ_sm (σ : FH) (m : Nat) (k : KV) : Sm (srMQ σ m k) k (srtM (αH σ) m) := by
  intro h
  unfold srMQ at h ⊢
  obtain ⟨ob, _, h3, h4⟩ := gM_cases h
  rw [h4] at h ⊢
  obtain ⟨l, rfl, h5⟩ := kMp_cases h
  rw [h5] at h ⊢
  obtain ⟨cs, h6, h7⟩ := keysK_cases h
  rw [h7] at h ⊢
  obtain ⟨v, σ', h8, h9⟩ := srtQ_sm cs σ k h
  refine ⟨v, σ', ?_, h9⟩
  unfold srtM
  rw [h3]
  simp only [αO, h6]
  exact h8
theorem srQ_sm (l : List FV) (σ : FH) (k : KV) : Sm (srQ l σ k) k (srtA (αL l) (αH σ)) := by
  intro h
  unfold srQ at h ⊢
  obtain ⟨x, rfl, h1⟩ := k1L_cases h
  rw [h1] at h ⊢
  obtain ⟨g, a, c, rfl, h2⟩ := kFn_cases h
  rw [h2] at h ⊢
  obtain ⟨q, rfl, h3⟩ := kFu_cases h
  rw [h3] at h ⊢
  rw [gB_eq] at h ⊢
  cases hq : Nat.beq q 65 || Nat.beq q 65 <;> rw [hq] at h
  · exact absurd rfl h
  rw [cond_true] at h ⊢
  obtain ⟨rfl, h4⟩ := kNi_cases h
  rw [h4] at h ⊢
  obtain ⟨y, rfl, h5⟩ := k1L_cases h
  rw [h5] at h ⊢
  obtain ⟨b, o, rfl, h6⟩ := kP_cases h
  rw [h6] at h ⊢
  obtain ⟨ob, _, h7, h8⟩ := gM_cases h
  rw [h8] at h ⊢
  obtain ⟨l, e, t, rfl, h9⟩ := kCe_cases h
  rw [h9] at h ⊢
  rw [nthK_eq] at h ⊢
  cases hl : l[o]? <;> rw [hl] at h
  · exact absurd rfl h
  rename_i v
  have h : kM (fun m => srMQ σ m k) v ≠ .bad := h
  show ∃ w σ', _ ∧ kM (fun m => srMQ σ m k) v = k w σ'
  obtain ⟨m, rfl, h10⟩ := kM_cases h
  rw [h10] at h ⊢
  obtain ⟨v, σ', h11, h12⟩ := srMQ_sm σ m k h
  refine ⟨v, σ', ?_, h12⟩
  rw [← h11]
  simp only [αL, αV, srtA, hq, h7, Option.bind_some, αO, AObj.at, αL_map, List.getElem?_map, hl, Option.map_some, cond_true]
end
end Go.Proofs.YtjoakhpdajlhiaaDoor.V2
namespace Go.Proofs.YtjoakhpdajlhiaaDoor.V2.S
open Go
def insB (x : Bs) : List Bs → List Bs
  | [] => [x]
  | y :: l => if y < x then y :: insB x l else x :: y :: l
def sortB : List Bs → List Bs
  | [] => []
  | x :: l => insB x (sortB l)
def insE (x : En) : List En → List En
  | [] => [x]
  | y :: l => if y.path < x.path then y :: insE x l else x :: y :: l
def sortE : List En → List En
  | [] => []
  | x :: l => insE x (sortE l)
theorem insE_map (x : En) : ∀ l : List En, (insE x l).map En.path = insB x.path (l.map En.path)
  | [] => rfl
  | y :: l => by
    unfold insE
    rw [List.map_cons, insB]
    split
    · rw [List.map_cons, insE_map x l]
    · rfl
theorem sortE_map : ∀ l : List En, (sortE l).map En.path = sortB (l.map En.path)
  | [] => rfl
  | x :: l => by rw [sortE, insE_map, sortE_map l]; rfl
theorem insE_perm (x : En) : ∀ l : List En, (insE x l).Perm (x :: l)
  | [] => .refl _
  | y :: l => by
    unfold insE
    split
    · exact (List.Perm.cons y (insE_perm x l)).trans (List.Perm.swap x y l)
    · exact .refl _
theorem sortE_perm : ∀ l : List En, (sortE l).Perm l
  | [] => .refl _
  | x :: l => (insE_perm x (sortE l)).trans (List.Perm.cons x (sortE_perm l))
theorem sortE_len (l : List En) : (sortE l).length = l.length := (sortE_perm l).length_eq
theorem sizesG_perm {l l' : List En} (h : l.Perm l') : sizesG l = sizesG l' := by
  induction h with
  | nil => rfl
  | cons x _ ih => simp only [sizesG, ih]
  | swap x y l => simp only [sizesG]; omega
  | trans _ _ h1 h2 => exact h1.trans h2
theorem look_mem : ∀ {L : List En} {e : En}, (L.map En.path).Nodup → e ∈ L → lookM En.path e.path L = some e
  | [], e, _, h => absurd h List.not_mem_nil
  | b :: L, e, hn, h => by
    rw [List.map_cons, List.nodup_cons] at hn
    unfold lookM
    rcases List.mem_cons.1 h with h | h
    · subst h; rw [if_pos rfl]
    · rw [if_neg, look_mem hn.2 h]
      intro hb
      exact hn.1 (by rw [hb]; exact List.mem_map_of_mem h)
theorem sortE_at {L : List En} {i : Nat} {e : En} (hn : (L.map En.path).Nodup) (h : (sortE L)[i]? = some e) : lookM En.path e.path L = some e := look_mem hn ((sortE_perm L).mem_iff.1 (List.mem_of_getElem? h))
theorem sortB_at {L : List En} {i : Nat} {e : En} (h : (sortE L)[i]? = some e) : (sortB (L.map En.path))[i]? = some e.path := by rw [← sortE_map, List.getElem?_map, h]; rfl
theorem sortB_len (L : List En) : (sortB (L.map En.path)).length = L.length := by rw [← sortE_map, List.length_map, sortE_len]
theorem sizesG_take : ∀ {l : List En} {i : Nat} {e : En}, l[i]? = some e → sizesG (l.take (i + 1)) = sizesG (l.take i) + (e.path.length + e.data.length)
  | [], i, e, h => by simp at h
  | b :: l, 0, e, h => by
    simp at h; subst h
    simp [sizesG]
  | b :: l, i + 1, e, h => by
    have h : l[i]? = some e := by simpa using h
    have := sizesG_take h
    simp only [List.take_succ_cons, sizesG, this]; omega
theorem sizesG_le_take : ∀ (l : List En) (i : Nat), sizesG (l.take i) ≤ sizesG l
  | [], i => by simp [sizesG]
  | b :: l, 0 => by simp [sizesG]
  | b :: l, i + 1 => by
    have := sizesG_le_take l i
    simp only [List.take_succ_cons, sizesG]; omega
end Go.Proofs.YtjoakhpdajlhiaaDoor.V2.S
namespace Go.Proofs.YtjoakhpdajlhiaaDoor.V2.S
open Go
set_option maxRecDepth 100000
set_option maxHeartbeats 4000000
set_option linter.unusedVariables false
attribute [local irreducible] fN fO nM gM pM Phi.fn Phi.yl Phi.up mp bl bpart bapp top1 pack
def KeysS (Φ : Phi) : Prop := ∀ {mb : Nat} {L : List En} {n : Nat} {m : T FObj}, Am m mb (.map (L.map fun a => (.s (pack (En.path a)), entV a))) → mb < n → (L.map En.path).Nodup → L.length ≤ 1000 → (∀ e ∈ L, e.path.length ≤ 1000000) → ∀ (k : KV) (P : FR), n + 2 ≤ 1000000 →
  (∀ v n' m', n ≤ n' → n' ≤ n + 2 → Kp n m m' → (L = [] → v = .o .sl) → (L ≠ [] → ∃ b, v = .sl b 0 L.length L.length false 1 ∧ n ≤ b ∧ b < n' ∧ Am m' b (.cells (vsL (sortB (L.map En.path))) 9 .more)) → k v ⟨n', m'⟩ = P) → Phi.fn Φ 30 [.m mb] ⟨n, m⟩ (fun v σ => Phi.fn Φ 29 [v] σ k) = P
def WalkS (H : HF) (y : Nat) (Y : HF) : Prop := ∀ {tb mb : Nat} {t : Tr} {n : Nat} {m : T FObj} (c : Nat) (xs : List Nat) (I : Nat → T FObj → Prop), TreeAt m tb mb 65 t → tb < n → mb < n → WfT t → (∀ x ∈ xs, x < n) → (∀ x ∈ xs, tb ≠ x) → (∀ x ∈ xs, mb ≠ x) → (∀ i n1 m1 m2, n ≤ n1 → Kp n1 m1 m2 → I i m1 → I i m2) →
  (∀ i e n1 m1 (k : KV) (P : FR), (sortE t.L)[i]? = some e → n ≤ n1 → n1 + c ≤ 1000000 → Kq xs n m m1 → I i m1 → (∀ n2 m2, n1 ≤ n2 → n2 ≤ n1 + c → Kq xs n1 m1 m2 → I (i + 1) m2 → k (.b true) ⟨n2, m2⟩ = P) → Y [entV e] ⟨n1, m1⟩ k = P) →
  ∀ (k : KV) (P : FR), n + 2 + c * t.L.length ≤ 1000000 → I 0 m → (∀ n' m', n ≤ n' → n' ≤ n + 2 + c * t.L.length → Kq xs n m m' → I t.L.length m' → k (.tup []) ⟨n', m'⟩ = P) → H [.p tb 0, .y y] ⟨n, m⟩ k = P
theorem walk_s {O : Oz} (hO : O = zO) (Φ : Phi) (H1 : NoneS (Phi.fn Φ 28)) (H2 : KeysS Φ) (y : Nat) (Y : HF) (hy : Phi.yl Φ y = Y) : WalkS (p9 O Φ) y Y := fun {tb mb t n m} c xs I hT htb hmb hW hx1 hx2 hx3 hI hY k P hn h0 hf => by
  have hT1 := hT.s
  have hT2 := hT.m
  have hwl := hW.len
  have hpw : ∀ e ∈ t.L, e.path.length ≤ 1000000 := fun e he => by have := (hW.pl e he).1; omega
  by_cases hL : t.L = []
  · have hl0 : t.L.length = 0 := by rw [hL]; rfl
    rw [hl0] at hf hn
    repeat' ((conv => lhs; whnf); first | ((with_reducible refine atFn ?_); first | refine H1 (hT.kp kQ htb hmb) _ _ ?_ | (refine H2 hT2 hmb hW.nd (by omega) hpw _ _ (by omega) ?_; rintro v1 n1 m1 h1 g1 k1 q0 q1; obtain rfl := q0 hL)) | ((with_reducible refine fa0 hO ?_)) | ((with_reducible refine atLd ?_); refine ldC hO aQ (by rfl) ?_) | ((with_reducible refine lvN hO ?_)))
    all_goals (conv => lhs; whnf)
    all_goals first
      | exact hf _ _ (by omega) (by omega) qQ h0
      | (refine lpI hO (fun t e n' m' => t = 0 ∧ n' = n1 ∧ m' = m1 ∧ e = eof [(15, .n .i64 0)]) ?_ ?_ _ 0 _ _ _ (by omega) ⟨rfl, rfl, rfl, rfl⟩
         · rintro t e n' m' ⟨_, rfl, _⟩; omega
         · rintro t e n' m' ih ⟨rfl, rfl, rfl, rfl⟩ hih
           repeat' ((conv => lhs; whnf); first | ((with_reducible refine ltF hO (by omega) ?_)))
           all_goals (conv => lhs; whnf)
           all_goals first
             | exact hf _ _ (by omega) (by omega) (Kq.of kQ _) (hI 0 n m _ (Nat.le_refl _) kQ h0))
  · 
    repeat' ((conv => lhs; whnf); first | ((with_reducible refine atFn ?_); first | refine H1 (hT.kp kQ htb hmb) _ _ ?_ | (refine H2 hT2 hmb hW.nd (by omega) hpw _ _ (by omega) ?_; rintro v1 n1 m1 h1 g1 k1 q0 q1; obtain ⟨b, rfl, q1, q2, q3⟩ := q1 hL)) | ((with_reducible refine fa0 hO ?_)) | ((with_reducible refine atLd ?_); refine ldC hO aQ (by rfl) ?_) | ((with_reducible refine lvS hO ?_)))
    all_goals (conv => lhs; whnf)
    all_goals first
      | exact absurd rfl hL
      | (refine lpI hO (fun q e n' m' => ∃ i, i ≤ t.L.length ∧ q = t.L.length - i ∧ n1 ≤ n' ∧ n' ≤ n1 + c * i ∧ Kq xs n m m' ∧ Kq xs n1 m1 m' ∧ I i m' ∧ e = eof [(15, .n .i64 i)]) ?_ ?_ _ t.L.length _ _ _ (by omega) ⟨0, Nat.zero_le _, by omega, Nat.le_refl _, by omega, Kq.of kQ _, Kq.refl _ _ _, hI 0 n m _ (Nat.le_refl _) kQ h0, rfl⟩
         · rintro q e n' m' ⟨i, _, _, h, _⟩; omega
         · rintro q e n' m' ih ⟨i, z1, rfl, z2, z3, z4, z5, z6, rfl⟩ hih
           have hT' := hT.kq z4 htb hmb hx2 hx3
           have hT1' := hT'.s
           have hT2' := hT'.m
           have hb' : Am m' b (.cells (vsL (sortB (t.L.map En.path))) 9 .more) := z5 _ _ q2 (fun x hx => by have := hx1 x hx; omega) q3
           clear hT1 hT2
           rcases Nat.lt_or_ge i t.L.length with hlt | hge
           · obtain ⟨e1, he⟩ : ∃ e1, (sortE t.L)[i]? = some e1 := ⟨_, List.getElem?_eq_getElem (by rw [sortE_len]; omega)⟩
             have hle := sortE_at hW.nd he
             have hci : c * (i + 1) ≤ c * t.L.length := Nat.mul_le_mul_left c (by omega)
             have hcs : c * (i + 1) = c * i + c := Nat.mul_succ c i
             repeat' ((conv => lhs; whnf); first | ((rw [hy]; refine hY _ _ _ _ _ _ he (by omega) (by omega) z4 z6 (fun n5 m5 h5 g5 k5 q5 => ?_))) | ((with_reducible refine fa0 hO ?_)) | ((with_reducible refine atLd ?_); first | refine ldC hO aQ (vsL_at (sortB_at he)) ?_ | refine ldC hO aQ (by rfl) ?_) | ((with_reducible refine ltT hO (by omega) ?_)) | ((with_reducible refine adI hO (by omega) ?_)) | ((with_reducible refine ix01 hO (by omega) ?_)) | ((with_reducible refine atLk ?_); (refine lkS1 hO aQ (fun a hla => ?_) (fun hla => absurd hla (by rw [hle]; simp)); obtain rfl : e1 = a := by rw [hle] at hla; exact Option.some.inj hla)))
             all_goals (conv => lhs; whnf)
             all_goals first
               | exact hih (t.L.length - (i + 1)) _ _ _ (by omega) ⟨i + 1, by omega, rfl, by omega, by omega, z4.trans k5 (by omega), z5.trans k5 (by omega), q5, rfl⟩
           · obtain rfl : i = t.L.length := by omega
             repeat' ((conv => lhs; whnf); first | ((with_reducible refine ltF hO (by omega) ?_)))
             all_goals (conv => lhs; whnf)
             all_goals first
               | exact hf _ _ (by omega) (by omega) z4 z6)
end Go.Proofs.YtjoakhpdajlhiaaDoor.V2.S
namespace Go.Proofs.YtjoakhpdajlhiaaDoor.V2.S
open Go
set_option maxRecDepth 100000
set_option maxHeartbeats 4000000
set_option linter.unusedVariables false
attribute [local irreducible] fN fO nM gM pM Phi.fn mp bl bpart bapp top1 pack
theorem ltC_pack (a b : Bs) (t s : FR) : ltC (pack a) (pack b) t s = if a < b then t else s := by
  rw [ltC_eq, unp_pack, unp_pack]
  by_cases h : a < b
  · rw [if_pos h, decide_eq_true h]; rfl
  · rw [if_neg h, decide_eq_false h]; rfl
theorem insK_pack (x : Bs) : ∀ (l : List Bs) (k : List Nat → FR), insK (pack x) (l.map pack) k = k ((insB x l).map pack)
  | [], k => rfl
  | y :: l, k => by
    show ltC (pack y) (pack x) (insK (pack x) (l.map pack) fun r => k (pack y :: r)) (k (pack x :: pack y :: l.map pack)) = _
    rw [ltC_pack, insK_pack x l, insB]
    by_cases h : y < x
    · rw [if_pos h, if_pos h]; rfl
    · rw [if_neg h, if_neg h]; rfl
theorem srtK_pack : ∀ (l : List Bs) (k : List Nat → FR), srtK (l.map pack) k = k ((sortB l).map pack)
  | [], k => rfl
  | x :: l, k => by
    show srtK (l.map pack) (fun r => insK (pack x) r k) = _
    rw [srtK_pack l, insK_pack]; rfl
theorem shK_pack : ∀ (l : List Bs) (s : FR), (∀ x ∈ l, x.length ≤ 1000000) → shK (l.map pack) s = s
  | [], s, _ => rfl
  | x :: l, s, h => by
    show gB (Nat.ble (bl (pack x)) 1000000) (shK (l.map pack) s) = s
    rw [bl_pack, ble_t (h x List.mem_cons_self), shK_pack l s fun y hy => h y (List.mem_cons_of_mem _ hy)]; rfl
theorem txK_pack : ∀ (l : List Bs) (k : List FV → FR), txK (l.map pack) k = k (vsL l)
  | [], k => rfl
  | x :: l, k => by
    show txK (l.map pack) (fun r => k (.s (pack x) :: r)) = _
    rw [txK_pack l]; rfl
theorem keysK_pack : ∀ (L : List En) (k : List Nat → FR), keysK (L.map fun a => (.s (pack (En.path a)), entV a)) k = k ((L.map En.path).map pack)
  | [], k => rfl
  | e :: L, k => by
    show keysK (L.map fun a => (.s (pack (En.path a)), entV a)) (fun r => k (pack e.path :: r)) = _
    rw [keysK_pack L]; rfl
theorem lt_of_not {a b : Bs} (h : ¬ b < a) (hne : a ≠ b) : a < b := by
  rcases Std.lt_trichotomy a b with h1 | h1 | h1
  · exact h1
  · exact absurd h1 hne
  · exact absurd h1 h
theorem insB_mem {x z : Bs} : ∀ {l : List Bs}, z ∈ insB x l → z = x ∨ z ∈ l
  | [], h => .inl (by simpa [insB] using h)
  | y :: l, h => by
    unfold insB at h
    split at h
    · rcases List.mem_cons.1 h with h | h
      · exact .inr (h ▸ List.mem_cons_self)
      · rcases insB_mem h with h | h
        · exact .inl h
        · exact .inr (List.mem_cons_of_mem _ h)
    · rcases List.mem_cons.1 h with h | h
      · exact .inl h
      · exact .inr h
theorem insB_pw {x : Bs} : ∀ {l : List Bs}, l.Pairwise (· < ·) → x ∉ l → (insB x l).Pairwise (· < ·)
  | [], _, _ => by simp [insB]
  | y :: l, h, hx => by
    have h1 := List.pairwise_cons.1 h
    unfold insB
    split
    · rename_i hlt
      refine List.pairwise_cons.2 ⟨fun z hz => ?_, insB_pw h1.2 fun hm => hx (List.mem_cons_of_mem _ hm)⟩
      rcases insB_mem hz with rfl | hz
      · exact hlt
      · exact h1.1 z hz
    · rename_i hlt
      have hxy : x < y := lt_of_not hlt fun e => hx (e ▸ List.mem_cons_self)
      refine List.pairwise_cons.2 ⟨fun z hz => ?_, h⟩
      rcases List.mem_cons.1 hz with rfl | hz
      · exact hxy
      · exact List.lt_trans hxy (h1.1 z hz)
theorem sortB_mem {z : Bs} : ∀ {l : List Bs}, z ∈ sortB l → z ∈ l
  | [], h => h
  | x :: l, h => by
    rcases insB_mem (show z ∈ insB x (sortB l) from h) with h | h
    · exact h ▸ List.mem_cons_self
    · exact List.mem_cons_of_mem _ (sortB_mem h)
theorem sortB_pw : ∀ {l : List Bs}, l.Nodup → (sortB l).Pairwise (· < ·)
  | [], _ => List.Pairwise.nil
  | x :: l, h => by
    have h1 := List.nodup_cons.1 h
    exact insB_pw (sortB_pw h1.2) fun hm => h1.1 (sortB_mem hm)
theorem risK_pack : ∀ {l : List Bs} (s : FR), l.Pairwise (· < ·) → risK (l.map pack) s = s
  | [], s, _ => rfl
  | [x], s, _ => rfl
  | x :: y :: l, s, h => by
    have h1 := List.pairwise_cons.1 h
    show ltC (pack x) (pack y) (risK ((y :: l).map pack) s) .bad = s
    rw [ltC_pack, if_pos (h1.1 y List.mem_cons_self), risK_pack s h1.2]
end Go.Proofs.YtjoakhpdajlhiaaDoor.V2.S
namespace Go.Proofs.YtjoakhpdajlhiaaDoor.V2.S
open Go
set_option maxRecDepth 100000
set_option maxHeartbeats 4000000
set_option linter.unusedVariables false
attribute [local irreducible] fN fO nM gM pM Phi.fn Phi.yl Phi.up mp bl bpart bapp top1 pack
theorem srtQ_pack {L : List En} {n : Nat} {m : T FObj} {k : KV} (hnd : (L.map En.path).Nodup) (hl : L.length ≤ 1000) (hp : ∀ e ∈ L, e.path.length ≤ 1000000) (hn : n < 1000000) :
    srtQ ((L.map En.path).map pack) ⟨n, m⟩ k = if L = [] then k (.o .sl) ⟨n, m⟩ else k (.sl n 0 L.length L.length false 1) ⟨n + 1, mp m n (.cells (vsL (sortB (L.map En.path))) 9 .more)⟩ := by
  have hlen := sortB_len L
  show shK ((L.map En.path).map pack) (srtK ((L.map En.path).map pack) fun r => List.rec (motive := fun _ => FR) (k (.o .sl) ⟨n, m⟩) (fun _ _ _ => risK r (lnK r fun q => gB (Nat.ble q 1000000) (txK r fun l => nM ⟨n, m⟩ (.cells l 9 .more) fun b σ => k (.sl b 0 q q false 1) σ))) r) = _
  rw [shK_pack _ _ fun x hx => by obtain ⟨e, he, rfl⟩ := List.mem_map.1 hx; exact hp e he, srtK_pack]
  cases hs : sortB (L.map En.path) with
  | nil =>
    have : L = [] := by rw [hs] at hlen; exact List.length_eq_zero_iff.1 hlen.symm
    rw [if_pos this]; rfl
  | cons x r =>
    have : L ≠ [] := fun h => by subst h; rw [hs] at hlen; cases hlen
    rw [if_neg this]
    show risK ((x :: r).map pack) (lnK ((x :: r).map pack) fun q => gB (Nat.ble q 1000000) (txK ((x :: r).map pack) fun l => nM ⟨n, m⟩ (.cells l 9 .more) fun b σ => k (.sl b 0 q q false 1) σ)) = _
    rw [risK_pack _ (hs ▸ sortB_pw hnd), lnK_eq, List.length_map, ← hs, hlen, ble_t (by omega), txK_pack]
    show (nM ⟨n, m⟩ (.cells (vsL (sortB (L.map En.path))) 9 .more) fun b σ => k (.sl b 0 L.length L.length false 1) σ) = _
    rw [nM_mp hn]
theorem keys_s {O : Oz} (hO : O = zO) (Φ Φ1 : Phi) (H30 : Phi.fn Φ 30 = p30 O Φ1) (H29 : Phi.fn Φ 29 = srQ) : KeysS Φ := fun {mb L n m} ha hb hnd hl hp k P hn hf => by
  have key : ∀ (b : Nat) (n' : Nat) (m' : T FObj) (e : TypeId) (tl : Tl), n ≤ n' → n' ≤ n + 1 → Kp n m m' → Am m' b (.cells [.m mb] e tl) → Am m' mb (.map (L.map fun a => (.s (pack (En.path a)), entV a))) → srQ [.fn (.func 65) [] [.p b 0]] ⟨n', m'⟩ k = P := fun b n' m' e tl h1 h2 hk hb2 hm2 => by
    show (gM ⟨n', m'⟩ b (kCe fun l => nthK l 0 (kM fun q => srMQ ⟨n', m'⟩ q k))) = P
    rw [gM_am hb2]
    show gM ⟨n', m'⟩ mb (kMp fun l => keysK l fun cs => srtQ cs ⟨n', m'⟩ k) = P
    rw [gM_am hm2]
    show keysK (L.map fun a => (.s (pack (En.path a)), entV a)) (fun cs => srtQ cs ⟨n', m'⟩ k) = P
    rw [keysK_pack, srtQ_pack hnd hl hp (by omega)]
    split
    · rename_i h0; exact hf _ _ _ h1 (by omega) hk (fun _ => rfl) (fun h => absurd h0 h)
    · rename_i h0; exact hf _ _ _ (by omega) (by omega) kQ (fun h => absurd h h0) (fun _ => ⟨n', rfl, h1, by omega, am_same (by omega)⟩)
  rw [H30]
  repeat' ((conv => lhs; whnf); first | ((with_reducible refine fa0 hO ?_)) | ((with_reducible refine faN hO ?_)) | ((with_reducible refine atLd ?_); first | refine ldC hO aQ (by rfl) ?_ | refine ldB hO aQ (by omega) ?_ | refine ldI hO aQ (by rfl) ?_ | refine uld hO ?_) | (((with_reducible refine lsS hO ?_); try simp only [List.length_cons, List.length_nil, Nat.zero_add])) | ((with_reducible refine lvS hO ?_)) | ((with_reducible refine lvN hO ?_)) | ((with_reducible refine ltT hO (by omega) ?_)) | ((with_reducible refine ltF hO (by omega) ?_)) | ((with_reducible refine ltB hO (fun h => ?_) (fun h => ?_))) | ((with_reducible refine leT hO (by omega) ?_)) | ((with_reducible refine leF hO (by omega) ?_)) | ((with_reducible refine leB hO (fun h => ?_) (fun h => ?_))) | ((with_reducible refine gtT hO (by omega) ?_)) | ((with_reducible refine gtF hO (by omega) ?_)) | ((with_reducible refine gtB hO (fun h => ?_) (fun h => ?_))) | ((with_reducible refine geT hO (by omega) ?_)) | ((with_reducible refine geF hO (by omega) ?_)) | ((with_reducible refine geB hO (fun h => ?_) (fun h => ?_))) | ((with_reducible refine eqT hO (by omega) ?_)) | ((with_reducible refine eqF hO (by omega) ?_)) | ((with_reducible refine eqB hO (fun h => ?_) (fun h => ?_))) | ((with_reducible refine neT hO (by omega) ?_)) | ((with_reducible refine neF hO (by omega) ?_)) | ((with_reducible refine neB hO (fun h => ?_) (fun h => ?_))) | ((with_reducible refine eqST hO (by first | rfl | assumption) ?_)) | ((with_reducible refine eqSF hO (by first | assumption | decide) ?_)) | ((with_reducible refine eqSB hO (fun h => ?_) (fun h => ?_))) | ((with_reducible refine neSF hO (by first | rfl | assumption) ?_)) | ((with_reducible refine neST hO (by first | assumption | decide) ?_)) | ((with_reducible refine neSB hO (fun h => ?_) (fun h => ?_))) | ((with_reducible refine adI hO (by omega) ?_)) | ((with_reducible refine adS hO (by first | omega | (simp only [List.length_cons, List.length_nil, List.length_append]; omega)) ?_)) | ((with_reducible refine sbI hO (by omega) (by omega) ?_)) | ((with_reducible refine sbZ hO (by omega) (by omega) ?_)) | ((with_reducible refine rmI hO (by omega) ?_)) | ((with_reducible refine quI hO (by omega) (by omega) ?_)) | ((with_reducible refine mtI hO (by omega) ?_)) | ((with_reducible refine cvI hO (by omega) ?_)) | ((with_reducible refine cvB hO (by omega) ?_)) | ((with_reducible refine mnI hO ?_)) | ((with_reducible refine mxI hO ?_)) | ((with_reducible refine ix01 hO (by omega) ?_)) | ((with_reducible refine ix0 hO (by omega) ?_)) | ((with_reducible refine ix1 hO (by omega) ?_)) | ((with_reducible refine ixN hO (by omega) ?_)) | ((with_reducible refine txS hO (by first | omega | decide) ?_)) | ((with_reducible refine ssH hO (by omega) ?_)) | ((with_reducible refine ssL hO (by omega) ?_)) | ((with_reducible refine ssB hO (by omega) (by omega) ?_)) | ((with_reducible refine svH hO (by omega) ?_)) | ((with_reducible refine svL hO (by omega) ?_)) | ((with_reducible refine svB hO (by omega) (by omega) ?_)) | ((with_reducible refine atSt ?_); first | refine stC hO aQ (by kernel_rfl) (fun _ _ _ => rfl) (fun _ => rfl) ?_ | refine ust hO ?_) | ((with_reducible refine alO hO (by omega) ?_)) | ((with_reducible refine atBx ?_); first | refine bxS hO (by omega) ?_ | refine bxSl hO (by omega) ?_ | refine bxI hO (by omega) ?_ | refine bxA hO (by omega) (by simp only [αL, αV, AObj.of, allInt, βO, βL, βV, unp_pack]) ?_ | refine ubx hO ?_) | ((with_reducible refine atLk ?_); first | refine lkS hO aQ (fun a hla => ?_) (fun hla => ?_) | refine lkS1 hO aQ (fun a hla => ?_) (fun hla => ?_)) | ((with_reducible refine atMu ?_); first | refine muS hO aQ (by rfl) (by rfl) ?_) | ((with_reducible refine atMd ?_); first | refine mdS hO aQ ?_) | ((with_reducible refine sBS hO (by omega) ?_)) | ((with_reducible refine rcE hO (by kernel_rfl) rfl ?_)) | ((with_reducible first | refine umt hO ?_ | refine uqu hO ?_ | refine urm hO ?_ | refine uan hO ?_ | refine uro hO ?_ | refine uxr hO ?_ | refine uhl hO ?_ | refine uhr hO ?_ | refine uad hO ?_ | refine usb hO ?_ | refine ult hO ?_ | refine ule hO ?_ | refine ugt hO ?_ | refine uge hO ?_ | refine ueq hO ?_ | refine une hO ?_ | refine ucv hO ?_ | refine uia hO ?_ | refine usv hO ?_ | refine ubu hO ?_ | refine uap hO ?_ | refine ubs hO ?_ | refine umm hO ?_ | refine upq hO ?_ | refine unq hO ?_ | refine uln hO ?_)) | (with_reducible refine (fN_eq _ _).trans ?_) | (with_reducible refine (nM_mp (by omega)).trans ?_) | (with_reducible refine pM_mp.trans ?_) | (refine gM_amP aQ ?_) | (with_reducible refine (fO_eq _ _).trans ?_) | (((with_reducible refine atB ?_); first | refine brecBT (by omega) ?_ | refine brecBF (by omega) ?_ | refine brecB (fun h => ?_) (fun h => ?_) | refine brecT (by assumption) ?_ | refine brecF (by assumption) ?_ | refine brec (fun h => ?_) (fun h => ?_))))
  all_goals (conv => lhs; whnf)
  all_goals first
    | (refine atFn ?_; rw [H29]; exact key _ _ _ _ _ (by omega) (by omega) kQ aQ aQ)
end Go.Proofs.YtjoakhpdajlhiaaDoor.V2.S
namespace Go.Proofs.YtjoakhpdajlhiaaDoor.V2.S
open Go
set_option linter.unusedVariables false
noncomputable section
def p10 (O : Oz) : Phi → HF := fnQ (aLet fun v1 => (aEnd (cWr X2 (.o .sl) (cLet (oCallS 28 [(rdV v1)]) fun v2 => (cSeq (cCond (rdV v2) (cWr X2 (.o .sl) cRet) cSkip) (cLet (o1 ncF (rdV v1)) fun v3 => (cLet (o1 (O.fa 1) (rdV v3)) fun v4 => (cLet (m1 O.ld (rdV v4)) fun v5 => (cLet (o1 ncF (rdV v1)) fun v6 => (cLet (o1 (O.fa 0) (rdV v6)) fun v7 => (cLet (m1 O.ld (rdV v7)) fun v8 => (cLet (n0Z O.al (.cells [.o .sl] 33 .exact)) fun v9 => (cLet (oCallS 31 [(rdV v5)]) fun v10 => (cRz O.rc (m1 O.ld (rdV v7)) v8 (cLet (m1 O.ml (rdV v8)) fun v11 => (cLet (oCallS 32 [(rdV v11)]) fun v12 => (cLet (n2 (O.ap 5 false 1) (rdV v10) (rdV v12)) fun v13 => (cLet (n2 (O.st 1) (rdV v9) (rdV v13)) fun v14 => (cLet (nL (mfG (.func 9) 1) [(rdV v1)]) fun v15 => (cSeq (cBlk 0 (cSeq (cRf (rdV v15) [X22] (cLetW (n0Z O.al (.cells [.s (pack []), .b false, .s (pack [])] 32 .exact)) X4 fun v16 => (cDo (n2 (O.st 3) (rdV v16) R22) cSkip)) (cSeq (cBlk 1 (cWr X5 (.n .i64 2) (cLet (o1 (O.fa 1) R4) fun v17 => (cLet (m1 O.ld (rdV v17)) fun v18 => (cSeq (cCond (rdV v18) (cWr X5 (.n .i64 1) cSkip) cSkip) (cLet (m1 O.ld (rdV v9)) fun v19 => (cLet (oV R5) fun v20 => (cLet (o1 (O.cv .u8) (rdV v20)) fun v21 => (cLet (nL (O.bs 5 1 1) [(rdV v21)]) fun v22 => (cLet (o1 (O.fa 0) R4) fun v23 => (cLet (m1 O.ld (rdV v23)) fun v24 => (cLet (n2 (O.ap 5 false 1) (rdV v19) (rdV v22)) fun v25 => (cRz O.rc (m1 O.ld (rdV v23)) v24 (cLet (oCallS 31 [(rdV v24)]) fun v26 => (cLet (n2 (O.ap 5 false 1) (rdV v25) (rdV v26)) fun v27 => (cLet (n2 (O.st 1) (rdV v9) (rdV v27)) fun v28 => (cLet (o1 (O.fa 1) R4) fun v29 => (cLet (m1 O.ld (rdV v29)) fun v30 => (cLet (o1 notF (rdV v30)) fun v31 => (cSeq (cCond (rdV v31) (cLet (m1 O.ld (rdV v9)) fun v32 => (cLet (o1 (O.fa 2) R4) fun v33 => (cLet (m1 O.ld (rdV v33)) fun v34 => (cLet (oCallS 31 [(rdV v34)]) fun v35 => (cRz O.rc (m1 O.ld (rdV v9)) v32 (cLet (n2 (O.ap 5 false 1) (rdV v32) (rdV v35)) fun v36 => (cLet (n2 (O.st 1) (rdV v9) (rdV v36)) fun v37 => cSkip))))))) cSkip) cSkip)))))))))))))))))))) cSkip)) cSkip)) (cLet (m1 O.ld (rdV v9)) fun v38 => (cWr X2 v38 cRet)))))))))))))))))))) [vT R2]))
theorem k10 : QeOk ⟨10, eZ Tryd.f10, p10 zO⟩ := qz 43 1 [2, 4, 5, 22] Tryd.func10 (by kernel_rfl) (by kernel_rfl)
def p17 (O : Oz) : Phi → HF := fnQ (aLet fun v1 => (aLet fun v2 => (aEnd (cWr X4 (.b false) (cLet (o1 O.lv (rdV v1)) fun v3 => (cLet (o1 O.lv (rdV v2)) fun v4 => (cLet (o2 O.ne (rdV v3) (rdV v4)) fun v5 => (cSeq (cCond (rdV v5) (cWr X4 (.b false) cRet) cSkip) (cLet (o1 O.lv (rdV v1)) fun v6 => (cWr X13 (.n .i64 0) (cSeq (cBlk 0 (O.lp 1000000 (cLet (o2 O.lt R13 (rdV v6)) fun v7 => (cSeq (cCond (rdV v7) cSkip (cExit 0)) (cSeq (cBlk 1 (cLet (oV R13) fun v8 => (cLet (o2 (O.ix 1) (rdV v1) (rdV v8)) fun v9 => (cLet (m1 O.ld (rdV v9)) fun v10 => (cLet (o2 (O.ix 1) (rdV v2) (rdV v8)) fun v11 => (cLet (m1 O.ld (rdV v11)) fun v12 => (cLet (o2 O.ne (rdV v10) (rdV v12)) fun v13 => (cSeq (cCond (rdV v13) (cWr X4 (.b false) cRet) cSkip) cSkip)))))))) (cLet (o2 O.ad R13 (rdV (.n .i64 1))) fun v14 => (cWr X13 v14 cSkip))))))) (cWr X4 (.b true) cRet))))))))) [vT R4])))
theorem k17 : QeOk ⟨17, eZ Tryd.f17, p17 zO⟩ := qz 26 2 [4, 13] Tryd.func17 (by kernel_rfl) (by kernel_rfl)
def p31 (O : Oz) : Phi → HF := fnQ (aLet fun v1 => (aEnd (cWr X2 (.o .sl) (cLet (o1 O.ls (rdV v1)) fun v2 => (cLet (oCallS 32 [(rdV v2)]) fun v3 => (cLet (n2 (O.ap 5 true 1) (rdV v3) (rdV v1)) fun v4 => (cWr X2 v4 cRet))))) [vT R2]))
theorem k31 : QeOk ⟨31, eZ Tryd.f31, p31 zO⟩ := qz 8 1 [2] Tryd.func31 (by kernel_rfl) (by kernel_rfl)
def p32 (O : Oz) : Phi → HF := fnQ (aLet fun v1 => (aEnd (cWr X2 (.o .sl) (cLet (o2 O.hr (rdV v1) (rdV (.n .u64 8))) fun v2 => (cLet (o1 (O.cv .u8) (rdV v2)) fun v3 => (cLet (o1 (O.cv .u8) (rdV v1)) fun v4 => (cLet (nL (O.bs 5 1 2) [(rdV v3), (rdV v4)]) fun v5 => (cWr X2 v5 cRet)))))) [vT R2]))
theorem k32 : QeOk ⟨32, eZ Tryd.f32, p32 zO⟩ := qz 9 1 [2] Tryd.func32 (by kernel_rfl) (by kernel_rfl)
end
end Go.Proofs.YtjoakhpdajlhiaaDoor.V2.S
namespace Go.Proofs.YtjoakhpdajlhiaaDoor.V2.S
open Go
set_option linter.unusedVariables false
noncomputable section
def p21 (O : Oz) : Phi → HF := fnQ (aLet fun v1 => (aEnd (cWr X2 (.o .ptr) (cWr X3 (.n .i64 0) (cLet (nL (O.bu [.o .sl, .b false] [.nilsl, (.bool false)] [(0, 1)]) [(rdV v1)]) fun v2 => (cLet (n1 (O.bx 79) (rdV v2)) fun v3 => (cLet (oCallS 26 []) fun v4 => (cLet (oCallS 42 [(rdV v3)]) fun v5 => (cWr X7 (.n .i64 0) (cLet (oCallS 43 [(rdV v3)]) fun v6 => (cWr X21 (.n .i64 0) (cSeq (cBlk 0 (O.lp 1000000 (cLet (o2 O.lt R21 (rdV v6)) fun v7 => (cSeq (cCond (rdV v7) cSkip (cExit 0)) (cSeq (cBlk 1 (cLet (oCallS 44 [(rdV v3), (rdV (.n .i64 1))]) fun v8 => (cLet (o2 (O.ix 1) (rdV v8) (rdV (.n .i64 0))) fun v9 => (cLet (m1 O.ld (rdV v9)) fun v10 => (cLet (o1 (O.cv .i64) (rdV v10)) fun v11 => (cLet (oCallS 42 [(rdV v3)]) fun v12 => (cWr X10 (.s (pack [])) (cLet (o2 O.eq (rdV v11) (rdV (.n .i64 2))) fun v13 => (cSeq (cCond (rdV v13) (cLet (oCallS 42 [(rdV v3)]) fun v14 => (cWr X10 v14 cSkip)) cSkip) (cLet (o1 ncF (rdV v3)) fun v15 => (cLet (o1 (O.fa 1) (rdV v15)) fun v16 => (cLet (m1 O.ld (rdV v16)) fun v17 => (cSeq (cCond (rdV v17) (cExit 0) cSkip) (cLet (oCallS 12 [(rdV v4), (rdV v12)]) fun v18 => (cLet (o1 (exG 0) (rdV v18)) fun v19 => (cLet (o1 (exG 1) (rdV v18)) fun v20 => (cLet (o2 O.ne (rdV v20) (rdV (.n .i64 0))) fun v21 => (cLet (oG false (rdV v21) (oV (rdV v19))) fun v22 => (cLet (oG false (rdV v21) (oV (rdV v12))) fun v23 => (cLet (oG false (rdV v21) (o2 O.ne (rdV v22) (rdV v23))) fun v24 => (cLet (o3 pkF (rdV v21) (rdV (.b true)) (rdV v24)) fun v25 => (cLet (oG false (rdV v25) (oV (rdV v4))) fun v26 => (cLet (oG false (rdV v25) (oV (rdV v19))) fun v27 => (cLet (oG false (rdV v25) (oCallS 35 [(rdV v26), (rdV v27)])) fun v28 => (cLet (oG false (rdV v25) (o2 O.ne (rdV v28) (rdV (.n .i64 0)))) fun v29 => (cLet (o3 pkF (rdV v25) (rdV (.b true)) (rdV v29)) fun v30 => (cLet (oG false (rdV v30) (oV (rdV v11))) fun v31 => (cLet (oG false (rdV v30) (o2 O.ne (rdV v31) (rdV (.n .i64 1)))) fun v32 => (cLet (oG false (rdV v30) (oV (rdV v32))) fun v33 => (cLet (oG true (rdV v33) (oV (rdV v11))) fun v34 => (cLet (oG true (rdV v33) (o2 O.ne (rdV v34) (rdV (.n .i64 2)))) fun v35 => (cLet (oG false (rdV v30) (o3 pkF (rdV v33) (rdV v35) (rdV (.b false)))) fun v36 => (cLet (o3 pkF (rdV v30) (rdV (.b true)) (rdV v36)) fun v37 => (cLet (oG false (rdV v37) (oV (rdV v4))) fun v38 => (cLet (oG false (rdV v37) (oV (rdV v19))) fun v39 => (cLet (oG false (rdV v37) (oV (rdV v11))) fun v40 => (cLet (oG false (rdV v37) (o2 O.eq (rdV v40) (rdV (.n .i64 1)))) fun v41 => (cLet (oG false (rdV v37) (oV R10)) fun v42 => (cLet (oG false (rdV v37) (nL (O.bu [.s (pack []), .b false, .s (pack [])] [(.str []), (.bool false), (.str [])] [(0, 1), (1, 1), (2, 1)]) [(rdV v39), (rdV v41), (rdV v42)])) fun v43 => (cLet (oG false (rdV v37) (oCallS 39 [(rdV v38), (rdV v43)])) fun v44 => (cLet (oG false (rdV v37) (o2 O.ne (rdV v44) (rdV (.n .i64 0)))) fun v45 => (cLet (o3 pkF (rdV v37) (rdV (.b true)) (rdV v45)) fun v46 => (cSeq (cCond (rdV v46) (cWr X7 (.n .i64 5) cSkip) cSkip) cSkip))))))))))))))))))))))))))))))))))))))))))) (cLet (o2 O.ad R21 (rdV (.n .i64 1))) fun v47 => (cWr X21 v47 cSkip))))))) (cSeq (cBlk 2 (cLet (o1 ncF (rdV v3)) fun v48 => (cLet (o1 (O.fa 1) (rdV v48)) fun v49 => (cLet (m1 O.ld (rdV v49)) fun v50 => (cSeq (cCond (rdV v50) (cWr X2 (.o .ptr) (cWr X3 (.n .i64 4) cRet)) (cLet (oV R7) fun v51 => (cLet (o2 O.ne (rdV v51) (rdV (.n .i64 0))) fun v52 => (cLet (oG false (rdV v52) (oV (rdV v4))) fun v53 => (cLet (oG false (rdV v52) (oV (rdV v5))) fun v54 => (cLet (oG false (rdV v52) (oCallS 16 [(rdV v53), (rdV v54)])) fun v55 => (cLet (oG false (rdV v52) (o2 O.ne (rdV v55) (rdV (.n .i64 0)))) fun v56 => (cLet (o3 pkF (rdV v52) (rdV (.b true)) (rdV v56)) fun v57 => (cLet (oG false (rdV v57) (oV (rdV v4))) fun v58 => (cLet (oG false (rdV v57) (oCallS 10 [(rdV v58)])) fun v59 => (cLet (oG false (rdV v57) (oV (rdV v1))) fun v60 => (cLet (oG false (rdV v57) (oCallS 17 [(rdV v59), (rdV v60)])) fun v61 => (cLet (oG false (rdV v57) (o1 notF (rdV v61))) fun v62 => (cLet (o3 pkF (rdV v57) (rdV (.b true)) (rdV v62)) fun v63 => (cSeq (cCond (rdV v63) (cWr X2 (.o .ptr) (cWr X3 (.n .i64 5) cRet)) cSkip) cSkip))))))))))))))) cSkip))))) (cWr X2 v4 (cWr X3 (.n .i64 0) cRet))))))))))))) [vT R2, vT R3]))
theorem k21 : QeOk ⟨21, eZ Tryd.f21, p21 zO⟩ := qz 98 1 [2, 3, 7, 10, 21] Tryd.func21 (by kernel_rfl) (by kernel_rfl)
def p42 (O : Oz) : Phi → HF := fnQ (aLet fun v1 => (aEnd (cWr X2 (.s (pack [])) (cLet (oCallS 43 [(rdV v1)]) fun v2 => (cLet (oCallS 44 [(rdV v1), (rdV v2)]) fun v3 => (cLet (m1 O.bS (rdV v3)) fun v4 => (cWr X2 v4 cRet))))) [vT R2]))
theorem k42 : QeOk ⟨42, eZ Tryd.f42, p42 zO⟩ := qz 8 1 [2] Tryd.func42 (by kernel_rfl) (by kernel_rfl)
def p43 (O : Oz) : Phi → HF := fnQ (aLet fun v1 => (aEnd (cWr X2 (.n .i64 0) (cLet (oCallS 44 [(rdV v1), (rdV (.n .i64 2))]) fun v2 => (cLet (o2 (O.ix 1) (rdV v2) (rdV (.n .i64 0))) fun v3 => (cLet (m1 O.ld (rdV v3)) fun v4 => (cLet (o1 (O.cv .i64) (rdV v4)) fun v5 => (cLet (o2 O.hl (rdV v5) (rdV (.n .u64 8))) fun v6 => (cLet (o2 (O.ix 1) (rdV v2) (rdV (.n .i64 1))) fun v7 => (cLet (m1 O.ld (rdV v7)) fun v8 => (cLet (o1 (O.cv .i64) (rdV v8)) fun v9 => (cLet (o2 O.ro (rdV v6) (rdV v9)) fun v10 => (cWr X2 v10 cRet))))))))))) [vT R2]))
theorem k43 : QeOk ⟨43, eZ Tryd.f43, p43 zO⟩ := qz 16 1 [2] Tryd.func43 (by kernel_rfl) (by kernel_rfl)
def p44 (O : Oz) : Phi → HF := fnQ (aLet fun v1 => (aLet fun v2 => (aEnd (cWr X4 (.o .sl) (cLet (o1 ncF (rdV v1)) fun v3 => (cLet (o1 (O.fa 1) (rdV v3)) fun v4 => (cLet (m1 O.ld (rdV v4)) fun v5 => (cLet (oG false (rdV v5) (oV (rdV v2))) fun v6 => (cLet (oG false (rdV v5) (oV (rdV v1))) fun v7 => (cLet (oG false (rdV v5) (o1 ncF (rdV v7))) fun v8 => (cLet (oG false (rdV v5) (o1 (O.fa 0) (rdV v8))) fun v9 => (cLet (oG false (rdV v5) (m1 O.ld (rdV v9))) fun v10 => (cLet (oG false (rdV v5) (o1 O.lv (rdV v10))) fun v11 => (cLet (oG false (rdV v5) (o2 O.gt (rdV v6) (rdV v11))) fun v12 => (cLet (o3 pkF (rdV v5) (rdV (.b true)) (rdV v12)) fun v13 => (cLet (o1 ncF (rdV v1)) fun v14 => (cLet (o1 (O.fa 1) (rdV v14)) fun v15 => (cDo (n2 (O.st 1) (rdV v15) (rdV v13)) (cLet (o1 ncF (rdV v1)) fun v16 => (cLet (o1 (O.fa 1) (rdV v16)) fun v17 => (cLet (m1 O.ld (rdV v17)) fun v18 => (cSeq (cCond (rdV v18) (cLet (nL (O.pq .minI) [(rdV v2), (rdV (.n .i64 2))]) fun v19 => (cLet (nL (O.nq (.makeSl 5 1 [(.int .u8 0)])) [(rdV v19), (rdV v19)]) fun v20 => (cWr X4 v20 cRet))) cSkip) (cLet (o1 ncF (rdV v1)) fun v21 => (cLet (o1 (O.fa 0) (rdV v21)) fun v22 => (cLet (m1 O.ld (rdV v22)) fun v23 => (cLet (oVz O.sv 1 (rdV v23) none (some (rdV v2)) none) fun v24 => (cLet (o1 ncF (rdV v1)) fun v25 => (cLet (o1 (O.fa 0) (rdV v25)) fun v26 => (cLet (m1 O.ld (rdV v26)) fun v27 => (cLet (oVz O.sv 1 (rdV v27) (some (rdV v2)) none none) fun v28 => (cLet (o1 ncF (rdV v1)) fun v29 => (cLet (o1 (O.fa 0) (rdV v29)) fun v30 => (cDo (n2 (O.st 1) (rdV v30) (rdV v28)) (cWr X4 v24 cRet))))))))))))))))))))))))))))))) [vT R4])))
theorem k44 : QeOk ⟨44, eZ Tryd.f44, p44 zO⟩ := qz 45 2 [4] Tryd.func44 (by kernel_rfl) (by kernel_rfl)
end
end Go.Proofs.YtjoakhpdajlhiaaDoor.V2.S
namespace Go.Proofs.YtjoakhpdajlhiaaDoor.V2.S
open Go
set_option maxRecDepth 100000
set_option linter.unusedVariables false
theorem bare_fn (Φ : Phi) (f : Nat) : Phi.fn (Phi.bare Φ) f = Phi.fn Φ f := by cases Φ <;> rfl
section
variable {O : Oz} (hO : O = zO) {P : FR} {c : FV → FR} {k : KV} {n : Nat} {m : T FObj}
include hO
theorem hr8 {a : Nat} (hc : c (.n .i64 (a / 256)) = P) : O.hr (.n .i64 a) (.n .u64 8) c = P := by
  subst hO
  show (Bool.rec (gI .shr .i64 (Int.ofNat a) (Int.ofNat 8) c) (fN (Nat.shiftRight a 8) fun r => c (.n .i64 r)) (Nat.ble 8 (bitsF .i64)) : FR) = P
  rw [show Nat.ble 8 (bitsF .i64) = true from rfl, fN_eq, show Nat.shiftRight a 8 = a / 256 from Nat.shiftRight_eq_div_pow a 8]
  exact hc
theorem cvW {k : IntKind} {a : Nat} (hc : c (.n .u8 (a % 256)) = P) : O.cv .u8 (.n k a) c = P := by
  subst hO
  show (fN a fun m => Bool.rec (sW .u8 (Int.ofNat m) c) (c (.n .u8 m)) (Nat.ble m (lim .u8)) : FR) = P
  rw [fN_eq]
  by_cases h : a ≤ 255
  · rw [show Nat.ble a (lim .u8) = true from ble_t h]
    rw [Nat.mod_eq_of_lt (by omega)] at hc; exact hc
  · rw [show Nat.ble a (lim .u8) = false from ble_f (by show 255 < a; omega)]
    show vI .u8 (wr .u8 (Int.ofNat a)) c = P
    rw [show wr .u8 (Int.ofNat a) = Int.ofNat (a % 256) by show ((a : Nat) : Int) % 256 = ((a % 256 : Nat) : Int); omega]
    show (fN (a % 256) fun m => c (.n .u8 m)) = P
    rw [fN_eq]; exact hc
theorem bs1 {a : Nat} {e : TypeId} (ha : a < 256) (hn : n < 1000000) (h : k (.sl n 0 1 1 true 1) ⟨n + 1, mp m n (.bs (pack [UInt8.ofNat a]) e .exact)⟩ = P) : O.bs e 1 1 [.n .u8 a] ⟨n, m⟩ k = P := by
  subst hO
  show (ofQ [.n .u8 a] e .exact fun o => nM ⟨n, m⟩ o fun b σ => k (.sl b 0 1 1 true 1) σ) = P
  have e2 : βO (.ints .u8 [Int.ofNat a] e .exact) = .bs (pack [UInt8.ofNat a]) e .exact := by
    have : packI [Int.ofNat a] = some (pack [UInt8.ofNat a]) := by
      simp only [packI, Nat.blt_eq, ha, cond_true, Option.map_some, pack, show Nat.blt a 256 = true by rw [Nat.blt_eq]; exact ha, show (UInt8.ofNat a).toNat = a by rw [UInt8.toNat_ofNat']; omega]
    simp only [βO, this]
  show (fO (βO (.ints .u8 [Int.ofNat a] e .exact)) fun o => nM ⟨n, m⟩ o fun b σ => k (.sl b 0 1 1 true 1) σ) = P
  rw [e2, fO_eq, nM_mp hn]; exact h
theorem bs2 {a b : Nat} {e : TypeId} (ha : a < 256) (hb : b < 256) (hn : n < 1000000) (h : k (.sl n 0 2 2 true 1) ⟨n + 1, mp m n (.bs (pack [UInt8.ofNat a, UInt8.ofNat b]) e .exact)⟩ = P) : O.bs e 1 2 [.n .u8 a, .n .u8 b] ⟨n, m⟩ k = P := by
  subst hO
  show (ofQ [.n .u8 a, .n .u8 b] e .exact fun o => nM ⟨n, m⟩ o fun b σ => k (.sl b 0 2 2 true 1) σ) = P
  have e2 : βO (.ints .u8 [Int.ofNat a, Int.ofNat b] e .exact) = .bs (pack [UInt8.ofNat a, UInt8.ofNat b]) e .exact := by
    have : packI [Int.ofNat a, Int.ofNat b] = some (pack [UInt8.ofNat a, UInt8.ofNat b]) := by
      simp only [packI, cond_true, Option.map_some, pack, show Nat.blt a 256 = true by rw [Nat.blt_eq]; exact ha, show Nat.blt b 256 = true by rw [Nat.blt_eq]; exact hb, show (UInt8.ofNat a).toNat = a by rw [UInt8.toNat_ofNat']; omega, show (UInt8.ofNat b).toNat = b by rw [UInt8.toNat_ofNat']; omega]
    simp only [βO, this]
  show (fO (βO (.ints .u8 [Int.ofNat a, Int.ofNat b] e .exact)) fun o => nM ⟨n, m⟩ o fun b σ => k (.sl b 0 2 2 true 1) σ) = P
  rw [e2, fO_eq, nM_mp hn]; exact h
theorem apXS {e el : TypeId} {tl : Tl} {l l' : Bs} {b o L Kk : Nat} (ha : Am m b (.bs (pack l) el tl)) (hl : o + L ≤ l.length) (hK : Kk = L) (hp : 0 < l'.length) (hb : L + l'.length ≤ 1000000000000) (hn : n < 1000000)
    (h : k (.sl n 0 (L + l'.length) (L + l'.length) false 1) ⟨n + 1, mp m n (.bs (pack ((l.drop o).take L ++ l')) e .more)⟩ = P) : O.ap e true 1 (.sl b o L Kk true 1) (.s (pack l')) ⟨n, m⟩ k = P := by
  subst hO hK
  obtain ⟨q, hq⟩ : ∃ q, l'.length = q + 1 := ⟨l'.length - 1, by omega⟩
  show (gT (Nat.beq 1 1) (fN (bl (pack l')) fun mm => apR e 1 (.sl b o Kk Kk true 1) mm (.bs (pack l')) ⟨n, m⟩ k)) = P
  rw [gTt (b := Nat.beq 1 1) rfl, fN_eq, bl_pack, hq]
  refine apR_ ?_
  rw [rowQs, rowSb ha hl, fN_eq, show Nat.add Kk (Nat.succ q) = Kk + (q + 1) from rfl, gTt (ble_t (show Kk + (q + 1) ≤ 1000000000000 by omega)), baBx ha (by omega)]
  show (fN (bapp (pack ((l.drop o).take Kk)) (pack l')) fun s => nM ⟨n, m⟩ (.bs s e .more) fun b σ => k (.sl b 0 (Kk + (q + 1)) (Kk + (q + 1)) false 1) σ) = P
  rw [fN_eq, bappP, nM_mp hn, ← hq]; exact h
theorem mlS {α : Type} {b : Nat} {l : List α} {g : α → FV × FV} (ha : Am m b (.map (l.map g))) (h : c (.n .i64 l.length) = P) : O.ml (.m b) ⟨n, m⟩ c = P := by
  subst hO
  show gM ⟨n, m⟩ b (kMp fun l => lenK l 0 fun n => c (.n .i64 n)) = P
  rw [gM_am ha]
  show (lenK (l.map g) 0 fun n => c (.n .i64 n)) = P
  rw [lenK_eq, Nat.zero_add, List.length_map]; exact h
end
end Go.Proofs.YtjoakhpdajlhiaaDoor.V2.S
