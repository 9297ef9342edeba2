/- Part 8 of the proof: texts of the proof. -/
import Derived.Test.YtjgmpdklfcmelaaGreatDoorQF7
import Derived.Shelf.SlIter.Nil
import Derived.Shelf.SortM.Plain
import Derived.Shelf.SortM.SortNone
import Derived.Test.YtjgmpdklfcmelaaGreatDoorChecked
namespace Go.Proofs.YtjgmpdklfcmelaaGreatDoor.V2
open Go Go.RowKit Go.Maps Go.Sort Go.Shelf
theorem law9 : Keyed Tryz.prog 9 := string_keyed Tryz.underlying9
theorem sorts185 (m : Nat) : AnyZ.SortsIn Tryz.prog sorted185_lay_ren Fence.wide m :=
  ⟨fun blk off cap ss W hH hblk hsz => callsIn_wide.2 (AnyM.slices_Sort_string sort184_lay blk off cap ss W hH hblk hsz),
   fun p cap W => callsIn_wide.2 (AnyM.slices_Sort_string_none sort184_lay p cap W)⟩
set_option maxRecDepth 100000 in
set_option maxHeartbeats 1000000 in
theorem keys250 {H : Type} (n : Nat) (hn : 1 ≤ n) (l Bm o b nn : Nat) (D0 : DataW H) {R : Value → Option (DataW H × List MemPlace)} (J : List (List UInt8) → World → Prop)
    (hY : ∀ pre x W, J pre W → pre.length < Maps.size D0 → YieldAt Fence.wide (n - 1) Tryz.prog l #[encStr x] W fun e W' => e = .returned (.bool true) ∧ J (pre ++ [x]) W' ∧ KeepsWalks W W')
    (W : World) (hJ : AbidesFrom W.heap.size J) (hm : W.cell? ⟨Bm, o, none⟩ = some (.map (some b))) (hown : W.ownsMap Tryz.prog 9 R b nn D0) (h0 : J [] W) :
    CallsIn Fence.wide n Tryz.prog 250 #[.func (.yield l) #[] #[], .pointer (some ⟨Bm, o, none⟩)] W fun e W' => (∃ v, e = .returned v) ∧ ∃ ss : List (List UInt8), ss.Perm (strKeys D0) ∧ J ss W' := by
  refine callsIn_of_wp Tryz.func250 rfl trivial ?_ rfl
  simp only [Tryz.ntmps250, List.size_toArray, List.length_cons, List.length_nil, Nat.reduceAdd, Nat.reduceSub, Array.replicate_succ, Array.replicate_zero, List.push_toArray, List.append_toArray, List.nil_append, List.cons_append]
  gi_wp2_with (first
    | (gi_at_range; refine wpListIn_range_own _ rfl _ 51 rfl 9 162 law9 Tryz.underlying51 _ b nn _ rfl hown ?_; intro w0 hrg0 hg0 hs0)
    | gi_in)
  go_frame
  gi_loopw [3] (fun _ wr => ∃ (left : Lit → Bool) (cnt : Nat) (ss : List (List UInt8)), wr.ranges Tryz.prog 9 R b W.heap.size nn D0 left cnt ∧ ss.length + cnt ≤ Maps.size D0 ∧ Collected D0 left ss ∧ J ss wr)
    (fun _ wr => wr.rangeLeft b W.heap.size)
  case atStart =>
    exact ⟨_, _, [], hrg0, by simp, Collected.start D0, hJ [] W w0 none h0 hg0 (fun r e => by cases e)⟩
  case round =>
    obtain ⟨left, cnt, ss, hrg, hcs, hC, hJs⟩ := hrel
    gi_wp2_with (first
      | (gi_at_next; refine wpListIn_next_ranges _ rfl _ rfl 9 law9 R encStr id (fun key kl hk => by obtain ⟨x, hx, _⟩ := Maps.keyOf_str Tryz.underlying9 hk; exact ⟨x, hx⟩) (fun v _ _ => ⟨v, rfl⟩) b W.heap.size nn _ _ _ rfl hrg ?_ ?_)
      | gi_in)
    · intro hc0 hl0
      gi_wp2
      go_end0
      exact ⟨⟨_, rfl⟩, ss, hC.perm hown law9 Tryz.underlying9 hl0, hJs⟩
    · intro x c kl yd yp w2 cnt2 hkey hlk hv hat hrg2 hlt hg2 hs2 hen
      obtain ⟨x', ex, rfl, _⟩ := Maps.keyOf_str Tryz.underlying9 hkey
      obtain rfl : x = x' := encStr_inj ex
      have hJ2 : J ss w2 := hJ ss wr w2 (some W.heap.size) hJs hg2 (fun r e => by cases e; exact ⟨Nat.le_refl _, hrg.iter_walk⟩)
      obtain ⟨fn, tmps, assign, body, hy, hR⟩ := hY ss x w2 hJ2 (by omega)
      clear hs2
      gi_wp2
      refine hR.mono ?_
      rintro e W3 ⟨rfl, hJ3, hk3⟩
      gi_wp2
      have hrg3 := hrg2.of_walks hk3
      go_roundw
      case rel => exact ⟨_, cnt2, ss ++ [x], hrg3, by simp; omega, hC.step hlk hat, hJ3⟩
      case measure => rw [hrg3.left_eq, hrg.left_eq]; exact hlt
theorem gives250 {H : Type} (n : Nat) (hn : 1 ≤ n) (Bm o b nn : Nat) (D0 : DataW H) {R : Value → Option (DataW H × List MemPlace)} (w : World) (hBm : Bm < w.heap.size)
    (hm : w.cell? ⟨Bm, o, none⟩ = some (.map (some b))) (hown : w.ownsMap Tryz.prog 9 R b nn D0) :
    SeqGives Fence.wide n Tryz.prog 250 #[.pointer (some ⟨Bm, o, none⟩)] encStr (fun ss => ss.Perm (strKeys D0)) (Maps.size D0) w := fun l J W hW hJ hY h0 => by
  have hown' : W.ownsMap Tryz.prog 9 R b nn D0 := by
    have hbl := hown.lt
    obtain ⟨es, clock, hb, Ft, hs, hD⟩ := hown
    exact ⟨es, clock, (hW.block b hbl).trans hb, Ft, hs, hD⟩
  exact keys250 n hn l Bm o b nn D0 J hY W hJ ((hW.cell (p := ⟨Bm, o, none⟩) hBm).trans hm) hown' h0
theorem sorted250 {H : Type} (Bm o b nn : Nat) (D0 : DataW H) {R : Value → Option (DataW H × List MemPlace)} (w : World) (hBm : Bm < w.heap.size) (hm : w.cell? ⟨Bm, o, none⟩ = some (.map (some b)))
    (hown : w.ownsMap Tryz.prog 9 R b nn D0) (hmax : Maps.size D0 ≤ maxLen) (hbytes : Maps.size D0 * 16 ≤ 140737488355328) :
    Calls Tryz.prog 185 #[.func (.func 250) #[] #[.pointer (some ⟨Bm, o, none⟩)]] w fun e w' => ∃ (v : Value) (ss : List (List UInt8)), e = .returned v ∧ ss.Perm (strKeys D0) ∧
      w'.ownsRow w.heap.size 9 1 v ss.length ((ss.mergeSort (fun x y => decide (x ≤ y))).map encStr) ∧ (v = .slice none 0 0 ↔ ss = []) ∧ Below w.heap.size w w' :=
  (callsIn_wide (n := 5)).1 (AnyZ.sorted_in sorted185_lay Fence.wide 5 trivial trivial trivial trivial rfl (by omega) (sorts185 _) (enters_of Tryz.func184 (by kernel_rfl) rfl) 250 #[.pointer (some ⟨Bm, o, none⟩)] trivial (enters_of Tryz.func250 (by kernel_rfl) rfl) _ _ hmax hbytes _ (gives250 _ (by omega) Bm o b nn D0 w hBm hm hown))
set_option maxRecDepth 100000 in
set_option maxHeartbeats 1000000 in
theorem keys319 {H : Type} (n : Nat) (hn : 1 ≤ n) (l Bm o b nn : Nat) (D0 : DataW H) {R : Value → Option (DataW H × List MemPlace)} (J : List (List UInt8) → World → Prop)
    (hY : ∀ pre x W, J pre W → pre.length < Maps.size D0 → YieldAt Fence.wide (n - 1) Tryz.prog l #[encStr x] W fun e W' => e = .returned (.bool true) ∧ J (pre ++ [x]) W' ∧ KeepsWalks W W')
    (W : World) (hJ : AbidesFrom W.heap.size J) (hm : W.cell? ⟨Bm, o, none⟩ = some (.map (some b))) (hown : W.ownsMap Tryz.prog 9 R b nn D0) (h0 : J [] W) :
    CallsIn Fence.wide n Tryz.prog 319 #[.func (.yield l) #[] #[], .pointer (some ⟨Bm, o, none⟩)] W fun e W' => (∃ v, e = .returned v) ∧ ∃ ss : List (List UInt8), ss.Perm (strKeys D0) ∧ J ss W' := by
  refine callsIn_of_wp Tryz.func319 rfl trivial ?_ rfl
  simp only [Tryz.ntmps319, List.size_toArray, List.length_cons, List.length_nil, Nat.reduceAdd, Nat.reduceSub, Array.replicate_succ, Array.replicate_zero, List.push_toArray, List.append_toArray, List.nil_append, List.cons_append]
  gi_wp2_with (first
    | (gi_at_range; refine wpListIn_range_own _ rfl _ 127 rfl 9 236 law9 Tryz.underlying127 _ b nn _ rfl hown ?_; intro w0 hrg0 hg0 hs0)
    | gi_in)
  go_frame
  gi_loopw [3] (fun _ wr => ∃ (left : Lit → Bool) (cnt : Nat) (ss : List (List UInt8)), wr.ranges Tryz.prog 9 R b W.heap.size nn D0 left cnt ∧ ss.length + cnt ≤ Maps.size D0 ∧ Collected D0 left ss ∧ J ss wr)
    (fun _ wr => wr.rangeLeft b W.heap.size)
  case atStart =>
    exact ⟨_, _, [], hrg0, by simp, Collected.start D0, hJ [] W w0 none h0 hg0 (fun r e => by cases e)⟩
  case round =>
    obtain ⟨left, cnt, ss, hrg, hcs, hC, hJs⟩ := hrel
    gi_wp2_with (first
      | (gi_at_next; refine wpListIn_next_ranges _ rfl _ rfl 9 law9 R encStr id (fun key kl hk => by obtain ⟨x, hx, _⟩ := Maps.keyOf_str Tryz.underlying9 hk; exact ⟨x, hx⟩) (fun v _ _ => ⟨v, rfl⟩) b W.heap.size nn _ _ _ rfl hrg ?_ ?_)
      | gi_in)
    · intro hc0 hl0
      gi_wp2
      go_end0
      exact ⟨⟨_, rfl⟩, ss, hC.perm hown law9 Tryz.underlying9 hl0, hJs⟩
    · intro x c kl yd yp w2 cnt2 hkey hlk hv hat hrg2 hlt hg2 hs2 hen
      obtain ⟨x', ex, rfl, _⟩ := Maps.keyOf_str Tryz.underlying9 hkey
      obtain rfl : x = x' := encStr_inj ex
      have hJ2 : J ss w2 := hJ ss wr w2 (some W.heap.size) hJs hg2 (fun r e => by cases e; exact ⟨Nat.le_refl _, hrg.iter_walk⟩)
      obtain ⟨fn, tmps, assign, body, hy, hR⟩ := hY ss x w2 hJ2 (by omega)
      clear hs2
      gi_wp2
      refine hR.mono ?_
      rintro e W3 ⟨rfl, hJ3, hk3⟩
      gi_wp2
      have hrg3 := hrg2.of_walks hk3
      go_roundw
      case rel => exact ⟨_, cnt2, ss ++ [x], hrg3, by simp; omega, hC.step hlk hat, hJ3⟩
      case measure => rw [hrg3.left_eq, hrg.left_eq]; exact hlt
theorem gives319 {H : Type} (n : Nat) (hn : 1 ≤ n) (Bm o b nn : Nat) (D0 : DataW H) {R : Value → Option (DataW H × List MemPlace)} (w : World) (hBm : Bm < w.heap.size)
    (hm : w.cell? ⟨Bm, o, none⟩ = some (.map (some b))) (hown : w.ownsMap Tryz.prog 9 R b nn D0) :
    SeqGives Fence.wide n Tryz.prog 319 #[.pointer (some ⟨Bm, o, none⟩)] encStr (fun ss => ss.Perm (strKeys D0)) (Maps.size D0) w := fun l J W hW hJ hY h0 => by
  have hown' : W.ownsMap Tryz.prog 9 R b nn D0 := by
    have hbl := hown.lt
    obtain ⟨es, clock, hb, Ft, hs, hD⟩ := hown
    exact ⟨es, clock, (hW.block b hbl).trans hb, Ft, hs, hD⟩
  exact keys319 n hn l Bm o b nn D0 J hY W hJ ((hW.cell (p := ⟨Bm, o, none⟩) hBm).trans hm) hown' h0
theorem sorted319 {H : Type} (Bm o b nn : Nat) (D0 : DataW H) {R : Value → Option (DataW H × List MemPlace)} (w : World) (hBm : Bm < w.heap.size) (hm : w.cell? ⟨Bm, o, none⟩ = some (.map (some b)))
    (hown : w.ownsMap Tryz.prog 9 R b nn D0) (hmax : Maps.size D0 ≤ maxLen) (hbytes : Maps.size D0 * 16 ≤ 140737488355328) :
    Calls Tryz.prog 185 #[.func (.func 319) #[] #[.pointer (some ⟨Bm, o, none⟩)]] w fun e w' => ∃ (v : Value) (ss : List (List UInt8)), e = .returned v ∧ ss.Perm (strKeys D0) ∧
      w'.ownsRow w.heap.size 9 1 v ss.length ((ss.mergeSort (fun x y => decide (x ≤ y))).map encStr) ∧ (v = .slice none 0 0 ↔ ss = []) ∧ Below w.heap.size w w' :=
  (callsIn_wide (n := 5)).1 (AnyZ.sorted_in sorted185_lay Fence.wide 5 trivial trivial trivial trivial rfl (by omega) (sorts185 _) (enters_of Tryz.func184 (by kernel_rfl) rfl) 319 #[.pointer (some ⟨Bm, o, none⟩)] trivial (enters_of Tryz.func319 (by kernel_rfl) rfl) _ _ hmax hbytes _ (gives319 _ (by omega) Bm o b nn D0 w hBm hm hown))
end Go.Proofs.YtjgmpdklfcmelaaGreatDoor.V2
namespace Go.Proofs.YtjgmpdklfcmelaaGreatDoor.V2
open Go
open Go.RowKit Go.Maps Go.Sort
theorem HR.adopt {ρ : Ren} {σ : AH} {W W' : World} (h : HR ρ σ W) (hb : Below W.heap.size W W') {g s : Nat} (hg : W.heap.size ≤ g) (hg' : g < W'.heap.size) (hs : σ.next < 1000000) {o : AObj} (hO : OR ρ (0, s) o W'.heap[g]?) :
    ∃ ρ', ρ' σ.next = some (g, (0, s)) ∧ Sub ρ ρ' ∧ HR ρ' (σ.new o) W' ∧ Stp σ.next ρ σ W ρ' (σ.new o) W' := by
  have hn : ρ σ.next = none := by
    cases hc : ρ σ.next with
    | none => rfl
    | some c => have := (h.dom _ c.1 c.2 hc).1; omega
  have hget : ∀ m, (σ.new o).get m = if m = σ.next then some o else σ.get m := fun m => T.get_put _ _ _ _ (by omega)
  have hsub : Sub ρ (fun b => if b = σ.next then some (g, (0, s)) else ρ b) := fun b x hc => by
    have hne : b ≠ σ.next := by rintro rfl; rw [hn] at hc; cases hc
    simp only [if_neg hne]; exact hc
  refine ⟨fun b => if b = σ.next then some (g, (0, s)) else ρ b, if_pos rfl, hsub, ⟨by show σ.next + 1 ≤ _; omega, fun m hm => by have hm : σ.next + 1 ≤ m := hm; rw [hget, if_neg (by omega)]; exact h.none_ m (by omega), fun b c d hc => ?_, fun b b' c d d' h1 h2 hne => ?_⟩, ⟨fun b hb => if_neg (by omega), fun b c d hc => ?_, by show σ.next ≤ σ.next + 1; omega, fun b ob hb _ ho' _ => ?_, fun c hc _ => hb.block c hc, hb.tape, hb.os, hb.output, hb.size, fun b c d ob hb' _ hc ho' _ => ⟨by rw [hget, if_neg (by omega)]; exact ho', hb.block c hc⟩⟩⟩
  · rw [hget]
    by_cases hbn : b = σ.next
    · subst hbn
      simp only [if_true, Option.some.injEq, Prod.mk.injEq] at hc
      obtain ⟨rfl, rfl⟩ := hc
      exact ⟨Nat.lt_succ_self _, hg', o, if_pos rfl, hO.mono hsub⟩
    · simp only [if_neg hbn] at hc ⊢
      obtain ⟨h1, h2, o2, h3, h4⟩ := h.dom b c d hc
      refine ⟨by show b < σ.next + 1; omega, Nat.lt_of_lt_of_le h2 hb.size, o2, h3, ?_⟩
      rw [hb.block c h2]
      exact h4.mono hsub
  · by_cases e1 : b = σ.next
    · subst e1
      simp only [if_true, Option.some.injEq, Prod.mk.injEq] at h1
      obtain ⟨rfl, rfl⟩ := h1
      simp only [if_neg (Ne.symm hne)] at h2
      have := (h.dom _ _ _ h2).2.1
      omega
    · by_cases e2 : b' = σ.next
      · subst e2
        simp only [if_true, Option.some.injEq, Prod.mk.injEq] at h2
        obtain ⟨rfl, rfl⟩ := h2
        simp only [if_neg e1] at h1
        have := (h.dom _ _ _ h1).2.1
        omega
      · simp only [if_neg e1, if_neg e2] at h1 h2
        exact (h.inj b b' c d d' h1 h2 hne).congr (by rw [hget, if_neg e1]) (by rw [hget, if_neg e2])
  · by_cases hbn : b = σ.next
    · subst hbn
      simp only [if_true, Option.some.injEq, Prod.mk.injEq] at hc
      exact .inr (by omega)
    · simp only [if_neg hbn] at hc
      exact .inl ⟨b, d, hc⟩
  · rw [hget, if_neg (by omega)]; exact ho'
theorem vrs_strs (ρ : Ren) : ∀ ss : List (List UInt8), VRs ρ (ss.map AV.str) (ss.map encStr)
  | [] => rfl
  | s :: ss => ⟨_, _, rfl, rfl, vrs_strs ρ ss⟩
theorem adopt_strs {ρ : Ren} {σ : AH} {W W' : World} (h : HR ρ σ W) (hb : Below W.heap.size W W') (hs : σ.next < 1000000) {u : Value} {ss : List (List UInt8)} (hne : ss ≠ []) (ho : W'.ownsRow W.heap.size 9 1 u ss.length (ss.map encStr)) :
    ∃ ρ', HR ρ' (σ.new (.cells (ss.map AV.str) 9 .more)) W' ∧ Stp σ.next ρ σ W ρ' (σ.new (.cells (ss.map AV.str) 9 .more)) W' ∧ VR ρ' (.sl σ.next 0 ss.length ss.length false 1) u := by
  have hl : 0 < ss.length := List.length_pos_iff.2 hne
  obtain ⟨_, ⟨_, h0⟩ | ⟨g, cap, cur, rfl, hg, hrow, hn, hcap, hsz, htk⟩⟩ := ho
  · omega
  have hg' : g < W'.heap.size := (Array.getElem?_eq_some_iff.1 hrow).1
  have hO : OR ρ (0, cap) (.cells (ss.map AV.str) 9 .more) W'.heap[g]? := by
    rw [hrow]
    refine OR.mk' rfl ⟨cur, 9, (0, 0), rfl, fun _ => ⟨rfl, .inl rfl, by rw [hsz, Nat.mul_one]⟩, by show (ss.map AV.str).length + 0 ≤ _; rw [List.length_map]; omega, by show (ss.map AV.str).length + 0 ≤ cap; rw [List.length_map]; omega, fun i a hi => ?_⟩
    have hil : i < ss.length := by have := (List.getElem?_eq_some_iff.1 hi).1; rwa [List.length_map] at this
    obtain ⟨v, h1, h2⟩ := (vrs_strs ρ ss).at i a hi
    refine ⟨v, ?_, h2⟩
    have e1 : (cur.toList.take (ss.length * 1))[i]? = (ss.map encStr)[i]? := by rw [htk]
    rw [List.getElem?_take, if_pos (by omega), Array.getElem?_toList] at e1
    rw [Nat.add_zero, e1]; exact h1
  obtain ⟨ρ', k1, _, k3, k4⟩ := h.adopt hb hg hg' hs hO
  refine ⟨ρ', k3, k4, ?_⟩
  unfold VR
  exact .inl ⟨g, (0, cap), 0, cap, k1, rfl, fun _ => rfl, Nat.le_refl _, hn, fun h => (by cases h), by show 0 + cap * 1 ≤ cap; omega⟩
def keysS : List (AV × AV) → Option (List (List UInt8))
  | [] => some []
  | p :: l => match p.1 with
    | .str s => match keysS l with
      | some m => some (s :: m)
      | none => none
    | _ => none
theorem keysS_spec {ρ : Ren} : ∀ {l : List (AV × AV)} {ks : List (List UInt8)} {es : List MapEntry}, keysS l = some ks → MapL ρ l es → es.map (·.key) = ks.map encStr
  | [], ks, es, h, hm => by cases h; rw [show es = [] from hm]; rfl
  | p :: l, ks, es, h, hm => by
    obtain ⟨e, m, rfl, h1, h2, h3⟩ := hm
    obtain ⟨a, b⟩ := p
    cases a <;> first | (cases h; done) | skip
    rename_i s
    simp only [keysS] at h
    cases hk : keysS l <;> rw [hk] at h
    · cases h
    rename_i m'
    cases h
    have h1 : e.key = .string ⟨s.toArray⟩ := h1
    rw [List.map_cons, List.map_cons, keysS_spec hk h3, h1]
def insS (x : List UInt8) : List (List UInt8) → List (List UInt8)
  | [] => [x]
  | y :: l => bif decide (y < x) then y :: insS x l else x :: y :: l
def sortS : List (List UInt8) → List (List UInt8)
  | [] => []
  | x :: l => insS x (sortS l)
def risS : List (List UInt8) → Bool
  | [] => true
  | x :: l => (match l with | [] => true | y :: _ => decide (x < y)) && risS l
theorem insS_perm (x : List UInt8) : ∀ l, (insS x l).Perm (x :: l)
  | [] => .refl _
  | y :: l => by
    unfold insS
    cases decide (y < x)
    · exact .refl _
    · exact (List.Perm.cons y (insS_perm x l)).trans (.swap _ _ _)
theorem sortS_perm : ∀ l, (sortS l).Perm l
  | [] => .refl _
  | x :: l => (insS_perm x _).trans (.cons x (sortS_perm l))
theorem risS_lt : ∀ {l : List (List UInt8)}, risS l = true → l.Pairwise (· < ·)
  | [], _ => .nil
  | [x], _ => List.pairwise_singleton _ _
  | x :: y :: l, h => by
    unfold risS at h
    rw [Bool.and_eq_true, decide_eq_true_eq] at h
    have ih := risS_lt h.2
    refine List.pairwise_cons.2 ⟨fun z hz => ?_, ih⟩
    rcases List.mem_cons.1 hz with rfl | hz
    · exact h.1
    · exact List.lt_trans h.1 (List.rel_of_pairwise_cons ih hz)
theorem risS_sort {l : List (List UInt8)} (h : risS (sortS l) = true) : l.Nodup ∧ l.mergeSort (fun x y => decide (x ≤ y)) = sortS l := by
  have hp := risS_lt h
  refine ⟨(sortS_perm l).nodup_iff.1 (hp.imp fun {a b} hab e => by subst e; exact List.lt_irrefl _ hab), ?_⟩
  have hle : (sortS l).Pairwise (fun a b => leB a b = true) := hp.imp fun {a b} hab => by simp only [leB, decide_eq_true_eq]; exact List.le_of_lt hab
  show l.mergeSort leB = _
  rw [mergeSort_of_perm (sortS_perm l).symm]
  exact List.mergeSort_of_pairwise hle
def shS (l : List (List UInt8)) : Bool := l.all fun s => Nat.ble s.length 1000000
def RNil (_ : Value) : Option (DataW Nat × List MemPlace) := some (.nil, [])
theorem own_of {ρ : Ren} {l : List (AV × AV)} {c : Nat} {W : World} (hM : MR ρ l W.heap[c]?) {ks : List (List UInt8)} (hk : keysS l = some ks) (hn : ks.Nodup) (hs : shS ks = true) (hl : ks.length ≤ 1000000) :
    ∃ D : DataW Nat, W.ownsMap Tryz.prog 9 RNil c ks.length D ∧ (strKeys D).Perm ks ∧ Maps.size D = ks.length := by
  obtain ⟨es, ck, hb, h1, h2, h3⟩ := hM
  have hkey := keysS_spec hk h1
  have hlen : es.size = ks.length := by have := congrArg List.length hkey; simpa using this
  have hrd : ∀ x ∈ es.toList, ∃ s, s ∈ ks ∧ x.key = encStr s ∧ Go.WideElems.rd Tryz.prog 9 RNil x = some (.string s, .nil) := fun x hx => by
    have : x.key ∈ ks.map encStr := by rw [← hkey]; exact List.mem_map_of_mem hx
    obtain ⟨s, hs1, hs2⟩ := List.mem_map.1 this
    refine ⟨s, hs1, hs2.symm, ?_⟩
    have hsl : s.length ≤ 1000000 := by have := List.all_eq_true.1 hs s hs1; rwa [Nat.ble_eq] at this
    have hko : keyOf Tryz.prog 9 (encStr s) = some (.string s) := by
      simp only [keyOf, Tryz.underlying9, mapKey, encStr]
      rw [if_pos (by show s.toArray.size ≤ maxLen; simp [maxLen]; omega)]
    exact Go.WideElems.rd_mk (yv := (.nil, [])) (by rw [← hs2]; exact hko) rfl
  have F : Go.WideElems.Fit Tryz.prog 9 RNil es ck := ⟨by rw [hlen]; simp only [maxLen]; omega, ⟨h3, Go.Proofs.YtjgmpdklfcmelaaGreatDoor.V2.nodup_born h2, by rw [hkey]; exact List.pairwise_map.2 (hn.imp fun {a b} hab e => hab (encStr_inj e))⟩, fun x hx => by obtain ⟨s, _, _, h⟩ := hrd x hx; exact ⟨_, h⟩⟩
  refine ⟨_, ⟨es, ck, hb, F, Nat.le_of_eq hlen, rfl⟩, ?_, ?_⟩
  · show (((es.toList.map (Go.WideElems.rg Tryz.prog 9 RNil)).foldr DataW.insert []).map fun p => strOf p.1).Perm ks
    refine ((WideShapes.sorted_perm _).map _).trans ?_
    have : (es.toList.map (Go.WideElems.rg Tryz.prog 9 RNil)).map (fun p => strOf p.1) = ks := by
      have e2 : ∀ x ∈ es.toList, encStr (strOf (Go.WideElems.rg Tryz.prog 9 RNil x).1) = x.key := fun x hx => by
        obtain ⟨s, _, h5, h6⟩ := hrd x hx
        rw [Go.WideElems.rg_of h6, h5]; rfl
      have e3 : ((es.toList.map (Go.WideElems.rg Tryz.prog 9 RNil)).map (fun p => strOf p.1)).map encStr = ks.map encStr := by
        rw [List.map_map, List.map_map, ← hkey]
        exact List.map_congr_left e2
      exact (List.map_inj_right fun a b h => encStr_inj h).1 e3
    rw [this]
  · show ((es.toList.map (Go.WideElems.rg Tryz.prog 9 RNil)).foldr DataW.insert []).length = _
    rw [(WideShapes.sorted_perm _).length_eq, List.length_map, Array.length_toList, hlen]
noncomputable def srtO (σ : AH) (ks : List (List UInt8)) : Out := match sortS ks with
  | [] => (true, .nilsl, σ)
  | x :: l => (risS (x :: l) && shS ks && Nat.ble ks.length 1000000 && Nat.blt σ.next 1000000, .sl σ.next 0 (x :: l).length (x :: l).length false 1, σ.new (.cells ((x :: l).map AV.str) 9 .more))
noncomputable def srtM (σ : AH) (m : Nat) : Out := match σ.get m with
  | some (.map l) => match keysS l with
    | some ks => srtO σ ks
    | none => bad σ
  | _ => bad σ
noncomputable def srtA (args : List AV) (σ : AH) : Out := match args with
  | [.fn (.func q) [] [.ptr b o]] => bif Nat.beq q 250 || Nat.beq q 319 then match (σ.get b).bind fun ob => ob.at o with
    | some (.map m) => srtM σ m
    | _ => bad σ else bad σ
  | _ => bad σ
noncomputable def srF (g : FuncId → List AV → AH → Out) (f : FuncId) (args : List AV) (σ : AH) : Out := bif Nat.beq f 185 then srtA args σ else g f args σ
theorem srtO_ok {ρ : Ren} {σ : AH} {W : World} (hr : HR ρ σ W) {l : List (AV × AV)} {c : Nat} (hM : MR ρ l W.heap[c]?) {ks : List (List UInt8)} (hk : keysS l = some ks) (h : (srtO σ ks).1 = true) {v : Value}
    (hC : ∀ (D0 : DataW Nat), W.ownsMap Tryz.prog 9 RNil c ks.length D0 → Maps.size D0 ≤ maxLen → Maps.size D0 * 16 ≤ 140737488355328 → Calls Tryz.prog 185 #[v] W fun e w' => ∃ (v : Value) (ss : List (List UInt8)), e = .returned v ∧ ss.Perm (strKeys D0) ∧
      w'.ownsRow W.heap.size 9 1 v ss.length ((ss.mergeSort (fun x y => decide (x ≤ y))).map encStr) ∧ (v = .slice none 0 0 ↔ ss = []) ∧ Below W.heap.size W w') :
    Calls Tryz.prog 185 #[v] W fun e W' => ∃ v ρ', e = .returned v ∧ HR ρ' (srtO σ ks).2.2 W' ∧ Stp σ.next ρ σ W ρ' (srtO σ ks).2.2 W' ∧ VR ρ' (srtO σ ks).2.1 v := by
  unfold srtO at h ⊢
  have hso := sortS_perm ks
  cases hS : sortS ks with
  | nil =>
    rw [hS] at hso
    have hks : ks = [] := by simpa using hso.symm.length_eq
    subst hks
    obtain ⟨D, h1, h2, h3⟩ := own_of hM hk List.nodup_nil rfl (by simp)
    refine (hC D h1 (by rw [h3]; simp) (by rw [h3]; simp)).mono ?_
    rintro e W' ⟨v, ss, rfl, g1, g2, g3, g4⟩
    have : ss = [] := by have := (g1.trans h2).length_eq; simpa using this
    refine ⟨v, ρ, rfl, hr.below g4, .below (Nat.le_refl _) g4, ?_⟩
    unfold VR
    exact g3.2 this
  | cons x t =>
    rw [hS] at h
    simp only [Bool.and_eq_true, Nat.ble_eq, Nat.blt_eq] at h
    obtain ⟨⟨⟨h1, h2⟩, h3⟩, h4⟩ := h
    rw [← hS] at h1
    obtain ⟨i1, i2⟩ := risS_sort h1
    obtain ⟨D, j1, j2, j3⟩ := own_of hM hk i1 h2 h3
    refine (hC D j1 (by rw [j3]; simp only [maxLen]; omega) (by rw [j3]; omega)).mono ?_
    rintro e W' ⟨v, ss, rfl, g1, g2, g3, g4⟩
    have e1 : ss.mergeSort (fun x y => decide (x ≤ y)) = x :: t := by
      rw [← hS, ← i2]
      exact mergeSort_of_perm (g1.trans j2)
    have e2 : ss.length = (x :: t).length := by rw [← hS, hso.length_eq, (g1.trans j2).length_eq]
    rw [e1, e2] at g2
    obtain ⟨ρ', k1, k2, k3⟩ := adopt_strs hr g4 h4 (by simp) g2
    exact ⟨v, ρ', rfl, k1, k2, k3⟩
theorem srF_ok {Y : List Yl} {g : FuncId → List AV → AH → Out} (hg : FnOk Tryz.prog 6 g Y) : FnOk Tryz.prog 6 (srF g) Y := by
  intro f args σ h
  unfold srF at h ⊢
  cases hf : Nat.beq f 185
  case false => rw [hf] at h; rw [cond_false] at h ⊢; exact hg f args σ h
  rw [hf] at h
  simp only [cond_true] at h ⊢
  have e := Nat.eq_of_beq_eq_true hf
  subst e
  refine ⟨⟨_, Tryz.func185, by kernel_rfl, by kernel_rfl⟩, fun ρ W vs _ hG hr hvs => ?_⟩
  unfold srtA at h ⊢
  split at h
  case h_2 => cases h
  rename_i q b o
  cases hq : Nat.beq q 250 || Nat.beq q 319 <;> rw [hq] at h
  · cases h
  rw [cond_true] at h ⊢
  split at h
  case h_2 => cases h
  rename_i m hm
  obtain ⟨ob, hob, hat⟩ := Option.bind_eq_some_iff.1 hm
  obtain ⟨v, mm, rfl, hv, hmm⟩ := hvs
  have hmm : mm = [] := hmm
  subst hmm
  unfold VR at hv
  obtain ⟨us, ys, rfl, hus, hys⟩ := hv
  have hus : us = [] := hus
  subst hus
  obtain ⟨y, yy, rfl, hy, hyy⟩ := hys
  have hyy : yy = [] := hyy
  subst hyy
  unfold VR at hy
  obtain ⟨c, d, hc, rfl⟩ := hy
  obtain ⟨_, hcl, ob', ho', hO⟩ := hr.dom b c d hc
  rw [hob] at ho'
  cases ho'
  have hcy : ob.cellsy = true := by cases ob <;> first | rfl | (exact absurd hat (by simp [AObj.at]))
  have hpos : 0 < ob.len := by
    cases ob <;> simp only [AObj.at] at hat
    · cases hat
    · exact Nat.lt_of_le_of_lt (Nat.zero_le _) (List.getElem?_eq_some_iff.1 hat).1
    · obtain ⟨_, h5, _⟩ := Option.map_eq_some_iff.1 hat; exact Nat.lt_of_le_of_lt (Nat.zero_le _) (List.getElem?_eq_some_iff.1 h5).1
    · cases hat
    · cases hat
  obtain ⟨cs, el, fr, hx, _, _, _, hall⟩ := (hO.1 hcy).2 fun _ => hpos
  obtain ⟨u, hu, huv⟩ := hall o _ hat
  unfold VR at huv
  obtain ⟨c2, d2, hc2, rfl⟩ := huv
  have hcell : W.cell? ⟨c, o + d.1, none⟩ = some (.map (some c2)) := by simp [World.cell?, hx, hu]
  obtain ⟨_, _, ob2, ho2, hO2⟩ := hr.dom m c2 d2 hc2
  unfold srtM at h ⊢
  split at h
  case h_2 => cases h
  rename_i l hl
  rw [hl] at ho2
  cases ho2
  cases hk : keysS l <;> simp only [hk] at h ⊢
  · cases h
  rename_i ks
  rw [Bool.or_eq_true] at hq
  rcases hq with hq | hq
  · have e := Nat.eq_of_beq_eq_true hq
    subst e
    exact srtO_ok hr (hO2.2 l rfl) hk h fun D0 h1 h2 h3 => sorted250 c (o + d.1) c2 ks.length D0 W hcl hcell h1 h2 h3
  · have e := Nat.eq_of_beq_eq_true hq
    subst e
    exact srtO_ok hr (hO2.2 l rfl) hk h fun D0 h1 h2 h3 => sorted319 c (o + d.1) c2 ks.length D0 W hcl hcell h1 h2 h3
end Go.Proofs.YtjgmpdklfcmelaaGreatDoor.V2
namespace Go.Proofs.YtjgmpdklfcmelaaGreatDoor.V2
open Go
set_option linter.unusedVariables false
noncomputable def c179 : ACode := (compC Tryz.prog 6 Tryz.f179.ntmps (fun _ => false) (Tryz.f179.body.getD .skip)).getD .bad
theorem comp179 : (V2.compC Tryz.prog 6 Tryz.f179.ntmps (fun _ => false) (Tryz.f179.body.getD .skip), V2.compR Tryz.prog Tryz.f179.results.toList) = (some c179, some [(.tmp 2)]) := by kernel_rfl
theorem body179 : Tryz.f179.body = some (Tryz.f179.body.getD .skip) := by kernel_rfl
noncomputable def c89 : ACode := (compC Tryz.prog 6 Tryz.f89.ntmps (fun _ => false) (Tryz.f89.body.getD .skip)).getD .bad
theorem comp89 : (V2.compC Tryz.prog 6 Tryz.f89.ntmps (fun _ => false) (Tryz.f89.body.getD .skip), V2.compR Tryz.prog Tryz.f89.results.toList) = (some c89, some [(.tmp 4)]) := by kernel_rfl
theorem body89 : Tryz.f89.body = some (Tryz.f89.body.getD .skip) := by kernel_rfl
noncomputable def c86 : ACode := (compC Tryz.prog 6 Tryz.f86.ntmps (fun _ => false) (Tryz.f86.body.getD .skip)).getD .bad
theorem comp86 : (V2.compC Tryz.prog 6 Tryz.f86.ntmps (fun _ => false) (Tryz.f86.body.getD .skip), V2.compR Tryz.prog Tryz.f86.results.toList) = (some c86, some [(.tmp 2)]) := by kernel_rfl
theorem body86 : Tryz.f86.body = some (Tryz.f86.body.getD .skip) := by kernel_rfl
noncomputable def c18 : ACode := (compC Tryz.prog 6 Tryz.f18.ntmps (fun _ => false) (Tryz.f18.body.getD .skip)).getD .bad
theorem comp18 : (V2.compC Tryz.prog 6 Tryz.f18.ntmps (fun _ => false) (Tryz.f18.body.getD .skip), V2.compR Tryz.prog Tryz.f18.results.toList) = (some c18, some [(.tmp 4), (.tmp 5)]) := by kernel_rfl
theorem body18 : Tryz.f18.body = some (Tryz.f18.body.getD .skip) := by kernel_rfl
noncomputable def c90 : ACode := (compC Tryz.prog 6 Tryz.f90.ntmps (fun _ => false) (Tryz.f90.body.getD .skip)).getD .bad
theorem comp90 : (V2.compC Tryz.prog 6 Tryz.f90.ntmps (fun _ => false) (Tryz.f90.body.getD .skip), V2.compR Tryz.prog Tryz.f90.results.toList) = (some c90, some [(.tmp 2)]) := by kernel_rfl
theorem body90 : Tryz.f90.body = some (Tryz.f90.body.getD .skip) := by kernel_rfl
noncomputable def c87 : ACode := (compC Tryz.prog 6 Tryz.f87.ntmps (fun _ => false) (Tryz.f87.body.getD .skip)).getD .bad
theorem comp87 : (V2.compC Tryz.prog 6 Tryz.f87.ntmps (fun _ => false) (Tryz.f87.body.getD .skip), V2.compR Tryz.prog Tryz.f87.results.toList) = (some c87, some [(.tmp 4)]) := by kernel_rfl
theorem body87 : Tryz.f87.body = some (Tryz.f87.body.getD .skip) := by kernel_rfl
noncomputable def c177 : ACode := (compC Tryz.prog 6 Tryz.f177.ntmps (fun _ => false) (Tryz.f177.body.getD .skip)).getD .bad
theorem comp177 : (V2.compC Tryz.prog 6 Tryz.f177.ntmps (fun _ => false) (Tryz.f177.body.getD .skip), V2.compR Tryz.prog Tryz.f177.results.toList) = (some c177, some [(.tmp 4)]) := by kernel_rfl
theorem body177 : Tryz.f177.body = some (Tryz.f177.body.getD .skip) := by kernel_rfl
noncomputable def c243 : ACode := (compC Tryz.prog 6 Tryz.f243.ntmps (fun _ => false) (Tryz.f243.body.getD .skip)).getD .bad
theorem comp243 : (V2.compC Tryz.prog 6 Tryz.f243.ntmps (fun _ => false) (Tryz.f243.body.getD .skip), V2.compR Tryz.prog Tryz.f243.results.toList) = (some c243, some [(.tmp 4)]) := by kernel_rfl
theorem body243 : Tryz.f243.body = some (Tryz.f243.body.getD .skip) := by kernel_rfl
noncomputable def c180 : ACode := (compC Tryz.prog 6 Tryz.f180.ntmps (fun _ => false) (Tryz.f180.body.getD .skip)).getD .bad
theorem comp180 : (V2.compC Tryz.prog 6 Tryz.f180.ntmps (fun _ => false) (Tryz.f180.body.getD .skip), V2.compR Tryz.prog Tryz.f180.results.toList) = (some c180, some [(.tmp 4)]) := by kernel_rfl
theorem body180 : Tryz.f180.body = some (Tryz.f180.body.getD .skip) := by kernel_rfl
noncomputable def c88 : ACode := (compC Tryz.prog 6 Tryz.f88.ntmps (fun _ => false) (Tryz.f88.body.getD .skip)).getD .bad
theorem comp88 : (V2.compC Tryz.prog 6 Tryz.f88.ntmps (fun _ => false) (Tryz.f88.body.getD .skip), V2.compR Tryz.prog Tryz.f88.results.toList) = (some c88, some [(.tmp 4)]) := by kernel_rfl
theorem body88 : Tryz.f88.body = some (Tryz.f88.body.getD .skip) := by kernel_rfl
noncomputable def c178 : ACode := (compC Tryz.prog 6 Tryz.f178.ntmps (fun _ => false) (Tryz.f178.body.getD .skip)).getD .bad
theorem comp178 : (V2.compC Tryz.prog 6 Tryz.f178.ntmps (fun _ => false) (Tryz.f178.body.getD .skip), V2.compR Tryz.prog Tryz.f178.results.toList) = (some c178, some [(.tmp 8)]) := by kernel_rfl
theorem body178 : Tryz.f178.body = some (Tryz.f178.body.getD .skip) := by kernel_rfl
noncomputable def c92 : ACode := (compC Tryz.prog 6 Tryz.f92.ntmps (fun _ => false) (Tryz.f92.body.getD .skip)).getD .bad
theorem comp92 : (V2.compC Tryz.prog 6 Tryz.f92.ntmps (fun _ => false) (Tryz.f92.body.getD .skip), V2.compR Tryz.prog Tryz.f92.results.toList) = (some c92, some [(.tmp 4)]) := by kernel_rfl
theorem body92 : Tryz.f92.body = some (Tryz.f92.body.getD .skip) := by kernel_rfl
noncomputable def c270 : ACode := (compC Tryz.prog 6 Tryz.f270.ntmps (fun _ => false) (Tryz.f270.body.getD .skip)).getD .bad
theorem comp270 : (V2.compC Tryz.prog 6 Tryz.f270.ntmps (fun _ => false) (Tryz.f270.body.getD .skip), V2.compR Tryz.prog Tryz.f270.results.toList) = (some c270, some [(.tmp 4)]) := by kernel_rfl
theorem body270 : Tryz.f270.body = some (Tryz.f270.body.getD .skip) := by kernel_rfl
noncomputable def c246 : ACode := (compC Tryz.prog 6 Tryz.f246.ntmps (fun _ => false) (Tryz.f246.body.getD .skip)).getD .bad
theorem comp246 : (V2.compC Tryz.prog 6 Tryz.f246.ntmps (fun _ => false) (Tryz.f246.body.getD .skip), V2.compR Tryz.prog Tryz.f246.results.toList) = (some c246, some [(.tmp 4)]) := by kernel_rfl
theorem body246 : Tryz.f246.body = some (Tryz.f246.body.getD .skip) := by kernel_rfl
noncomputable def c182 : ACode := (compC Tryz.prog 6 Tryz.f182.ntmps (fun _ => false) (Tryz.f182.body.getD .skip)).getD .bad
theorem comp182 : (V2.compC Tryz.prog 6 Tryz.f182.ntmps (fun _ => false) (Tryz.f182.body.getD .skip), V2.compR Tryz.prog Tryz.f182.results.toList) = (some c182, some [(.tmp 4)]) := by kernel_rfl
theorem body182 : Tryz.f182.body = some (Tryz.f182.body.getD .skip) := by kernel_rfl
noncomputable def c21 : ACode := (compC Tryz.prog 6 Tryz.f21.ntmps (fun _ => false) (Tryz.f21.body.getD .skip)).getD .bad
theorem comp21 : (V2.compC Tryz.prog 6 Tryz.f21.ntmps (fun _ => false) (Tryz.f21.body.getD .skip), V2.compR Tryz.prog Tryz.f21.results.toList) = (some c21, some [(.tmp 4)]) := by kernel_rfl
theorem body21 : Tryz.f21.body = some (Tryz.f21.body.getD .skip) := by kernel_rfl
noncomputable def c98 : ACode := (compC Tryz.prog 6 Tryz.f98.ntmps (fun _ => false) (Tryz.f98.body.getD .skip)).getD .bad
theorem comp98 : (V2.compC Tryz.prog 6 Tryz.f98.ntmps (fun _ => false) (Tryz.f98.body.getD .skip), V2.compR Tryz.prog Tryz.f98.results.toList) = (some c98, some []) := by kernel_rfl
theorem body98 : Tryz.f98.body = some (Tryz.f98.body.getD .skip) := by kernel_rfl
noncomputable def c93 : ACode := (compC Tryz.prog 6 Tryz.f93.ntmps (fun _ => false) (Tryz.f93.body.getD .skip)).getD .bad
theorem comp93 : (V2.compC Tryz.prog 6 Tryz.f93.ntmps (fun _ => false) (Tryz.f93.body.getD .skip), V2.compR Tryz.prog Tryz.f93.results.toList) = (some c93, some [(.tmp 4)]) := by kernel_rfl
theorem body93 : Tryz.f93.body = some (Tryz.f93.body.getD .skip) := by kernel_rfl
noncomputable def c186 : ACode := (compC Tryz.prog 6 Tryz.f186.ntmps (fun _ => false) (Tryz.f186.body.getD .skip)).getD .bad
theorem comp186 : (V2.compC Tryz.prog 6 Tryz.f186.ntmps (fun _ => false) (Tryz.f186.body.getD .skip), V2.compR Tryz.prog Tryz.f186.results.toList) = (some c186, some [(.tmp 2)]) := by kernel_rfl
theorem body186 : Tryz.f186.body = some (Tryz.f186.body.getD .skip) := by kernel_rfl
noncomputable def c183 : ACode := (compC Tryz.prog 6 Tryz.f183.ntmps (fun _ => false) (Tryz.f183.body.getD .skip)).getD .bad
theorem comp183 : (V2.compC Tryz.prog 6 Tryz.f183.ntmps (fun _ => false) (Tryz.f183.body.getD .skip), V2.compR Tryz.prog Tryz.f183.results.toList) = (some c183, some [(.cell1 2), (.cell1 3)]) := by kernel_rfl
theorem body183 : Tryz.f183.body = some (Tryz.f183.body.getD .skip) := by kernel_rfl
noncomputable def c95 : ACode := (compC Tryz.prog 6 Tryz.f95.ntmps (fun _ => false) (Tryz.f95.body.getD .skip)).getD .bad
theorem comp95 : (V2.compC Tryz.prog 6 Tryz.f95.ntmps (fun _ => false) (Tryz.f95.body.getD .skip), V2.compR Tryz.prog Tryz.f95.results.toList) = (some c95, some [(.tmp 6), (.tmp 7)]) := by kernel_rfl
theorem body95 : Tryz.f95.body = some (Tryz.f95.body.getD .skip) := by kernel_rfl
noncomputable def c20 : ACode := (compC Tryz.prog 6 Tryz.f20.ntmps (fun _ => false) (Tryz.f20.body.getD .skip)).getD .bad
theorem comp20 : (V2.compC Tryz.prog 6 Tryz.f20.ntmps (fun _ => false) (Tryz.f20.body.getD .skip), V2.compR Tryz.prog Tryz.f20.results.toList) = (some c20, some [(.tmp 8)]) := by kernel_rfl
theorem body20 : Tryz.f20.body = some (Tryz.f20.body.getD .skip) := by kernel_rfl
noncomputable def c91 : ACode := (compC Tryz.prog 6 Tryz.f91.ntmps (fun _ => false) (Tryz.f91.body.getD .skip)).getD .bad
theorem comp91 : (V2.compC Tryz.prog 6 Tryz.f91.ntmps (fun _ => false) (Tryz.f91.body.getD .skip), V2.compR Tryz.prog Tryz.f91.results.toList) = (some c91, some [(.tmp 2)]) := by kernel_rfl
theorem body91 : Tryz.f91.body = some (Tryz.f91.body.getD .skip) := by kernel_rfl
noncomputable def c244 : ACode := (compC Tryz.prog 6 Tryz.f244.ntmps (fun _ => false) (Tryz.f244.body.getD .skip)).getD .bad
theorem comp244 : (V2.compC Tryz.prog 6 Tryz.f244.ntmps (fun _ => false) (Tryz.f244.body.getD .skip), V2.compR Tryz.prog Tryz.f244.results.toList) = (some c244, some [(.tmp 4)]) := by kernel_rfl
theorem body244 : Tryz.f244.body = some (Tryz.f244.body.getD .skip) := by kernel_rfl
noncomputable def c23 : ACode := (compC Tryz.prog 6 Tryz.f23.ntmps (fun _ => false) (Tryz.f23.body.getD .skip)).getD .bad
theorem comp23 : (V2.compC Tryz.prog 6 Tryz.f23.ntmps (fun _ => false) (Tryz.f23.body.getD .skip), V2.compR Tryz.prog Tryz.f23.results.toList) = (some c23, some [(.tmp 4)]) := by kernel_rfl
theorem body23 : Tryz.f23.body = some (Tryz.f23.body.getD .skip) := by kernel_rfl
noncomputable def c181 : ACode := (compC Tryz.prog 6 Tryz.f181.ntmps (fun _ => false) (Tryz.f181.body.getD .skip)).getD .bad
theorem comp181 : (V2.compC Tryz.prog 6 Tryz.f181.ntmps (fun _ => false) (Tryz.f181.body.getD .skip), V2.compR Tryz.prog Tryz.f181.results.toList) = (some c181, some [(.tmp 4)]) := by kernel_rfl
theorem body181 : Tryz.f181.body = some (Tryz.f181.body.getD .skip) := by kernel_rfl
noncomputable def c30 : ACode := (compC Tryz.prog 6 Tryz.f30.ntmps (fun _ => false) (Tryz.f30.body.getD .skip)).getD .bad
theorem comp30 : (V2.compC Tryz.prog 6 Tryz.f30.ntmps (fun _ => false) (Tryz.f30.body.getD .skip), V2.compR Tryz.prog Tryz.f30.results.toList) = (some c30, some [(.tmp 4), (.tmp 5)]) := by kernel_rfl
theorem body30 : Tryz.f30.body = some (Tryz.f30.body.getD .skip) := by kernel_rfl
noncomputable def c29 : ACode := (compC Tryz.prog 6 Tryz.f29.ntmps (fun _ => false) (Tryz.f29.body.getD .skip)).getD .bad
theorem comp29 : (V2.compC Tryz.prog 6 Tryz.f29.ntmps (fun _ => false) (Tryz.f29.body.getD .skip), V2.compR Tryz.prog Tryz.f29.results.toList) = (some c29, some [(.tmp 4), (.tmp 5)]) := by kernel_rfl
theorem body29 : Tryz.f29.body = some (Tryz.f29.body.getD .skip) := by kernel_rfl
noncomputable def c107 : ACode := (compC Tryz.prog 6 Tryz.f107.ntmps (fun _ => false) (Tryz.f107.body.getD .skip)).getD .bad
theorem comp107 : (V2.compC Tryz.prog 6 Tryz.f107.ntmps (fun _ => false) (Tryz.f107.body.getD .skip), V2.compR Tryz.prog Tryz.f107.results.toList) = (some c107, some [(.tmp 4)]) := by kernel_rfl
theorem body107 : Tryz.f107.body = some (Tryz.f107.body.getD .skip) := by kernel_rfl
noncomputable def c22 : ACode := (compC Tryz.prog 6 Tryz.f22.ntmps (fun _ => false) (Tryz.f22.body.getD .skip)).getD .bad
theorem comp22 : (V2.compC Tryz.prog 6 Tryz.f22.ntmps (fun _ => false) (Tryz.f22.body.getD .skip), V2.compR Tryz.prog Tryz.f22.results.toList) = (some c22, some [(.tmp 4)]) := by kernel_rfl
theorem body22 : Tryz.f22.body = some (Tryz.f22.body.getD .skip) := by kernel_rfl
noncomputable def c27 : ACode := (compC Tryz.prog 6 Tryz.f27.ntmps (fun _ => false) (Tryz.f27.body.getD .skip)).getD .bad
theorem comp27 : (V2.compC Tryz.prog 6 Tryz.f27.ntmps (fun _ => false) (Tryz.f27.body.getD .skip), V2.compR Tryz.prog Tryz.f27.results.toList) = (some c27, some [(.tmp 0)]) := by kernel_rfl
theorem body27 : Tryz.f27.body = some (Tryz.f27.body.getD .skip) := by kernel_rfl
noncomputable def c106 : ACode := (compC Tryz.prog 6 Tryz.f106.ntmps (fun _ => false) (Tryz.f106.body.getD .skip)).getD .bad
theorem comp106 : (V2.compC Tryz.prog 6 Tryz.f106.ntmps (fun _ => false) (Tryz.f106.body.getD .skip), V2.compR Tryz.prog Tryz.f106.results.toList) = (some c106, some [(.tmp 2)]) := by kernel_rfl
theorem body106 : Tryz.f106.body = some (Tryz.f106.body.getD .skip) := by kernel_rfl
noncomputable def c97 : ACode := (compC Tryz.prog 6 Tryz.f97.ntmps (fun _ => false) (Tryz.f97.body.getD .skip)).getD .bad
theorem comp97 : (V2.compC Tryz.prog 6 Tryz.f97.ntmps (fun _ => false) (Tryz.f97.body.getD .skip), V2.compR Tryz.prog Tryz.f97.results.toList) = (some c97, some [(.tmp 2)]) := by kernel_rfl
theorem body97 : Tryz.f97.body = some (Tryz.f97.body.getD .skip) := by kernel_rfl
noncomputable def c32 : ACode := (compC Tryz.prog 6 Tryz.f32.ntmps (fun _ => false) (Tryz.f32.body.getD .skip)).getD .bad
theorem comp32 : (V2.compC Tryz.prog 6 Tryz.f32.ntmps (fun _ => false) (Tryz.f32.body.getD .skip), V2.compR Tryz.prog Tryz.f32.results.toList) = (some c32, some [(.tmp 2), (.tmp 3)]) := by kernel_rfl
theorem body32 : Tryz.f32.body = some (Tryz.f32.body.getD .skip) := by kernel_rfl
noncomputable def c105 : ACode := (compC Tryz.prog 6 Tryz.f105.ntmps (fun _ => false) (Tryz.f105.body.getD .skip)).getD .bad
theorem comp105 : (V2.compC Tryz.prog 6 Tryz.f105.ntmps (fun _ => false) (Tryz.f105.body.getD .skip), V2.compR Tryz.prog Tryz.f105.results.toList) = (some c105, some [(.tmp 2)]) := by kernel_rfl
theorem body105 : Tryz.f105.body = some (Tryz.f105.body.getD .skip) := by kernel_rfl
noncomputable def c25 : ACode := (compC Tryz.prog 6 Tryz.f25.ntmps (fun _ => false) (Tryz.f25.body.getD .skip)).getD .bad
theorem comp25 : (V2.compC Tryz.prog 6 Tryz.f25.ntmps (fun _ => false) (Tryz.f25.body.getD .skip), V2.compR Tryz.prog Tryz.f25.results.toList) = (some c25, some [(.tmp 2)]) := by kernel_rfl
theorem body25 : Tryz.f25.body = some (Tryz.f25.body.getD .skip) := by kernel_rfl
noncomputable def c24 : ACode := (compC Tryz.prog 6 Tryz.f24.ntmps (fun _ => false) (Tryz.f24.body.getD .skip)).getD .bad
theorem comp24 : (V2.compC Tryz.prog 6 Tryz.f24.ntmps (fun _ => false) (Tryz.f24.body.getD .skip), V2.compR Tryz.prog Tryz.f24.results.toList) = (some c24, some [(.tmp 2)]) := by kernel_rfl
theorem body24 : Tryz.f24.body = some (Tryz.f24.body.getD .skip) := by kernel_rfl
noncomputable def c96 : ACode := (compC Tryz.prog 6 Tryz.f96.ntmps (fun _ => false) (Tryz.f96.body.getD .skip)).getD .bad
theorem comp96 : (V2.compC Tryz.prog 6 Tryz.f96.ntmps (fun _ => false) (Tryz.f96.body.getD .skip), V2.compR Tryz.prog Tryz.f96.results.toList) = (some c96, some [(.tmp 2)]) := by kernel_rfl
theorem body96 : Tryz.f96.body = some (Tryz.f96.body.getD .skip) := by kernel_rfl
noncomputable def c31 : ACode := (compC Tryz.prog 6 Tryz.f31.ntmps (fun _ => false) (Tryz.f31.body.getD .skip)).getD .bad
theorem comp31 : (V2.compC Tryz.prog 6 Tryz.f31.ntmps (fun _ => false) (Tryz.f31.body.getD .skip), V2.compR Tryz.prog Tryz.f31.results.toList) = (some c31, some [(.tmp 4)]) := by kernel_rfl
theorem body31 : Tryz.f31.body = some (Tryz.f31.body.getD .skip) := by kernel_rfl
noncomputable def c108 : ACode := (compC Tryz.prog 6 Tryz.f108.ntmps (fun _ => false) (Tryz.f108.body.getD .skip)).getD .bad
theorem comp108 : (V2.compC Tryz.prog 6 Tryz.f108.ntmps (fun _ => false) (Tryz.f108.body.getD .skip), V2.compR Tryz.prog Tryz.f108.results.toList) = (some c108, some [(.tmp 4)]) := by kernel_rfl
theorem body108 : Tryz.f108.body = some (Tryz.f108.body.getD .skip) := by kernel_rfl
noncomputable def c33 : ACode := (compC Tryz.prog 6 Tryz.f33.ntmps (fun _ => false) (Tryz.f33.body.getD .skip)).getD .bad
theorem comp33 : (V2.compC Tryz.prog 6 Tryz.f33.ntmps (fun _ => false) (Tryz.f33.body.getD .skip), V2.compR Tryz.prog Tryz.f33.results.toList) = (some c33, some [(.tmp 0)]) := by kernel_rfl
theorem body33 : Tryz.f33.body = some (Tryz.f33.body.getD .skip) := by kernel_rfl
noncomputable def c26 : ACode := (compC Tryz.prog 6 Tryz.f26.ntmps (fun _ => false) (Tryz.f26.body.getD .skip)).getD .bad
theorem comp26 : (V2.compC Tryz.prog 6 Tryz.f26.ntmps (fun _ => false) (Tryz.f26.body.getD .skip), V2.compR Tryz.prog Tryz.f26.results.toList) = (some c26, some [(.tmp 2)]) := by kernel_rfl
theorem body26 : Tryz.f26.body = some (Tryz.f26.body.getD .skip) := by kernel_rfl
noncomputable def c19 : ACode := (compC Tryz.prog 6 Tryz.f19.ntmps (fun _ => false) (Tryz.f19.body.getD .skip)).getD .bad
theorem comp19 : (V2.compC Tryz.prog 6 Tryz.f19.ntmps (fun _ => false) (Tryz.f19.body.getD .skip), V2.compR Tryz.prog Tryz.f19.results.toList) = (some c19, some [(.tmp 4), (.tmp 5)]) := by kernel_rfl
theorem body19 : Tryz.f19.body = some (Tryz.f19.body.getD .skip) := by kernel_rfl
noncomputable def c4 : ACode := (.seq (.reg [⟨(.aop (.mov (.lit (.bool false)))), (some 0), none⟩]) (.seq (.reg [⟨(.aop (.mov (.lit .nilptr))), (some 1), none⟩]) (.seq (.reg [⟨(.aop (.pur (.build [.nilmap, (.str [])] []) [])), (some 33), none⟩, ⟨(.aop (.box 53 (.slot 33))), (some 34), none⟩, ⟨(.aop (.mov (.slot 34))), (some 2), none⟩]) (.seq (.reg [⟨(.aop (.mov (.slot 1))), (some 36), none⟩, ⟨(.call (.lit (.fn (.func 18) [] [])) [(.slot 36), (.lit (.str [47]))]), (some 37), none⟩, ⟨(.aop (.mov (.slot 37))), (some 35), none⟩, ⟨(.aop (.extract (.slot 35) 0)), (some 38), none⟩, ⟨(.aop (.extract (.slot 35) 1)), (some 39), none⟩, ⟨(.aop (.mov (.slot 38))), (some 3), none⟩, ⟨(.aop (.mov (.slot 39))), (some 4), none⟩]) (.seq (.reg [⟨(.aop (.mov (.slot 2))), (some 41), none⟩, ⟨(.call (.lit (.fn (.func 19) [] [])) [(.slot 41), (.lit (.str [47]))]), (some 42), none⟩, ⟨(.aop (.mov (.slot 42))), (some 40), none⟩, ⟨(.aop (.extract (.slot 40) 0)), (some 43), none⟩, ⟨(.aop (.extract (.slot 40) 1)), (some 44), none⟩, ⟨(.aop (.mov (.slot 43))), (some 5), none⟩, ⟨(.aop (.mov (.slot 44))), (some 6), none⟩]) (.seq (.seq (.reg [⟨(.aop (.mov (.slot 4))), (some 45), none⟩, ⟨(.aop (.bin .neq (.slot 45) (.lit (.int .i64 (2))))), (some 46), none⟩, ⟨(.aop (.mov (.slot 46))), (some 47), none⟩, ⟨(.aop (.mov (.slot 6))), (some 48), (some ((.slot 47), false))⟩, ⟨(.aop (.bin .neq (.slot 48) (.lit (.int .i64 (2))))), (some 49), (some ((.slot 47), false))⟩, ⟨(.aop (.pick (.slot 47) (.lit (.bool true)) (.slot 49))), (some 50), none⟩, ⟨(.aop (.mov (.slot 50))), (some 51), none⟩, ⟨(.aop (.mov (.slot 1))), (some 52), (some ((.slot 51), false))⟩, ⟨(.call (.lit (.fn (.func 20) [] [])) [(.slot 52), (.lit (.str [97])), (.lit (.str [])), (.lit (.bool false))]), (some 53), (some ((.slot 51), false))⟩, ⟨(.aop (.bin .neq (.slot 53) (.lit (.int .i64 (2))))), (some 54), (some ((.slot 51), false))⟩, ⟨(.aop (.pick (.slot 51) (.lit (.bool true)) (.slot 54))), (some 55), none⟩, ⟨(.aop (.mov (.slot 55))), (some 56), none⟩, ⟨(.aop (.mov (.slot 2))), (some 57), (some ((.slot 56), false))⟩, ⟨(.call (.lit (.fn (.func 21) [] [])) [(.slot 57), (.lit (.str [97]))]), (some 58), (some ((.slot 56), false))⟩, ⟨(.aop (.bin .neq (.slot 58) (.lit (.int .i64 (2))))), (some 59), (some ((.slot 56), false))⟩, ⟨(.aop (.pick (.slot 56) (.lit (.bool true)) (.slot 59))), (some 60), none⟩, ⟨(.aop (.mov (.slot 60))), (some 61), none⟩, ⟨(.aop (.mov (.slot 1))), (some 62), (some ((.slot 61), false))⟩, ⟨(.call (.lit (.fn (.func 22) [] [])) [(.slot 62), (.lit (.str [97]))]), (some 63), (some ((.slot 61), false))⟩, ⟨(.aop (.bin .neq (.slot 63) (.lit (.int .i64 (2))))), (some 64), (some ((.slot 61), false))⟩, ⟨(.aop (.pick (.slot 61) (.lit (.bool true)) (.slot 64))), (some 65), none⟩, ⟨(.aop (.mov (.slot 65))), (some 66), none⟩, ⟨(.aop (.mov (.slot 2))), (some 67), (some ((.slot 66), false))⟩, ⟨(.call (.lit (.fn (.func 23) [] [])) [(.slot 67), (.lit (.str [47]))]), (some 68), (some ((.slot 66), false))⟩, ⟨(.aop (.bin .neq (.slot 68) (.lit (.int .i64 (2))))), (some 69), (some ((.slot 66), false))⟩, ⟨(.aop (.pick (.slot 66) (.lit (.bool true)) (.slot 69))), (some 70), none⟩, ⟨(.aop (.mov (.slot 70))), (some 71), none⟩, ⟨(.aop (.mov (.slot 1))), (some 72), (some ((.slot 71), false))⟩, ⟨(.call (.lit (.fn (.func 24) [] [])) [(.slot 72)]), (some 73), (some ((.slot 71), false))⟩, ⟨(.aop (.bin .neq (.slot 73) (.lit (.str [])))), (some 74), (some ((.slot 71), false))⟩, ⟨(.aop (.pick (.slot 71) (.lit (.bool true)) (.slot 74))), (some 75), none⟩, ⟨(.aop (.mov (.slot 75))), (some 76), none⟩, ⟨(.aop (.mov (.slot 2))), (some 77), (some ((.slot 76), false))⟩, ⟨(.call (.lit (.fn (.func 25) [] [])) [(.slot 77)]), (some 78), (some ((.slot 76), false))⟩, ⟨(.aop (.lenSl (.slot 78))), (some 79), (some ((.slot 76), false))⟩, ⟨(.aop (.bin .neq (.slot 79) (.lit (.int .i64 (0))))), (some 80), (some ((.slot 76), false))⟩, ⟨(.aop (.pick (.slot 76) (.lit (.bool true)) (.slot 80))), (some 81), none⟩, ⟨(.aop (.mov (.slot 81))), (some 82), none⟩, ⟨(.aop (.mov (.slot 1))), (some 83), (some ((.slot 82), false))⟩, ⟨(.call (.lit (.fn (.func 26) [] [])) [(.slot 83)]), (some 84), (some ((.slot 82), false))⟩, ⟨(.aop (.pur (.eqv true .ptr) [(.slot 84), (.lit .nilptr)])), (some 85), (some ((.slot 82), false))⟩, ⟨(.aop (.pick (.slot 82) (.lit (.bool true)) (.slot 85))), (some 86), none⟩]) (.cond (.slot 86) (.seq (.reg [⟨(.aop (.mov (.lit (.bool false)))), (some 0), none⟩]) .ret) .skip)) (.seq (.reg [⟨(.call (.lit (.fn (.func 27) [] [])) []), (some 87), none⟩, ⟨(.aop (.mov (.slot 87))), (some 7), none⟩]) (.seq (.seq (.reg [⟨(.aop (.mov (.slot 7))), (some 88), none⟩, ⟨(.call (.lit (.fn (.func 21) [] [])) [(.slot 88), (.lit (.str [100]))]), (some 89), none⟩, ⟨(.aop (.bin .neq (.slot 89) (.lit (.int .i64 (0))))), (some 90), none⟩, ⟨(.aop (.mov (.slot 90))), (some 91), none⟩, ⟨(.aop (.mov (.slot 7))), (some 92), (some ((.slot 91), false))⟩, ⟨(.call (.lit (.fn (.func 20) [] [])) [(.slot 92), (.lit (.str [102])), (.lit (.str [49, 50])), (.lit (.bool false))]), (some 93), (some ((.slot 91), false))⟩, ⟨(.aop (.bin .neq (.slot 93) (.lit (.int .i64 (0))))), (some 94), (some ((.slot 91), false))⟩, ⟨(.aop (.pick (.slot 91) (.lit (.bool true)) (.slot 94))), (some 95), none⟩, ⟨(.aop (.mov (.slot 95))), (some 96), none⟩, ⟨(.aop (.mov (.slot 7))), (some 97), (some ((.slot 96), false))⟩, ⟨(.call (.lit (.fn (.func 20) [] [])) [(.slot 97), (.lit (.str [100, 47, 103])), (.lit (.str [51])), (.lit (.bool true))]), (some 98), (some ((.slot 96), false))⟩, ⟨(.aop (.bin .neq (.slot 98) (.lit (.int .i64 (0))))), (some 99), (some ((.slot 96), false))⟩, ⟨(.aop (.pick (.slot 96) (.lit (.bool true)) (.slot 99))), (some 100), none⟩, ⟨(.aop (.mov (.slot 100))), (some 101), none⟩, ⟨(.aop (.mov (.slot 7))), (some 102), (some ((.slot 101), false))⟩, ⟨(.call (.lit (.fn (.func 20) [] [])) [(.slot 102), (.lit (.str [47, 100, 47, 103])), (.lit (.str [52])), (.lit (.bool true))]), (some 103), (some ((.slot 101), false))⟩, ⟨(.aop (.bin .neq (.slot 103) (.lit (.int .i64 (0))))), (some 104), (some ((.slot 101), false))⟩, ⟨(.aop (.pick (.slot 101) (.lit (.bool true)) (.slot 104))), (some 105), none⟩, ⟨(.aop (.mov (.slot 105))), (some 106), none⟩, ⟨(.aop (.mov (.slot 7))), (some 107), (some ((.slot 106), false))⟩, ⟨(.call (.lit (.fn (.func 21) [] [])) [(.slot 107), (.lit (.str [100, 47, 101]))]), (some 108), (some ((.slot 106), false))⟩, ⟨(.aop (.bin .neq (.slot 108) (.lit (.int .i64 (0))))), (some 109), (some ((.slot 106), false))⟩, ⟨(.aop (.pick (.slot 106) (.lit (.bool true)) (.slot 109))), (some 110), none⟩, ⟨(.aop (.mov (.slot 110))), (some 111), none⟩, ⟨(.aop (.mov (.slot 7))), (some 112), (some ((.slot 111), false))⟩, ⟨(.call (.lit (.fn (.func 23) [] [])) [(.slot 112), (.lit (.str [100, 47, 101]))]), (some 113), (some ((.slot 111), false))⟩, ⟨(.aop (.bin .neq (.slot 113) (.lit (.int .i64 (0))))), (some 114), (some ((.slot 111), false))⟩, ⟨(.aop (.pick (.slot 111) (.lit (.bool true)) (.slot 114))), (some 115), none⟩]) (.cond (.slot 115) (.seq (.reg [⟨(.aop (.mov (.lit (.bool false)))), (some 0), none⟩]) .ret) .skip)) (.seq (.seq (.reg [⟨(.aop (.pur (.build [(.str []), (.int .i64 (0)), (.int .i64 (0)), (.int .i64 (0)), (.int .i64 (0))] [(0, 1), (1, 1), (2, 1), (3, 1), (4, 1)]) [(.lit (.str [])), (.lit (.int .i64 (23))), (.lit (.int .i64 (23))), (.lit (.int .i64 (23))), (.lit (.int .i64 (23)))])), (some 116), none⟩, ⟨(.call (.lit (.fn (.func 28) [] [])) [(.lit (.str [97])), (.lit (.int .i64 (257)))]), (some 117), none⟩, ⟨(.aop (.pur (.build [(.str []), (.int .i64 (0)), (.int .i64 (0)), (.int .i64 (0)), (.int .i64 (0))] [(0, 1), (1, 1), (2, 1), (3, 1), (4, 1)]) [(.slot 117), (.lit (.int .i64 (23))), (.lit (.int .i64 (23))), (.lit (.int .i64 (23))), (.lit (.int .i64 (23)))])), (some 118), none⟩, ⟨(.aop (.pur (.build [(.str []), (.int .i64 (0)), (.int .i64 (0)), (.int .i64 (0)), (.int .i64 (0))] [(0, 1), (1, 1), (2, 1), (3, 1), (4, 1)]) [(.lit (.str [97, 1])), (.lit (.int .i64 (23))), (.lit (.int .i64 (23))), (.lit (.int .i64 (23))), (.lit (.int .i64 (23)))])), (some 119), none⟩, ⟨(.call (.lit (.fn (.func 28) [] [])) [(.lit (.str [97])), (.lit (.int .i64 (33)))]), (some 120), none⟩, ⟨(.aop (.pur (.build [(.str []), (.int .i64 (0)), (.int .i64 (0)), (.int .i64 (0)), (.int .i64 (0))] [(0, 1), (1, 1), (2, 1), (3, 1), (4, 1)]) [(.slot 120), (.lit (.int .i64 (23))), (.lit (.int .i64 (23))), (.lit (.int .i64 (23))), (.lit (.int .i64 (23)))])), (some 121), none⟩, ⟨(.aop (.pur (.build [(.str []), (.int .i64 (0)), (.int .i64 (0)), (.int .i64 (0)), (.int .i64 (0))] [(0, 1), (1, 1), (2, 1), (3, 1), (4, 1)]) [(.lit (.str [120, 47, 121])), (.lit (.int .i64 (6))), (.lit (.int .i64 (6))), (.lit (.int .i64 (6))), (.lit (.int .i64 (6)))])), (some 122), none⟩, ⟨(.aop (.pur (.build [(.str []), (.int .i64 (0)), (.int .i64 (0)), (.int .i64 (0)), (.int .i64 (0))] [(0, 1), (1, 1), (2, 1), (3, 1), (4, 1)]) [(.lit (.str [120, 47, 46, 46])), (.lit (.int .i64 (6))), (.lit (.int .i64 (6))), (.lit (.int .i64 (6))), (.lit (.int .i64 (6)))])), (some 123), none⟩, ⟨(.aop (.pur (.build [(.str []), (.int .i64 (0)), (.int .i64 (0)), (.int .i64 (0)), (.int .i64 (0))] [(0, 1), (1, 1), (2, 1), (3, 1), (4, 1)]) [(.lit (.str [47, 102, 47, 120])), (.lit (.int .i64 (5))), (.lit (.int .i64 (5))), (.lit (.int .i64 (5))), (.lit (.int .i64 (5)))])), (some 124), none⟩, ⟨(.aop (.pur (.build [(.str []), (.int .i64 (0)), (.int .i64 (0)), (.int .i64 (0)), (.int .i64 (0))] [(0, 1), (1, 1), (2, 1), (3, 1), (4, 1)]) [(.lit (.str [47, 102, 47, 46, 46])), (.lit (.int .i64 (5))), (.lit (.int .i64 (5))), (.lit (.int .i64 (5))), (.lit (.int .i64 (5)))])), (some 125), none⟩, ⟨(.aop (.pur (.build [(.str []), (.int .i64 (0)), (.int .i64 (0)), (.int .i64 (0)), (.int .i64 (0))] [(0, 1), (1, 1), (2, 1), (3, 1), (4, 1)]) [(.lit (.str [47, 100])), (.lit (.int .i64 (5))), (.lit (.int .i64 (9))), (.lit (.int .i64 (5))), (.lit (.int .i64 (0)))])), (some 126), none⟩, ⟨(.aop (.pur (.build [(.str []), (.int .i64 (0)), (.int .i64 (0)), (.int .i64 (0)), (.int .i64 (0))] [(0, 1), (1, 1), (2, 1), (3, 1), (4, 1)]) [(.lit (.str [47])), (.lit (.int .i64 (5))), (.lit (.int .i64 (9))), (.lit (.int .i64 (5))), (.lit (.int .i64 (0)))])), (some 127), none⟩, ⟨(.aop (.pur (.build [(.str []), (.int .i64 (0)), (.int .i64 (0)), (.int .i64 (0)), (.int .i64 (0))] [(0, 1), (1, 1), (2, 1), (3, 1), (4, 1)]) [(.lit (.str [47, 102])), (.lit (.int .i64 (0))), (.lit (.int .i64 (9))), (.lit (.int .i64 (0))), (.lit (.int .i64 (5)))])), (some 128), none⟩, ⟨(.aop (.pur (.build [(.str []), (.int .i64 (0)), (.int .i64 (0)), (.int .i64 (0)), (.int .i64 (0))] [(0, 1), (1, 1), (2, 1), (3, 1), (4, 1)]) [(.lit (.str [46, 46, 47, 46, 46, 47, 46, 46, 47, 102, 47])), (.lit (.int .i64 (0))), (.lit (.int .i64 (9))), (.lit (.int .i64 (0))), (.lit (.int .i64 (5)))])), (some 129), none⟩, ⟨(.aop (.mk (.bslice 63 5 12) [(.slot 116), (.slot 118), (.slot 119), (.slot 121), (.slot 122), (.slot 123), (.slot 124), (.slot 125), (.slot 126), (.slot 127), (.slot 128), (.slot 129)])), (some 130), none⟩, ⟨(.aop (.lenSl (.slot 130))), (some 131), none⟩, ⟨(.aop (.mov (.lit (.int .i64 (0))))), (some 132), none⟩]) (.block 0 (.loop (.seq (.reg [⟨(.aop (.bin .lss (.slot 132) (.slot 131))), (some 133), none⟩]) (.seq (.cond (.slot 133) .skip (.exit 0)) (.seq (.block 1 (.seq (.reg [⟨(.aop (.idxSl 5 (.slot 130) (.slot 132))), (some 134), none⟩, ⟨(.aop (.loadN 5 (.slot 134))), (some 135), none⟩, ⟨(.aop (.alloc 63 [(.str []), (.int .i64 (0)), (.int .i64 (0)), (.int .i64 (0)), (.int .i64 (0))])), (some 9), none⟩, ⟨(.aop (.store 5 (.slot 9) (.slot 135))), none, none⟩]) (.seq (.reg [⟨(.aop (.mov (.slot 7))), (some 137), none⟩, ⟨(.aop (.fieldAddr 0 (.slot 9))), (some 138), none⟩, ⟨(.aop (.load1 (.slot 138))), (some 139), none⟩, ⟨(.call (.lit (.fn (.func 29) [] [])) [(.slot 137), (.slot 139)]), (some 140), none⟩, ⟨(.aop (.mov (.slot 140))), (some 136), none⟩, ⟨(.aop (.extract (.slot 136) 0)), (some 141), none⟩, ⟨(.aop (.extract (.slot 136) 1)), (some 142), none⟩, ⟨(.aop (.mov (.slot 141))), (some 10), none⟩, ⟨(.aop (.mov (.slot 142))), (some 11), none⟩]) (.seq (.reg [⟨(.aop (.mov (.slot 7))), (some 144), none⟩, ⟨(.aop (.fieldAddr 0 (.slot 9))), (some 145), none⟩, ⟨(.aop (.load1 (.slot 145))), (some 146), none⟩, ⟨(.call (.lit (.fn (.func 30) [] [])) [(.slot 144), (.slot 146)]), (some 147), none⟩, ⟨(.aop (.mov (.slot 147))), (some 143), none⟩, ⟨(.aop (.extract (.slot 143) 0)), (some 148), none⟩, ⟨(.aop (.extract (.slot 143) 1)), (some 149), none⟩, ⟨(.aop (.mov (.slot 148))), (some 12), none⟩, ⟨(.aop (.mov (.slot 149))), (some 13), none⟩]) (.seq (.regd [(0, ⟨(.aop (.mov (.slot 11))), (some 150), none⟩), (1, ⟨(.aop (.fieldAddr 3 (.slot 9))), (some 151), none⟩), (2, ⟨(.aop (.load1 (.op 1))), (some 152), none⟩), (3, ⟨(.aop (.bin .neq (.op 0) (.op 2))), (some 153), none⟩), (4, ⟨(.aop (.mov (.op 3))), (some 154), none⟩), (5, ⟨(.aop (.mov (.slot 13))), (some 155), (some ((.op 4), false))⟩), (6, ⟨(.aop (.fieldAddr 4 (.slot 9))), (some 156), (some ((.op 4), false))⟩), (7, ⟨(.aop (.load1 (.op 6))), (some 157), (some ((.op 4), false))⟩), (8, ⟨(.aop (.bin .neq (.op 5) (.op 7))), (some 158), (some ((.op 4), false))⟩), (9, ⟨(.aop (.pick (.op 4) (.lit (.bool true)) (.op 8))), (some 159), none⟩), (10, ⟨(.aop (.mov (.op 9))), (some 160), none⟩), (11, ⟨(.aop (.mov (.slot 7))), (some 161), (some ((.op 10), false))⟩), (12, ⟨(.aop (.fieldAddr 0 (.slot 9))), (some 162), (some ((.op 10), false))⟩), (13, ⟨(.aop (.load1 (.op 12))), (some 163), (some ((.op 10), false))⟩), (15, ⟨(.aop (.fieldAddr 2 (.slot 9))), (some 165), (some ((.op 10), false))⟩), (16, ⟨(.aop (.load1 (.op 15))), (some 166), (some ((.op 10), false))⟩), (14, ⟨(.call (.lit (.fn (.func 21) [] [])) [(.op 11), (.op 13)]), (some 164), (some ((.op 10), false))⟩), (17, ⟨(.aop (.bin .neq (.op 14) (.op 16))), (some 167), (some ((.op 10), false))⟩), (18, ⟨(.aop (.pick (.op 10) (.lit (.bool true)) (.op 17))), (some 168), none⟩), (19, ⟨(.aop (.mov (.op 18))), (some 169), none⟩), (20, ⟨(.aop (.mov (.slot 7))), (some 170), (some ((.op 19), false))⟩), (21, ⟨(.aop (.fieldAddr 0 (.slot 9))), (some 171), (some ((.op 19), false))⟩), (22, ⟨(.aop (.load1 (.op 21))), (some 172), (some ((.op 19), false))⟩), (24, ⟨(.aop (.fieldAddr 1 (.slot 9))), (some 174), (some ((.op 19), false))⟩), (25, ⟨(.aop (.load1 (.op 24))), (some 175), (some ((.op 19), false))⟩), (23, ⟨(.call (.lit (.fn (.func 20) [] [])) [(.op 20), (.op 22), (.lit (.str [49, 50])), (.lit (.bool false))]), (some 173), (some ((.op 19), false))⟩), (26, ⟨(.aop (.bin .neq (.op 23) (.op 25))), (some 176), (some ((.op 19), false))⟩), (27, ⟨(.aop (.pick (.op 19) (.lit (.bool true)) (.op 26))), (some 177), none⟩)] [(14, [16]), (23, [25])] [(some 150), (some 151), (some 152), (some 153), (some 154), (some 155), (some 156), (some 157), (some 158), (some 159), (some 160), (some 161), (some 162), (some 163), (some 164), (some 165), (some 166), (some 167), (some 168), (some 169), (some 170), (some 171), (some 172), (some 173), (some 174), (some 175), (some 176), (some 177)]) (.cond (.slot 177) (.seq (.reg [⟨(.aop (.mov (.lit (.bool false)))), (some 0), none⟩]) .ret) .skip)))))) (.reg [⟨(.aop (.bin .add (.slot 132) (.lit (.int .i64 (1))))), (some 178), none⟩, ⟨(.aop (.mov (.slot 178))), (some 132), none⟩]))))))) (.seq (.reg [⟨(.aop (.mov (.slot 7))), (some 180), none⟩, ⟨(.call (.lit (.fn (.func 29) [] [])) [(.slot 180), (.lit (.str [46, 46, 47, 103]))]), (some 181), none⟩, ⟨(.aop (.mov (.slot 181))), (some 179), none⟩, ⟨(.aop (.extract (.slot 179) 0)), (some 182), none⟩, ⟨(.aop (.extract (.slot 179) 1)), (some 183), none⟩, ⟨(.aop (.mov (.slot 182))), (some 14), none⟩, ⟨(.aop (.mov (.slot 183))), (some 15), none⟩]) (.seq (.reg [⟨(.aop (.mov (.slot 7))), (some 185), none⟩, ⟨(.call (.lit (.fn (.func 30) [] [])) [(.slot 185), (.lit (.str [47]))]), (some 186), none⟩, ⟨(.aop (.mov (.slot 186))), (some 184), none⟩, ⟨(.aop (.extract (.slot 184) 0)), (some 187), none⟩, ⟨(.aop (.extract (.slot 184) 1)), (some 188), none⟩, ⟨(.aop (.mov (.slot 187))), (some 16), none⟩, ⟨(.aop (.mov (.slot 188))), (some 17), none⟩]) (.seq (.reg [⟨(.aop (.mov (.slot 7))), (some 190), none⟩, ⟨(.call (.lit (.fn (.func 30) [] [])) [(.slot 190), (.lit (.str [46, 46]))]), (some 191), none⟩, ⟨(.aop (.mov (.slot 191))), (some 189), none⟩, ⟨(.aop (.extract (.slot 189) 0)), (some 192), none⟩, ⟨(.aop (.extract (.slot 189) 1)), (some 193), none⟩, ⟨(.aop (.mov (.slot 192))), (some 18), none⟩, ⟨(.aop (.mov (.slot 193))), (some 19), none⟩]) (.seq (.seq (.reg [⟨(.aop (.mov (.slot 14))), (some 194), none⟩, ⟨(.aop (.bin .neq (.slot 194) (.lit (.str [51, 52])))), (some 195), none⟩, ⟨(.aop (.mov (.slot 195))), (some 196), none⟩, ⟨(.aop (.mov (.slot 16))), (some 197), (some ((.slot 196), false))⟩, ⟨(.aop (.mk (.bslice 9 1 2) [(.lit (.str [100])), (.lit (.str [102]))])), (some 198), (some ((.slot 196), false))⟩, ⟨(.call (.lit (.fn (.func 31) [] [])) [(.slot 197), (.slot 198)]), (some 199), (some ((.slot 196), false))⟩, ⟨(.aop (.un .not (.slot 199))), (some 200), (some ((.slot 196), false))⟩, ⟨(.aop (.pick (.slot 196) (.lit (.bool true)) (.slot 200))), (some 201), none⟩, ⟨(.aop (.mov (.slot 201))), (some 202), none⟩, ⟨(.aop (.mov (.slot 18))), (some 203), (some ((.slot 202), false))⟩, ⟨(.aop (.mk (.bslice 9 1 2) [(.lit (.str [101])), (.lit (.str [103]))])), (some 204), (some ((.slot 202), false))⟩, ⟨(.call (.lit (.fn (.func 31) [] [])) [(.slot 203), (.slot 204)]), (some 205), (some ((.slot 202), false))⟩, ⟨(.aop (.un .not (.slot 205))), (some 206), (some ((.slot 202), false))⟩, ⟨(.aop (.pick (.slot 202) (.lit (.bool true)) (.slot 206))), (some 207), none⟩, ⟨(.aop (.mov (.slot 207))), (some 208), none⟩, ⟨(.aop (.mov (.slot 7))), (some 209), (some ((.slot 208), false))⟩, ⟨(.call (.lit (.fn (.func 22) [] [])) [(.slot 209), (.lit (.str [47]))]), (some 210), (some ((.slot 208), false))⟩, ⟨(.aop (.bin .neq (.slot 210) (.lit (.int .i64 (1))))), (some 211), (some ((.slot 208), false))⟩, ⟨(.aop (.pick (.slot 208) (.lit (.bool true)) (.slot 211))), (some 212), none⟩, ⟨(.aop (.mov (.slot 212))), (some 213), none⟩, ⟨(.aop (.mov (.slot 7))), (some 214), (some ((.slot 213), false))⟩, ⟨(.call (.lit (.fn (.func 22) [] [])) [(.slot 214), (.lit (.str [47, 100]))]), (some 215), (some ((.slot 213), false))⟩, ⟨(.aop (.bin .neq (.slot 215) (.lit (.int .i64 (1))))), (some 216), (some ((.slot 213), false))⟩, ⟨(.aop (.pick (.slot 213) (.lit (.bool true)) (.slot 216))), (some 217), none⟩, ⟨(.aop (.mov (.slot 217))), (some 218), none⟩, ⟨(.aop (.mov (.slot 7))), (some 219), (some ((.slot 218), false))⟩, ⟨(.call (.lit (.fn (.func 22) [] [])) [(.slot 219), (.lit (.str [46]))]), (some 220), (some ((.slot 218), false))⟩, ⟨(.aop (.bin .neq (.slot 220) (.lit (.int .i64 (1))))), (some 221), (some ((.slot 218), false))⟩, ⟨(.aop (.pick (.slot 218) (.lit (.bool true)) (.slot 221))), (some 222), none⟩, ⟨(.aop (.mov (.slot 222))), (some 223), none⟩, ⟨(.aop (.mov (.slot 7))), (some 224), (some ((.slot 223), false))⟩, ⟨(.call (.lit (.fn (.func 22) [] [])) [(.slot 224), (.lit (.str [120]))]), (some 225), (some ((.slot 223), false))⟩, ⟨(.aop (.bin .neq (.slot 225) (.lit (.int .i64 (6))))), (some 226), (some ((.slot 223), false))⟩, ⟨(.aop (.pick (.slot 223) (.lit (.bool true)) (.slot 226))), (some 227), none⟩, ⟨(.aop (.mov (.slot 227))), (some 228), none⟩, ⟨(.aop (.mov (.slot 7))), (some 229), (some ((.slot 228), false))⟩, ⟨(.call (.lit (.fn (.func 23) [] [])) [(.slot 229), (.lit (.str [47]))]), (some 230), (some ((.slot 228), false))⟩, ⟨(.aop (.bin .neq (.slot 230) (.lit (.int .i64 (0))))), (some 231), (some ((.slot 228), false))⟩, ⟨(.aop (.pick (.slot 228) (.lit (.bool true)) (.slot 231))), (some 232), none⟩, ⟨(.aop (.mov (.slot 232))), (some 233), none⟩, ⟨(.aop (.mov (.slot 7))), (some 234), (some ((.slot 233), false))⟩, ⟨(.call (.lit (.fn (.func 22) [] [])) [(.slot 234), (.lit (.str [100]))]), (some 235), (some ((.slot 233), false))⟩, ⟨(.aop (.bin .neq (.slot 235) (.lit (.int .i64 (10))))), (some 236), (some ((.slot 233), false))⟩, ⟨(.aop (.pick (.slot 233) (.lit (.bool true)) (.slot 236))), (some 237), none⟩, ⟨(.aop (.mov (.slot 237))), (some 238), none⟩, ⟨(.aop (.mov (.slot 7))), (some 239), (some ((.slot 238), false))⟩, ⟨(.call (.lit (.fn (.func 22) [] [])) [(.slot 239), (.lit (.str [100, 47, 101]))]), (some 240), (some ((.slot 238), false))⟩, ⟨(.aop (.bin .neq (.slot 240) (.lit (.int .i64 (0))))), (some 241), (some ((.slot 238), false))⟩, ⟨(.aop (.pick (.slot 238) (.lit (.bool true)) (.slot 241))), (some 242), none⟩, ⟨(.aop (.mov (.slot 242))), (some 243), none⟩, ⟨(.aop (.mov (.slot 7))), (some 244), (some ((.slot 243), false))⟩, ⟨(.call (.lit (.fn (.func 22) [] [])) [(.slot 244), (.lit (.str [100, 47, 103]))]), (some 245), (some ((.slot 243), false))⟩, ⟨(.aop (.bin .neq (.slot 245) (.lit (.int .i64 (0))))), (some 246), (some ((.slot 243), false))⟩, ⟨(.aop (.pick (.slot 243) (.lit (.bool true)) (.slot 246))), (some 247), none⟩, ⟨(.aop (.mov (.slot 247))), (some 248), none⟩, ⟨(.aop (.mov (.slot 7))), (some 249), (some ((.slot 248), false))⟩, ⟨(.call (.lit (.fn (.func 22) [] [])) [(.slot 249), (.lit (.str [100, 47]))]), (some 250), (some ((.slot 248), false))⟩, ⟨(.aop (.bin .neq (.slot 250) (.lit (.int .i64 (0))))), (some 251), (some ((.slot 248), false))⟩, ⟨(.aop (.pick (.slot 248) (.lit (.bool true)) (.slot 251))), (some 252), none⟩]) (.cond (.slot 252) (.seq (.reg [⟨(.aop (.mov (.lit (.bool false)))), (some 0), none⟩]) .ret) .skip)) (.seq (.seq (.reg [⟨(.aop (.mov (.slot 7))), (some 253), none⟩, ⟨(.call (.lit (.fn (.func 28) [] [])) [(.lit (.str [120])), (.lit (.int .i64 (8192)))]), (some 254), none⟩, ⟨(.call (.lit (.fn (.func 20) [] [])) [(.slot 253), (.lit (.str [98, 105, 103])), (.slot 254), (.lit (.bool false))]), (some 255), none⟩, ⟨(.aop (.bin .neq (.slot 255) (.lit (.int .i64 (0))))), (some 256), none⟩, ⟨(.aop (.mov (.slot 256))), (some 257), none⟩, ⟨(.aop (.mov (.slot 7))), (some 258), (some ((.slot 257), false))⟩, ⟨(.call (.lit (.fn (.func 20) [] [])) [(.slot 258), (.lit (.str [98, 105, 103])), (.lit (.str [121])), (.lit (.bool true))]), (some 259), (some ((.slot 257), false))⟩, ⟨(.aop (.bin .neq (.slot 259) (.lit (.int .i64 (3))))), (some 260), (some ((.slot 257), false))⟩, ⟨(.aop (.pick (.slot 257) (.lit (.bool true)) (.slot 260))), (some 261), none⟩, ⟨(.aop (.mov (.slot 261))), (some 262), none⟩, ⟨(.aop (.mov (.slot 7))), (some 263), (some ((.slot 262), false))⟩, ⟨(.call (.lit (.fn (.func 28) [] [])) [(.lit (.str [120])), (.lit (.int .i64 (8192)))]), (some 264), (some ((.slot 262), false))⟩, ⟨(.call (.lit (.fn (.func 20) [] [])) [(.slot 263), (.lit (.str [47, 102])), (.slot 264), (.lit (.bool false))]), (some 265), (some ((.slot 262), false))⟩, ⟨(.aop (.bin .neq (.slot 265) (.lit (.int .i64 (0))))), (some 266), (some ((.slot 262), false))⟩, ⟨(.aop (.pick (.slot 262) (.lit (.bool true)) (.slot 266))), (some 267), none⟩, ⟨(.aop (.mov (.slot 267))), (some 268), none⟩, ⟨(.aop (.mov (.slot 7))), (some 269), (some ((.slot 268), false))⟩, ⟨(.call (.lit (.fn (.func 28) [] [])) [(.lit (.str [120])), (.lit (.int .i64 (8192)))]), (some 270), (some ((.slot 268), false))⟩, ⟨(.call (.lit (.fn (.func 20) [] [])) [(.slot 269), (.lit (.str [99])), (.slot 270), (.lit (.bool false))]), (some 271), (some ((.slot 268), false))⟩, ⟨(.aop (.bin .neq (.slot 271) (.lit (.int .i64 (0))))), (some 272), (some ((.slot 268), false))⟩, ⟨(.aop (.pick (.slot 268) (.lit (.bool true)) (.slot 272))), (some 273), none⟩, ⟨(.aop (.mov (.slot 273))), (some 274), none⟩, ⟨(.aop (.mov (.slot 7))), (some 275), (some ((.slot 274), false))⟩, ⟨(.call (.lit (.fn (.func 28) [] [])) [(.lit (.str [120])), (.lit (.int .i64 (8192)))]), (some 276), (some ((.slot 274), false))⟩, ⟨(.call (.lit (.fn (.func 20) [] [])) [(.slot 275), (.lit (.str [100])), (.slot 276), (.lit (.bool false))]), (some 277), (some ((.slot 274), false))⟩, ⟨(.aop (.bin .neq (.slot 277) (.lit (.int .i64 (7))))), (some 278), (some ((.slot 274), false))⟩, ⟨(.aop (.pick (.slot 274) (.lit (.bool true)) (.slot 278))), (some 279), none⟩]) (.cond (.slot 279) (.seq (.reg [⟨(.aop (.mov (.lit (.bool false)))), (some 0), none⟩]) .ret) .skip)) (.seq (.reg [⟨(.call (.lit (.fn (.func 27) [] [])) []), (some 280), none⟩, ⟨(.aop (.mov (.slot 280))), (some 20), none⟩]) (.seq (.seq (.reg [⟨(.aop (.mov (.lit (.int .i64 (0))))), (some 281), none⟩]) (.block 2 (.loop (.seq (.reg [⟨(.aop (.bin .lss (.slot 281) (.lit (.int .i64 (128))))), (some 282), none⟩]) (.seq (.cond (.slot 282) .skip (.exit 2)) (.seq (.block 3 (.seq (.reg [⟨(.aop (.mov (.slot 281))), (some 283), none⟩, ⟨(.aop (.mov (.slot 283))), (some 21), none⟩]) (.seq (.reg [⟨(.aop (.mov (.slot 20))), (some 284), none⟩, ⟨(.aop (.mov (.slot 21))), (some 285), none⟩, ⟨(.aop (.bin .quo (.slot 285) (.lit (.int .i64 (26))))), (some 286), none⟩, ⟨(.aop (.bin .add (.lit (.int .i64 (97))) (.slot 286))), (some 287), none⟩, ⟨(.aop (.conv .u8 (.slot 287))), (some 288), none⟩, ⟨(.aop (.mov (.slot 21))), (some 289), none⟩, ⟨(.aop (.bin .rem (.slot 289) (.lit (.int .i64 (26))))), (some 290), none⟩, ⟨(.aop (.bin .add (.lit (.int .i64 (97))) (.slot 290))), (some 291), none⟩, ⟨(.aop (.conv .u8 (.slot 291))), (some 292), none⟩, ⟨(.aop (.mk (.bslice 5 1 2) [(.slot 288), (.slot 292)])), (some 293), none⟩, ⟨(.aop (.rd .sl2str [(.slot 293)])), (some 294), none⟩, ⟨(.aop (.bin .add (.lit (.str [100])) (.slot 294))), (some 295), none⟩, ⟨(.call (.lit (.fn (.func 21) [] [])) [(.slot 284), (.slot 295)]), (some 296), none⟩, ⟨(.aop (.bin .neq (.slot 296) (.lit (.int .i64 (0))))), (some 297), none⟩]) (.cond (.slot 297) (.seq (.reg [⟨(.aop (.mov (.lit (.bool false)))), (some 0), none⟩]) .ret) .skip)))) (.reg [⟨(.aop (.bin .add (.slot 281) (.lit (.int .i64 (1))))), (some 298), none⟩, ⟨(.aop (.mov (.slot 298))), (some 281), none⟩]))))))) (.seq (.reg [⟨(.call (.lit (.fn (.func 27) [] [])) []), (some 299), none⟩, ⟨(.aop (.mov (.slot 299))), (some 22), none⟩]) (.seq (.reg [⟨(.aop (.mov (.lit (.int .i64 (0))))), (some 23), none⟩]) (.seq (.seq (.reg [⟨(.aop (.mov (.lit (.int .i64 (0))))), (some 24), none⟩]) (.block 4 (.loop (.seq (.seq (.reg [⟨(.aop (.mov (.slot 24))), (some 300), none⟩, ⟨(.aop (.bin .lss (.slot 300) (.lit (.int .i64 (9))))), (some 301), none⟩, ⟨(.aop (.mov (.slot 301))), (some 302), none⟩, ⟨(.aop (.mov (.slot 23))), (some 303), (some ((.slot 302), true))⟩, ⟨(.aop (.bin .eql (.slot 303) (.lit (.int .i64 (0))))), (some 304), (some ((.slot 302), true))⟩, ⟨(.aop (.pick (.slot 302) (.slot 304) (.lit (.bool false)))), (some 305), none⟩]) (.cond (.slot 305) .skip (.exit 4))) (.seq (.block 5 (.seq (.reg [⟨(.aop (.mov (.slot 22))), (some 308), none⟩, ⟨(.call (.lit (.fn (.func 28) [] [])) [(.lit (.str [110])), (.lit (.int .i64 (31)))]), (some 309), none⟩, ⟨(.call (.lit (.fn (.func 21) [] [])) [(.slot 308), (.slot 309)]), (some 310), none⟩, ⟨(.aop (.mov (.slot 310))), (some 23), none⟩]) (.seq (.reg [⟨(.aop (.mov (.slot 23))), (some 311), none⟩, ⟨(.aop (.bin .eql (.slot 311) (.lit (.int .i64 (0))))), (some 312), none⟩, ⟨(.aop (.mov (.slot 312))), (some 313), none⟩, ⟨(.aop (.mov (.slot 22))), (some 314), (some ((.slot 313), true))⟩, ⟨(.call (.lit (.fn (.func 28) [] [])) [(.lit (.str [110])), (.lit (.int .i64 (31)))]), (some 315), (some ((.slot 313), true))⟩, ⟨(.call (.lit (.fn (.func 23) [] [])) [(.slot 314), (.slot 315)]), (some 316), (some ((.slot 313), true))⟩, ⟨(.aop (.bin .neq (.slot 316) (.lit (.int .i64 (0))))), (some 317), (some ((.slot 313), true))⟩, ⟨(.aop (.pick (.slot 313) (.slot 317) (.lit (.bool false)))), (some 318), none⟩]) (.cond (.slot 318) (.seq (.reg [⟨(.aop (.mov (.lit (.bool false)))), (some 0), none⟩]) .ret) .skip)))) (.reg [⟨(.aop (.mov (.slot 24))), (some 306), none⟩, ⟨(.aop (.bin .add (.slot 306) (.lit (.int .i64 (1))))), (some 307), none⟩, ⟨(.aop (.mov (.slot 307))), (some 24), none⟩])))))) (.seq (.reg [⟨(.call (.lit (.fn (.func 32) [] [])) [(.lit .nilsl)]), (some 320), none⟩, ⟨(.aop (.mov (.slot 320))), (some 319), none⟩, ⟨(.aop (.extract (.slot 319) 0)), (some 321), none⟩, ⟨(.aop (.extract (.slot 319) 1)), (some 322), none⟩, ⟨(.aop (.mov (.slot 321))), (some 25), none⟩, ⟨(.aop (.mov (.slot 322))), (some 26), none⟩]) (.seq (.reg [⟨(.aop (.mk (.bslice 5 1 5) [(.lit (.int .u8 (0))), (.lit (.int .u8 (1))), (.lit (.int .u8 (47))), (.lit (.int .u8 (0))), (.lit (.int .u8 (0)))])), (some 324), none⟩, ⟨(.call (.lit (.fn (.func 32) [] [])) [(.slot 324)]), (some 325), none⟩, ⟨(.aop (.mov (.slot 325))), (some 323), none⟩, ⟨(.aop (.extract (.slot 323) 0)), (some 326), none⟩, ⟨(.aop (.extract (.slot 323) 1)), (some 327), none⟩, ⟨(.aop (.mov (.slot 326))), (some 27), none⟩, ⟨(.aop (.mov (.slot 327))), (some 28), none⟩]) (.seq (.reg [⟨(.aop (.mk (.bslice 5 1 6) [(.lit (.int .u8 (0))), (.lit (.int .u8 (1))), (.lit (.int .u8 (47))), (.lit (.int .u8 (0))), (.lit (.int .u8 (0))), (.lit (.int .u8 (0)))])), (some 329), none⟩, ⟨(.call (.lit (.fn (.func 32) [] [])) [(.slot 329)]), (some 330), none⟩, ⟨(.aop (.mov (.slot 330))), (some 328), none⟩, ⟨(.aop (.extract (.slot 328) 0)), (some 331), none⟩, ⟨(.aop (.extract (.slot 328) 1)), (some 332), none⟩, ⟨(.aop (.mov (.slot 331))), (some 29), none⟩, ⟨(.aop (.mov (.slot 332))), (some 30), none⟩]) (.seq (.reg [⟨(.aop (.mk (.bslice 5 1 5) [(.lit (.int .u8 (0))), (.lit (.int .u8 (1))), (.lit (.int .u8 (120))), (.lit (.int .u8 (0))), (.lit (.int .u8 (0)))])), (some 334), none⟩, ⟨(.call (.lit (.fn (.func 32) [] [])) [(.slot 334)]), (some 335), none⟩, ⟨(.aop (.mov (.slot 335))), (some 333), none⟩, ⟨(.aop (.extract (.slot 333) 0)), (some 336), none⟩, ⟨(.aop (.extract (.slot 333) 1)), (some 337), none⟩, ⟨(.aop (.mov (.slot 336))), (some 31), none⟩, ⟨(.aop (.mov (.slot 337))), (some 32), none⟩]) (.seq (.reg [⟨(.aop (.mov (.slot 20))), (some 338), none⟩, ⟨(.call (.lit (.fn (.func 21) [] [])) [(.slot 338), (.lit (.str [109, 111, 114, 101]))]), (some 339), none⟩, ⟨(.aop (.bin .eql (.slot 339) (.lit (.int .i64 (7))))), (some 340), none⟩, ⟨(.aop (.mov (.slot 340))), (some 341), none⟩, ⟨(.aop (.mov (.slot 20))), (some 342), (some ((.slot 341), true))⟩, ⟨(.call (.lit (.fn (.func 20) [] [])) [(.slot 342), (.lit (.str [109, 111, 114, 101])), (.lit (.str [])), (.lit (.bool false))]), (some 343), (some ((.slot 341), true))⟩, ⟨(.aop (.bin .eql (.slot 343) (.lit (.int .i64 (7))))), (some 344), (some ((.slot 341), true))⟩, ⟨(.aop (.pick (.slot 341) (.slot 344) (.lit (.bool false)))), (some 345), none⟩, ⟨(.aop (.mov (.slot 345))), (some 346), none⟩, ⟨(.aop (.mov (.slot 23))), (some 347), (some ((.slot 346), true))⟩, ⟨(.aop (.bin .eql (.slot 347) (.lit (.int .i64 (3))))), (some 348), (some ((.slot 346), true))⟩, ⟨(.aop (.pick (.slot 346) (.slot 348) (.lit (.bool false)))), (some 349), none⟩, ⟨(.aop (.mov (.slot 349))), (some 350), none⟩, ⟨(.aop (.mov (.slot 22))), (some 351), (some ((.slot 350), true))⟩, ⟨(.call (.lit (.fn (.func 24) [] [])) [(.slot 351)]), (some 352), (some ((.slot 350), true))⟩, ⟨(.aop (.lenStr (.slot 352))), (some 353), (some ((.slot 350), true))⟩, ⟨(.aop (.bin .eql (.slot 353) (.lit (.int .i64 (256))))), (some 354), (some ((.slot 350), true))⟩, ⟨(.aop (.pick (.slot 350) (.slot 354) (.lit (.bool false)))), (some 355), none⟩, ⟨(.aop (.mov (.slot 355))), (some 356), none⟩, ⟨(.aop (.mov (.slot 26))), (some 357), (some ((.slot 356), true))⟩, ⟨(.aop (.bin .eql (.slot 357) (.lit (.int .i64 (4))))), (some 358), (some ((.slot 356), true))⟩, ⟨(.aop (.pick (.slot 356) (.slot 358) (.lit (.bool false)))), (some 359), none⟩, ⟨(.aop (.mov (.slot 359))), (some 360), none⟩, ⟨(.aop (.mov (.slot 28))), (some 361), (some ((.slot 360), true))⟩, ⟨(.aop (.bin .eql (.slot 361) (.lit (.int .i64 (0))))), (some 362), (some ((.slot 360), true))⟩, ⟨(.aop (.pick (.slot 360) (.slot 362) (.lit (.bool false)))), (some 363), none⟩, ⟨(.aop (.mov (.slot 363))), (some 364), none⟩, ⟨(.aop (.mov (.slot 30))), (some 365), (some ((.slot 364), true))⟩, ⟨(.aop (.bin .eql (.slot 365) (.lit (.int .i64 (5))))), (some 366), (some ((.slot 364), true))⟩, ⟨(.aop (.pick (.slot 364) (.slot 366) (.lit (.bool false)))), (some 367), none⟩, ⟨(.aop (.mov (.slot 367))), (some 368), none⟩, ⟨(.aop (.mov (.slot 32))), (some 369), (some ((.slot 368), true))⟩, ⟨(.aop (.bin .eql (.slot 369) (.lit (.int .i64 (5))))), (some 370), (some ((.slot 368), true))⟩, ⟨(.aop (.pick (.slot 368) (.slot 370) (.lit (.bool false)))), (some 371), none⟩, ⟨(.aop (.mov (.slot 371))), (some 372), none⟩, ⟨(.call (.lit (.fn (.func 33) [] [])) []), (some 373), (some ((.slot 372), true))⟩, ⟨(.aop (.pick (.slot 372) (.slot 373) (.lit (.bool false)))), (some 374), none⟩, ⟨(.aop (.mov (.slot 374))), (some 0), none⟩]) .ret))))))))))))))))))))))))
theorem comp4 : (V2.compC Tryz.prog 6 Tryz.f4.ntmps (fun _ => false) (Tryz.f4.body.getD .skip), V2.compR Tryz.prog Tryz.f4.results.toList) = (some c4, some [(.tmp 0)]) := by kernel_rfl
theorem body4 : Tryz.f4.body = some (Tryz.f4.body.getD .skip) := by kernel_rfl
end Go.Proofs.YtjgmpdklfcmelaaGreatDoor.V2
namespace Go.Proofs.YtjgmpdklfcmelaaGreatDoor.V2
open Go
set_option linter.unusedVariables false
attribute [local irreducible] c179 c89 c86 c18 c90 c87 c177 c243 c180 c88 c178 c92 c270 c246 c182 c21 c98 c93 c186 c183 c95 c20 c91 c244 c23 c181 c30 c29 c107 c22 c27 c106 c97 c32 c105 c25 c24 c96 c31 c108 c33 c26 c19
noncomputable def en179 : Ent := ⟨Tryz.f179.ntmps, c179, [(.tmp 2)]⟩
theorem eok179 : EntOk (179, en179) := ⟨_, _, Tryz.func179, body179, by kernel_rfl, rfl, (Prod.mk.inj comp179).1, (Prod.mk.inj comp179).2, by kernel_rfl⟩
noncomputable def en89 : Ent := ⟨Tryz.f89.ntmps, c89, [(.tmp 4)]⟩
theorem eok89 : EntOk (89, en89) := ⟨_, _, Tryz.func89, body89, by kernel_rfl, rfl, (Prod.mk.inj comp89).1, (Prod.mk.inj comp89).2, by kernel_rfl⟩
noncomputable def en86 : Ent := ⟨Tryz.f86.ntmps, c86, [(.tmp 2)]⟩
theorem eok86 : EntOk (86, en86) := ⟨_, _, Tryz.func86, body86, by kernel_rfl, rfl, (Prod.mk.inj comp86).1, (Prod.mk.inj comp86).2, by kernel_rfl⟩
noncomputable def en18 : Ent := ⟨Tryz.f18.ntmps, c18, [(.tmp 4), (.tmp 5)]⟩
theorem eok18 : EntOk (18, en18) := ⟨_, _, Tryz.func18, body18, by kernel_rfl, rfl, (Prod.mk.inj comp18).1, (Prod.mk.inj comp18).2, by kernel_rfl⟩
noncomputable def en90 : Ent := ⟨Tryz.f90.ntmps, c90, [(.tmp 2)]⟩
theorem eok90 : EntOk (90, en90) := ⟨_, _, Tryz.func90, body90, by kernel_rfl, rfl, (Prod.mk.inj comp90).1, (Prod.mk.inj comp90).2, by kernel_rfl⟩
noncomputable def en87 : Ent := ⟨Tryz.f87.ntmps, c87, [(.tmp 4)]⟩
theorem eok87 : EntOk (87, en87) := ⟨_, _, Tryz.func87, body87, by kernel_rfl, rfl, (Prod.mk.inj comp87).1, (Prod.mk.inj comp87).2, by kernel_rfl⟩
noncomputable def en177 : Ent := ⟨Tryz.f177.ntmps, c177, [(.tmp 4)]⟩
theorem eok177 : EntOk (177, en177) := ⟨_, _, Tryz.func177, body177, by kernel_rfl, rfl, (Prod.mk.inj comp177).1, (Prod.mk.inj comp177).2, by kernel_rfl⟩
noncomputable def en243 : Ent := ⟨Tryz.f243.ntmps, c243, [(.tmp 4)]⟩
theorem eok243 : EntOk (243, en243) := ⟨_, _, Tryz.func243, body243, by kernel_rfl, rfl, (Prod.mk.inj comp243).1, (Prod.mk.inj comp243).2, by kernel_rfl⟩
noncomputable def en180 : Ent := ⟨Tryz.f180.ntmps, c180, [(.tmp 4)]⟩
theorem eok180 : EntOk (180, en180) := ⟨_, _, Tryz.func180, body180, by kernel_rfl, rfl, (Prod.mk.inj comp180).1, (Prod.mk.inj comp180).2, by kernel_rfl⟩
noncomputable def en88 : Ent := ⟨Tryz.f88.ntmps, c88, [(.tmp 4)]⟩
theorem eok88 : EntOk (88, en88) := ⟨_, _, Tryz.func88, body88, by kernel_rfl, rfl, (Prod.mk.inj comp88).1, (Prod.mk.inj comp88).2, by kernel_rfl⟩
noncomputable def en178 : Ent := ⟨Tryz.f178.ntmps, c178, [(.tmp 8)]⟩
theorem eok178 : EntOk (178, en178) := ⟨_, _, Tryz.func178, body178, by kernel_rfl, rfl, (Prod.mk.inj comp178).1, (Prod.mk.inj comp178).2, by kernel_rfl⟩
noncomputable def en92 : Ent := ⟨Tryz.f92.ntmps, c92, [(.tmp 4)]⟩
theorem eok92 : EntOk (92, en92) := ⟨_, _, Tryz.func92, body92, by kernel_rfl, rfl, (Prod.mk.inj comp92).1, (Prod.mk.inj comp92).2, by kernel_rfl⟩
noncomputable def en270 : Ent := ⟨Tryz.f270.ntmps, c270, [(.tmp 4)]⟩
theorem eok270 : EntOk (270, en270) := ⟨_, _, Tryz.func270, body270, by kernel_rfl, rfl, (Prod.mk.inj comp270).1, (Prod.mk.inj comp270).2, by kernel_rfl⟩
noncomputable def en246 : Ent := ⟨Tryz.f246.ntmps, c246, [(.tmp 4)]⟩
theorem eok246 : EntOk (246, en246) := ⟨_, _, Tryz.func246, body246, by kernel_rfl, rfl, (Prod.mk.inj comp246).1, (Prod.mk.inj comp246).2, by kernel_rfl⟩
noncomputable def en182 : Ent := ⟨Tryz.f182.ntmps, c182, [(.tmp 4)]⟩
theorem eok182 : EntOk (182, en182) := ⟨_, _, Tryz.func182, body182, by kernel_rfl, rfl, (Prod.mk.inj comp182).1, (Prod.mk.inj comp182).2, by kernel_rfl⟩
noncomputable def en21 : Ent := ⟨Tryz.f21.ntmps, c21, [(.tmp 4)]⟩
theorem eok21 : EntOk (21, en21) := ⟨_, _, Tryz.func21, body21, by kernel_rfl, rfl, (Prod.mk.inj comp21).1, (Prod.mk.inj comp21).2, by kernel_rfl⟩
noncomputable def en98 : Ent := ⟨Tryz.f98.ntmps, c98, []⟩
theorem eok98 : EntOk (98, en98) := ⟨_, _, Tryz.func98, body98, by kernel_rfl, rfl, (Prod.mk.inj comp98).1, (Prod.mk.inj comp98).2, by kernel_rfl⟩
noncomputable def en93 : Ent := ⟨Tryz.f93.ntmps, c93, [(.tmp 4)]⟩
theorem eok93 : EntOk (93, en93) := ⟨_, _, Tryz.func93, body93, by kernel_rfl, rfl, (Prod.mk.inj comp93).1, (Prod.mk.inj comp93).2, by kernel_rfl⟩
noncomputable def en186 : Ent := ⟨Tryz.f186.ntmps, c186, [(.tmp 2)]⟩
theorem eok186 : EntOk (186, en186) := ⟨_, _, Tryz.func186, body186, by kernel_rfl, rfl, (Prod.mk.inj comp186).1, (Prod.mk.inj comp186).2, by kernel_rfl⟩
noncomputable def en183 : Ent := ⟨Tryz.f183.ntmps, c183, [(.cell1 2), (.cell1 3)]⟩
theorem eok183 : EntOk (183, en183) := ⟨_, _, Tryz.func183, body183, by kernel_rfl, rfl, (Prod.mk.inj comp183).1, (Prod.mk.inj comp183).2, by kernel_rfl⟩
noncomputable def en95 : Ent := ⟨Tryz.f95.ntmps, c95, [(.tmp 6), (.tmp 7)]⟩
theorem eok95 : EntOk (95, en95) := ⟨_, _, Tryz.func95, body95, by kernel_rfl, rfl, (Prod.mk.inj comp95).1, (Prod.mk.inj comp95).2, by kernel_rfl⟩
noncomputable def en20 : Ent := ⟨Tryz.f20.ntmps, c20, [(.tmp 8)]⟩
theorem eok20 : EntOk (20, en20) := ⟨_, _, Tryz.func20, body20, by kernel_rfl, rfl, (Prod.mk.inj comp20).1, (Prod.mk.inj comp20).2, by kernel_rfl⟩
noncomputable def en91 : Ent := ⟨Tryz.f91.ntmps, c91, [(.tmp 2)]⟩
theorem eok91 : EntOk (91, en91) := ⟨_, _, Tryz.func91, body91, by kernel_rfl, rfl, (Prod.mk.inj comp91).1, (Prod.mk.inj comp91).2, by kernel_rfl⟩
noncomputable def en244 : Ent := ⟨Tryz.f244.ntmps, c244, [(.tmp 4)]⟩
theorem eok244 : EntOk (244, en244) := ⟨_, _, Tryz.func244, body244, by kernel_rfl, rfl, (Prod.mk.inj comp244).1, (Prod.mk.inj comp244).2, by kernel_rfl⟩
noncomputable def en23 : Ent := ⟨Tryz.f23.ntmps, c23, [(.tmp 4)]⟩
theorem eok23 : EntOk (23, en23) := ⟨_, _, Tryz.func23, body23, by kernel_rfl, rfl, (Prod.mk.inj comp23).1, (Prod.mk.inj comp23).2, by kernel_rfl⟩
noncomputable def en181 : Ent := ⟨Tryz.f181.ntmps, c181, [(.tmp 4)]⟩
theorem eok181 : EntOk (181, en181) := ⟨_, _, Tryz.func181, body181, by kernel_rfl, rfl, (Prod.mk.inj comp181).1, (Prod.mk.inj comp181).2, by kernel_rfl⟩
noncomputable def en30 : Ent := ⟨Tryz.f30.ntmps, c30, [(.tmp 4), (.tmp 5)]⟩
theorem eok30 : EntOk (30, en30) := ⟨_, _, Tryz.func30, body30, by kernel_rfl, rfl, (Prod.mk.inj comp30).1, (Prod.mk.inj comp30).2, by kernel_rfl⟩
noncomputable def en29 : Ent := ⟨Tryz.f29.ntmps, c29, [(.tmp 4), (.tmp 5)]⟩
theorem eok29 : EntOk (29, en29) := ⟨_, _, Tryz.func29, body29, by kernel_rfl, rfl, (Prod.mk.inj comp29).1, (Prod.mk.inj comp29).2, by kernel_rfl⟩
noncomputable def en107 : Ent := ⟨Tryz.f107.ntmps, c107, [(.tmp 4)]⟩
theorem eok107 : EntOk (107, en107) := ⟨_, _, Tryz.func107, body107, by kernel_rfl, rfl, (Prod.mk.inj comp107).1, (Prod.mk.inj comp107).2, by kernel_rfl⟩
noncomputable def en22 : Ent := ⟨Tryz.f22.ntmps, c22, [(.tmp 4)]⟩
theorem eok22 : EntOk (22, en22) := ⟨_, _, Tryz.func22, body22, by kernel_rfl, rfl, (Prod.mk.inj comp22).1, (Prod.mk.inj comp22).2, by kernel_rfl⟩
noncomputable def en27 : Ent := ⟨Tryz.f27.ntmps, c27, [(.tmp 0)]⟩
theorem eok27 : EntOk (27, en27) := ⟨_, _, Tryz.func27, body27, by kernel_rfl, rfl, (Prod.mk.inj comp27).1, (Prod.mk.inj comp27).2, by kernel_rfl⟩
noncomputable def en106 : Ent := ⟨Tryz.f106.ntmps, c106, [(.tmp 2)]⟩
theorem eok106 : EntOk (106, en106) := ⟨_, _, Tryz.func106, body106, by kernel_rfl, rfl, (Prod.mk.inj comp106).1, (Prod.mk.inj comp106).2, by kernel_rfl⟩
noncomputable def en97 : Ent := ⟨Tryz.f97.ntmps, c97, [(.tmp 2)]⟩
theorem eok97 : EntOk (97, en97) := ⟨_, _, Tryz.func97, body97, by kernel_rfl, rfl, (Prod.mk.inj comp97).1, (Prod.mk.inj comp97).2, by kernel_rfl⟩
noncomputable def en32 : Ent := ⟨Tryz.f32.ntmps, c32, [(.tmp 2), (.tmp 3)]⟩
theorem eok32 : EntOk (32, en32) := ⟨_, _, Tryz.func32, body32, by kernel_rfl, rfl, (Prod.mk.inj comp32).1, (Prod.mk.inj comp32).2, by kernel_rfl⟩
noncomputable def en105 : Ent := ⟨Tryz.f105.ntmps, c105, [(.tmp 2)]⟩
theorem eok105 : EntOk (105, en105) := ⟨_, _, Tryz.func105, body105, by kernel_rfl, rfl, (Prod.mk.inj comp105).1, (Prod.mk.inj comp105).2, by kernel_rfl⟩
noncomputable def en25 : Ent := ⟨Tryz.f25.ntmps, c25, [(.tmp 2)]⟩
theorem eok25 : EntOk (25, en25) := ⟨_, _, Tryz.func25, body25, by kernel_rfl, rfl, (Prod.mk.inj comp25).1, (Prod.mk.inj comp25).2, by kernel_rfl⟩
noncomputable def en24 : Ent := ⟨Tryz.f24.ntmps, c24, [(.tmp 2)]⟩
theorem eok24 : EntOk (24, en24) := ⟨_, _, Tryz.func24, body24, by kernel_rfl, rfl, (Prod.mk.inj comp24).1, (Prod.mk.inj comp24).2, by kernel_rfl⟩
noncomputable def en96 : Ent := ⟨Tryz.f96.ntmps, c96, [(.tmp 2)]⟩
theorem eok96 : EntOk (96, en96) := ⟨_, _, Tryz.func96, body96, by kernel_rfl, rfl, (Prod.mk.inj comp96).1, (Prod.mk.inj comp96).2, by kernel_rfl⟩
noncomputable def en31 : Ent := ⟨Tryz.f31.ntmps, c31, [(.tmp 4)]⟩
theorem eok31 : EntOk (31, en31) := ⟨_, _, Tryz.func31, body31, by kernel_rfl, rfl, (Prod.mk.inj comp31).1, (Prod.mk.inj comp31).2, by kernel_rfl⟩
noncomputable def en108 : Ent := ⟨Tryz.f108.ntmps, c108, [(.tmp 4)]⟩
theorem eok108 : EntOk (108, en108) := ⟨_, _, Tryz.func108, body108, by kernel_rfl, rfl, (Prod.mk.inj comp108).1, (Prod.mk.inj comp108).2, by kernel_rfl⟩
noncomputable def en33 : Ent := ⟨Tryz.f33.ntmps, c33, [(.tmp 0)]⟩
theorem eok33 : EntOk (33, en33) := ⟨_, _, Tryz.func33, body33, by kernel_rfl, rfl, (Prod.mk.inj comp33).1, (Prod.mk.inj comp33).2, by kernel_rfl⟩
noncomputable def en26 : Ent := ⟨Tryz.f26.ntmps, c26, [(.tmp 2)]⟩
theorem eok26 : EntOk (26, en26) := ⟨_, _, Tryz.func26, body26, by kernel_rfl, rfl, (Prod.mk.inj comp26).1, (Prod.mk.inj comp26).2, by kernel_rfl⟩
noncomputable def en19 : Ent := ⟨Tryz.f19.ntmps, c19, [(.tmp 4), (.tmp 5)]⟩
theorem eok19 : EntOk (19, en19) := ⟨_, _, Tryz.func19, body19, by kernel_rfl, rfl, (Prod.mk.inj comp19).1, (Prod.mk.inj comp19).2, by kernel_rfl⟩
end Go.Proofs.YtjgmpdklfcmelaaGreatDoor.V2
namespace Go.Proofs.YtjgmpdklfcmelaaGreatDoor.V2
open Go
set_option linter.unusedVariables false
noncomputable section
def vC (r : Rd) : Rs := v1 r
def q179 : Phi → HF := fnQ (aLet fun v1 => (aEnd (cWr X2 (.b false) (cLet (o2 bLss (rdV v1) (rdV (.n .u8 32))) fun v2 => (cLet (oG false (rdV v2) (oV (rdV v1))) fun v3 => (cLet (oG false (rdV v2) (o2 bEql (rdV v3) (rdV (.n .u8 127)))) fun v4 => (cLet (o3 pkF (rdV v2) (rdV (.b true)) (rdV v4)) fun v5 => (cLet (oG false (rdV v5) (oV (rdV v1))) fun v6 => (cLet (oG false (rdV v5) (o2 bEql (rdV v6) (rdV (.n .u8 47)))) fun v7 => (cLet (o3 pkF (rdV v5) (rdV (.b true)) (rdV v7)) fun v8 => (cWr X2 v8 cRet))))))))) [vT R2]))
theorem q179_eq : thrF 1000000 (drOf 13 [2]) 1 en179 = q179 := by kernel_rfl
def q89 : Phi → HF := fnQ (aLet fun v1 => (aLet fun v2 => (aEnd (cWr X4 (.n .i64 0) (cLet (o1 ncF (rdV v1)) fun v3 => (cLet (o1 (faF 0) (rdV v3)) fun v4 => (cLet (m1 ldF (rdV v4)) fun v5 => (cLet (n2 (lkG true [.str] true (.agg [.s 1, .b false, .s 1])) (rdV v5) (rdV v2)) fun v6 => (cLet (o1 (exG 0) (rdV v6)) fun v7 => (cLet (o1 (exG 1) (rdV v6)) fun v8 => (cLet (n0 (.cells [.s 1, .b false, .s 1] 162 .exact)) fun v9 => (cDo (n2 (stF 3) (rdV v9) (rdV v7)) (cSeq (cBlk 0 (cLet (o2 bEql (rdV v2) (rdV (.s 303))) fun v10 => (cLet (oG false (rdV v10) (oV (rdV v8))) fun v11 => (cLet (oG false (rdV v10) (oV (rdV v11))) fun v12 => (cLet (oG true (rdV v12) (o1 (faF 1) (rdV v9))) fun v13 => (cLet (oG true (rdV v12) (m1 ldF (rdV v13))) fun v14 => (cLet (oG false (rdV v10) (o3 pkF (rdV v12) (rdV v14) (rdV (.b false)))) fun v15 => (cLet (o3 pkF (rdV v10) (rdV (.b true)) (rdV v15)) fun v16 => (cSeq (cCond (rdV v16) (cWr X4 (.n .i64 1) cRet) (cSeq (cCond (rdV v8) (cWr X4 (.n .i64 2) cRet) cSkip) cSkip)) cSkip))))))))) (cWr X4 (.n .i64 0) cRet))))))))))) [vT R4])))
theorem q89_eq : thrF 1000000 (drOf 28 [4]) 2 en89 = q89 := by kernel_rfl
def q86 : Phi → HF := fnQ (aLet fun v1 => (aEnd (cWr X2 (.b false) (cLet (o2 (eqQ1 false .ptr) (rdV v1) (rdV (.o .ptr))) fun v2 => (cLet (oG false (rdV v2) (oV (rdV v1))) fun v3 => (cLet (oG false (rdV v2) (o1 ncF (rdV v3))) fun v4 => (cLet (oG false (rdV v2) (o1 (faF 0) (rdV v4))) fun v5 => (cLet (oG false (rdV v2) (m1 ldF (rdV v5))) fun v6 => (cLet (oG false (rdV v2) (o2 (eqQ1 false .map) (rdV v6) (rdV (.o .map)))) fun v7 => (cLet (o3 pkF (rdV v2) (rdV (.b true)) (rdV v7)) fun v8 => (cWr X2 v8 cRet))))))))) [vT R2]))
theorem q86_eq : thrF 1000000 (drOf 12 [2]) 1 en86 = q86 := by kernel_rfl
def q18 : Phi → HF := fnQ (aLet fun v1 => (aLet fun v2 => (aEnd (cWr X4 (.s 1) (cWr X5 (.n .i64 0) (cSeq (cBlk 0 (cLet (oCallS 86 [(rdV v1)]) fun v3 => (cSeq (cCond (rdV v3) (cWr X4 (.s 1) (cWr X5 (.n .i64 2) cRet)) (cLet (o2 bEql (rdV v2) (rdV (.s 1))) fun v4 => (cLet (oG false (rdV v4) (oV (rdV v2))) fun v5 => (cLet (oG false (rdV v4) (o1 lsF (rdV v5))) fun v6 => (cLet (oG false (rdV v4) (o2 bGtr (rdV v6) (rdV (.n .i64 256)))) fun v7 => (cLet (o3 pkF (rdV v4) (rdV (.b true)) (rdV v7)) fun v8 => (cSeq (cCond (rdV v8) (cWr X4 (.s 1) (cWr X5 (.n .i64 23) cRet)) cSkip) cSkip))))))) cSkip))) (cLet (o1 ncF (rdV v1)) fun v9 => (cLet (o1 (faF 1) (rdV v9)) fun v10 => (cLet (m1 ldF (rdV v10)) fun v11 => (cWr X6 v11 (cLet (oCallS 87 [(rdV v2), (rdV (.s 303))]) fun v12 => (cSeq (cCond (rdV v12) (cWr X6 (.s 303) cSkip) cSkip) (cLet (oCallS 88 [(rdV v2), (rdV (.s 303))]) fun v13 => (cLet (o1 lvF (rdV v13)) fun v14 => (cWr X30 (.n .i64 0) (cSeq (cBlk 1 (cLoop 1000000 (cLet (o2 bLss R30 (rdV v14)) fun v15 => (cSeq (cCond (rdV v15) cSkip (cExit 1)) (cSeq (cBlk 2 (cLet (o2 (isF 1) (rdV v13) R30) fun v16 => (cLet (m1 ldF (rdV v16)) fun v17 => (cLet (oV R6) fun v18 => (cLet (oCallS 89 [(rdV v1), (rdV v18)]) fun v19 => (cSeq (cBlk 3 (cLet (o2 bEql (rdV v17) (rdV (.s 1))) fun v20 => (cLet (oG false (rdV v20) (oV (rdV v17))) fun v21 => (cLet (oG false (rdV v20) (o2 bEql (rdV v21) (rdV (.s 302)))) fun v22 => (cLet (o3 pkF (rdV v20) (rdV (.b true)) (rdV v22)) fun v23 => (cSeq (cCond (rdV v23) (cExit 2) (cLet (o2 bNeq (rdV v17) (rdV (.s 77358))) fun v24 => (cLet (oG true (rdV v24) (oV (rdV v17))) fun v25 => (cLet (oG true (rdV v24) (oCallS 90 [(rdV v25)])) fun v26 => (cLet (oG true (rdV v24) (o1 notF (rdV v26))) fun v27 => (cLet (o3 pkF (rdV v24) (rdV v27) (rdV (.b false))) fun v28 => (cSeq (cCond (rdV v28) (cWr X4 (.s 1) (cWr X5 (.n .i64 23) cRet)) (cLet (o2 bEql (rdV v19) (rdV (.n .i64 0))) fun v29 => (cSeq (cCond (rdV v29) (cWr X4 (.s 1) (cWr X5 (.n .i64 6) cRet)) (cLet (o2 bEql (rdV v19) (rdV (.n .i64 2))) fun v30 => (cSeq (cCond (rdV v30) (cWr X4 (.s 1) (cWr X5 (.n .i64 5) cRet)) (cLet (o2 bEql (rdV v17) (rdV (.s 77358))) fun v31 => (cSeq (cCond (rdV v31) (cLet (oV R6) fun v32 => (cLet (oCallS 91 [(rdV v32)]) fun v33 => (cWr X6 v33 cSkip))) (cLet (oV R6) fun v34 => (cLet (oCallS 92 [(rdV v34), (rdV v17)]) fun v35 => (cWr X6 v35 cSkip)))) cSkip))) cSkip))) cSkip))) cSkip))))))) cSkip)))))) cSkip)))))) (cLet (o2 bAdd R30 (rdV (.n .i64 1))) fun v36 => (cWr X30 v36 cSkip))))))) (cLet (oV R6) fun v37 => (cWr X4 v37 (cWr X5 (.n .i64 0) cRet)))))))))))))))) [vT R4, vT R5])))
theorem q18_eq : thrF 1000000 (drOf 68 [4, 5, 6, 30]) 2 en18 = q18 := by kernel_rfl
def q90 : Phi → HF := fnQ (aLet fun v1 => (aEnd (cWr X2 (.b false) (cLet (o2 bNeq (rdV v1) (rdV (.s 1))) fun v2 => (cLet (oG true (rdV v2) (oV (rdV v1))) fun v3 => (cLet (oG true (rdV v2) (o2 bNeq (rdV v3) (rdV (.s 302)))) fun v4 => (cLet (o3 pkF (rdV v2) (rdV v4) (rdV (.b false))) fun v5 => (cLet (oG true (rdV v5) (oV (rdV v1))) fun v6 => (cLet (oG true (rdV v5) (o2 bNeq (rdV v6) (rdV (.s 77358)))) fun v7 => (cLet (o3 pkF (rdV v5) (rdV v7) (rdV (.b false))) fun v8 => (cLet (oG true (rdV v8) (oV (rdV v1))) fun v9 => (cLet (oG true (rdV v8) (o1 lsF (rdV v9))) fun v10 => (cLet (oG true (rdV v8) (o2 bLeq (rdV v10) (rdV (.n .i64 32)))) fun v11 => (cLet (o3 pkF (rdV v8) (rdV v11) (rdV (.b false))) fun v12 => (cLet (oG true (rdV v12) (oV (rdV v1))) fun v13 => (cLet (oG true (rdV v12) (n1 (ssQ 5) (rdV v13))) fun v14 => (cLet (oG true (rdV v12) (oV (rdV (.fn (.func 179) [] [])))) fun v15 => (cLet (oG true (rdV v12) (oCallS 180 [(rdV v14), (rdV v15)])) fun v16 => (cLet (oG true (rdV v12) (o1 notF (rdV v16))) fun v17 => (cLet (o3 pkF (rdV v12) (rdV v17) (rdV (.b false))) fun v18 => (cWr X2 v18 cRet))))))))))))))))))) [vT R2]))
theorem q90_eq : thrF 1000000 (drOf 26 [2]) 1 en90 = q90 := by kernel_rfl
def q87 : Phi → HF := fnQ (aLet fun v1 => (aLet fun v2 => (aEnd (cWr X4 (.b false) (cLet (oCallS 177 [(rdV v1), (rdV v2)]) fun v3 => (cWr X4 v3 cRet))) [vT R4])))
theorem q87_eq : thrF 1000000 (drOf 8 [4]) 2 en87 = q87 := by kernel_rfl
def q177 : Phi → HF := fnQ (aLet fun v1 => (aLet fun v2 => (aEnd (cWr X4 (.b false) (cLet (o1 lsF (rdV v1)) fun v3 => (cLet (o1 lsF (rdV v2)) fun v4 => (cLet (o2 bGeq (rdV v3) (rdV v4)) fun v5 => (cLet (oG true (rdV v5) (oV (rdV v1))) fun v6 => (cLet (oG true (rdV v5) (oV (rdV v2))) fun v7 => (cLet (oG true (rdV v5) (o1 lsF (rdV v7))) fun v8 => (cLet (oG true (rdV v5) (oSs (rdV v6) none (some (rdV v8)))) fun v9 => (cLet (oG true (rdV v5) (oV (rdV v2))) fun v10 => (cLet (oG true (rdV v5) (o2 bEql (rdV v9) (rdV v10))) fun v11 => (cLet (o3 pkF (rdV v5) (rdV v11) (rdV (.b false))) fun v12 => (cWr X4 v12 cRet)))))))))))) [vT R4])))
theorem q177_eq : thrF 1000000 (drOf 18 [4]) 2 en177 = q177 := by kernel_rfl
def q243 : Phi → HF := fnQ (aLet fun v1 => (aLet fun v2 => (aEnd (cWr X4 (.n .i64 0) (cLet (o1 lvF (rdV v1)) fun v3 => (cWr X8 (.n .i64 0) (cSeq (cBlk 0 (cLoop 1000000 (cLet (o2 bLss R8 (rdV v3)) fun v4 => (cSeq (cCond (rdV v4) cSkip (cExit 0)) (cSeq (cBlk 1 (cLet (oV R8) fun v5 => (cLet (o2 (isF 1) (rdV v1) (rdV v5)) fun v6 => (cLet (m1 ldF (rdV v6)) fun v7 => (cLet (oCall (rdV v2) [(rdV v7)]) fun v8 => (cSeq (cCond (rdV v8) (cWr X4 v5 cRet) cSkip) cSkip)))))) (cLet (o2 bAdd R8 (rdV (.n .i64 1))) fun v9 => (cWr X8 v9 cSkip))))))) (cWr X4 (.z .i64 0) cRet))))) [vT R4])))
theorem q243_eq : thrF 1000000 (drOf 19 [4, 8]) 2 en243 = q243 := by kernel_rfl
def q180 : Phi → HF := fnQ (aLet fun v1 => (aLet fun v2 => (aEnd (cWr X4 (.b false) (cLet (oCallS 243 [(rdV v1), (rdV v2)]) fun v3 => (cLet (o2 bGeq (rdV v3) (rdV (.n .i64 0))) fun v4 => (cWr X4 v4 cRet)))) [vT R4])))
theorem q180_eq : thrF 1000000 (drOf 9 [4]) 2 en180 = q180 := by kernel_rfl
def q88 : Phi → HF := fnQ (aLet fun v1 => (aLet fun v2 => (aEnd (cWr X4 (.o .sl) (cLet (oCallS 178 [(rdV v1), (rdV v2), (rdV (.n .i64 0)), (rdV (.z .i64 0))]) fun v3 => (cWr X4 v3 cRet))) [vT R4])))
theorem q88_eq : thrF 1000000 (drOf 8 [4]) 2 en88 = q88 := by kernel_rfl
def q178 : Phi → HF := fnQ (aLetW X0 fun v1 => (aLet fun v2 => (aLet fun v3 => (aLetW X3 fun v4 => (aEnd (cWr X8 (.o .sl) (cLet (o2 bEql (rdV v4) (rdV (.n .i64 0))) fun v5 => (cSeq (cCond (rdV v5) (cWr X8 (.o .sl) cRet) cSkip) (cLet (o2 bEql (rdV v2) (rdV (.s 1))) fun v6 => (cSeq (cCond (rdV v6) (cLet (oCallS 240 [(rdV v1), (rdV v4)]) fun v7 => (cWr X8 v7 cRet)) cSkip) (cLet (o2 bLss (rdV v4) (rdV (.n .i64 0))) fun v8 => (cSeq (cCond (rdV v8) (cLet (oCallS 241 [(rdV v1), (rdV v2)]) fun v9 => (cLet (o2 bAdd (rdV v9) (rdV (.n .i64 1))) fun v10 => (cWr X3 v10 cSkip))) cSkip) (cLet (oV R3) fun v11 => (cLet (o1 lsF (rdV v1)) fun v12 => (cLet (o2 bAdd (rdV v12) (rdV (.n .i64 1))) fun v13 => (cLet (nL (pQ .minI) [(rdV v11), (rdV v13)]) fun v14 => (cWr X3 v14 (cLet (nL (nQ (.makeSl 9 1 [(.str [])])) [(rdV v14), (rdV v14)]) fun v15 => (cLet (o2 bSub (rdV v14) (rdV (.n .i64 1))) fun v16 => (cWr X3 v16 (cWr X10 (.n .i64 0) (cSeq (cBlk 0 (cLoop 1000000 (cLet (oV R10) fun v17 => (cLet (o2 bLss (rdV v17) (rdV v16)) fun v18 => (cSeq (cCond (rdV v18) cSkip (cExit 0)) (cSeq (cBlk 1 (cLet (oV R0) fun v19 => (cLet (oCallS 242 [(rdV v19), (rdV v2)]) fun v20 => (cLet (o2 bLss (rdV v20) (rdV (.n .i64 0))) fun v21 => (cSeq (cCond (rdV v21) (cExit 0) cSkip) (cLet (oV R10) fun v22 => (cLet (oV R0) fun v23 => (cLet (o2 bAdd (rdV v20) (rdV v3)) fun v24 => (cLet (oSs (rdV v23) none (some (rdV v24))) fun v25 => (cLet (o2 (isF 1) (rdV v15) (rdV v22)) fun v26 => (cDo (n2 (stF 1) (rdV v26) (rdV v25)) (cLet (oV R0) fun v27 => (cLet (o1 lsF (rdV v2)) fun v28 => (cLet (o2 bAdd (rdV v20) (rdV v28)) fun v29 => (cLet (oSs (rdV v27) (some (rdV v29)) none) fun v30 => (cWr X0 v30 (cLet (oV R10) fun v31 => (cLet (o2 bAdd (rdV v31) (rdV (.n .i64 1))) fun v32 => (cWr X10 v32 cSkip))))))))))))))))))) cSkip)))))) (cLet (oV R10) fun v33 => (cLet (oV R0) fun v34 => (cLet (o2 (isF 1) (rdV v15) (rdV v33)) fun v35 => (cDo (n2 (stF 1) (rdV v35) (rdV v34)) (cLet (oV R10) fun v36 => (cLet (o2 bAdd (rdV v36) (rdV (.n .i64 1))) fun v37 => (cLet (oSv 1 (rdV v15) none (some (rdV v37)) none) fun v38 => (cWr X8 v38 cRet))))))))))))))))))))))))) [vT R8])))))
theorem q178_eq : thrF 1000000 (drOf 66 [0, 3, 8, 10]) 4 en178 = q178 := by kernel_rfl
def q92 : Phi → HF := fnQ (aLet fun v1 => (aLet fun v2 => (aEnd (cWr X4 (.s 1) (cLet (oCallS 182 [(rdV v1), (rdV (.s 303))]) fun v3 => (cLet (o2 bAdd (rdV v3) (rdV (.s 303))) fun v4 => (cLet (o2 bAdd (rdV v4) (rdV v2)) fun v5 => (cWr X4 v5 cRet))))) [vT R4])))
theorem q92_eq : thrF 1000000 (drOf 10 [4]) 2 en92 = q92 := by kernel_rfl
def q270 : Phi → HF := fnQ (aLet fun v1 => (aLet fun v2 => (aEnd (cWr X4 (.b false) (cLet (o1 lsF (rdV v1)) fun v3 => (cLet (o1 lsF (rdV v2)) fun v4 => (cLet (o2 bGeq (rdV v3) (rdV v4)) fun v5 => (cLet (oG true (rdV v5) (oV (rdV v1))) fun v6 => (cLet (oG true (rdV v5) (oV (rdV v1))) fun v7 => (cLet (oG true (rdV v5) (o1 lsF (rdV v7))) fun v8 => (cLet (oG true (rdV v5) (oV (rdV v2))) fun v9 => (cLet (oG true (rdV v5) (o1 lsF (rdV v9))) fun v10 => (cLet (oG true (rdV v5) (o2 bSub (rdV v8) (rdV v10))) fun v11 => (cLet (oG true (rdV v5) (oSs (rdV v6) (some (rdV v11)) none)) fun v12 => (cLet (oG true (rdV v5) (oV (rdV v2))) fun v13 => (cLet (oG true (rdV v5) (o2 bEql (rdV v12) (rdV v13))) fun v14 => (cLet (o3 pkF (rdV v5) (rdV v14) (rdV (.b false))) fun v15 => (cWr X4 v15 cRet))))))))))))))) [vT R4])))
theorem q270_eq : thrF 1000000 (drOf 21 [4]) 2 en270 = q270 := by kernel_rfl
def q246 : Phi → HF := fnQ (aLet fun v1 => (aLet fun v2 => (aEnd (cWr X4 (.s 1) (cLet (oCallS 270 [(rdV v1), (rdV v2)]) fun v3 => (cSeq (cCond (rdV v3) (cLet (o1 lsF (rdV v1)) fun v4 => (cLet (o1 lsF (rdV v2)) fun v5 => (cLet (o2 bSub (rdV v4) (rdV v5)) fun v6 => (cLet (oSs (rdV v1) none (some (rdV v6))) fun v7 => (cWr X4 v7 cRet))))) cSkip) (cWr X4 v1 cRet)))) [vT R4])))
theorem q246_eq : thrF 1000000 (drOf 16 [4]) 2 en246 = q246 := by kernel_rfl
def q182 : Phi → HF := fnQ (aLet fun v1 => (aLet fun v2 => (aEnd (cWr X4 (.s 1) (cLet (oCallS 246 [(rdV v1), (rdV v2)]) fun v3 => (cWr X4 v3 cRet))) [vT R4])))
theorem q182_eq : thrF 1000000 (drOf 8 [4]) 2 en182 = q182 := by kernel_rfl
def q21 : Phi → HF := fnQ (aLet fun v1 => (aLet fun v2 => (aEnd (cWr X4 (.n .i64 0) (cLet (oCallS 18 [(rdV v1), (rdV v2)]) fun v3 => (cLet (o1 (exG 0) (rdV v3)) fun v4 => (cLet (o1 (exG 1) (rdV v3)) fun v5 => (cSeq (cBlk 0 (cLet (o2 bNeq (rdV v5) (rdV (.n .i64 0))) fun v6 => (cSeq (cCond (rdV v6) (cWr X4 v5 cRet) (cLet (oCallS 89 [(rdV v1), (rdV v4)]) fun v7 => (cLet (o2 bNeq (rdV v7) (rdV (.n .i64 0))) fun v8 => (cSeq (cCond (rdV v8) (cWr X4 (.n .i64 9) cRet) cSkip) cSkip)))) cSkip))) (cLet (nL (buN [.s 1, .b false, .s 1] [(.str []), (.bool false), (.str [])] [(0, 1), (1, 1)]) [(rdV v4), (rdV (.b true))]) fun v9 => (cLet (oCallS 93 [(rdV v1), (rdV v9)]) fun v10 => (cWr X4 v10 cRet)))))))) [vT R4])))
theorem q21_eq : thrF 1000000 (drOf 26 [4]) 2 en21 = q21 := by kernel_rfl
def q98 : Phi → HF := fnQ (aLet fun v1 => (aLet fun v2 => (aEnd (cLet (oCallS 86 [(rdV v1)]) fun v3 => (cSeq (cCond (rdV v3) cRet cSkip) (cLet (o1 ncF (rdV v1)) fun v4 => (cLet (o1 (faF 0) (rdV v4)) fun v5 => (cLet (m1 ldF (rdV v5)) fun v6 => (cLet (oCallS 186 [(rdV v6)]) fun v7 => (cLet (oCallS 185 [(rdV v7)]) fun v8 => (cLet (o1 lvF (rdV v8)) fun v9 => (cWr X15 (.n .i64 0) (cSeq (cBlk 0 (cLoop 1000000 (cLet (o2 bLss R15 (rdV v9)) fun v10 => (cSeq (cCond (rdV v10) cSkip (cExit 0)) (cSeq (cBlk 1 (cLet (o2 (isF 1) (rdV v8) R15) fun v11 => (cLet (m1 ldF (rdV v11)) fun v12 => (cLet (o1 ncF (rdV v1)) fun v13 => (cLet (o1 (faF 0) (rdV v13)) fun v14 => (cLet (m1 ldF (rdV v14)) fun v15 => (cLet (n2 (lkG true [.str] false (.agg [.s 1, .b false, .s 1])) (rdV v15) (rdV v12)) fun v16 => (cLet (oCall (rdV v2) [(rdV v16)]) fun v17 => (cLet (o1 notF (rdV v17)) fun v18 => (cSeq (cCond (rdV v18) cRet cSkip) cSkip)))))))))) (cLet (o2 bAdd R15 (rdV (.n .i64 1))) fun v19 => (cWr X15 v19 cSkip))))))) cSkip)))))))))) [])))
theorem q98_eq : thrF 1000000 (drOf 29 [15]) 2 en98 = q98 := by kernel_rfl
def q93 : Phi → HF := fnQ (aLet fun v1 => (aLet fun v2 => (aEnd (cLet (n1 (bxF 162) (rdV v2)) fun v3 => (cWr X4 (.n .i64 0) (cLet (o1 (faF 0) (rdV v3)) fun v4 => (cLet (m1 ldF (rdV v4)) fun v5 => (cLet (o1 lsF (rdV v5)) fun v6 => (cLet (o2 bGtr (rdV v6) (rdV (.n .i64 256))) fun v7 => (cLet (oG false (rdV v7) (o1 (faF 2) (rdV v3))) fun v8 => (cLet (oG false (rdV v7) (m1 ldF (rdV v8))) fun v9 => (cLet (oG false (rdV v7) (o1 lsF (rdV v9))) fun v10 => (cLet (oG false (rdV v7) (o2 bGtr (rdV v10) (rdV (.n .i64 8192)))) fun v11 => (cLet (o3 pkF (rdV v7) (rdV (.b true)) (rdV v11)) fun v12 => (cSeq (cCond (rdV v12) (cWr X4 (.n .i64 3) cRet) cSkip) (cLet (oCallS 183 [(rdV v1)]) fun v13 => (cLet (o1 (exG 0) (rdV v13)) fun v14 => (cLet (o1 (exG 1) (rdV v13)) fun v15 => (cWr X5 v14 (cWr X6 v15 (cLet (o1 ncF (rdV v1)) fun v16 => (cLet (o1 (faF 0) (rdV v16)) fun v17 => (cLet (m1 ldF (rdV v17)) fun v18 => (cLet (o1 (faF 0) (rdV v3)) fun v19 => (cLet (m1 ldF (rdV v19)) fun v20 => (cLet (n2 (lkG true [.str] true (.agg [.s 1, .b false, .s 1])) (rdV v18) (rdV v20)) fun v21 => (cLet (o1 (exG 0) (rdV v21)) fun v22 => (cLet (o1 (exG 1) (rdV v21)) fun v23 => (cLet (n0 (.cells [.s 1, .b false, .s 1] 162 .exact)) fun v24 => (cLet (n2 (stF 3) (rdV v24) (rdV v22)) fun v25 => (cSeq (cCond (rdV v23) (cLet (o1 (faF 2) (rdV v24)) fun v26 => (cLet (m1 ldF (rdV v26)) fun v27 => (cLet (o1 lsF (rdV v27)) fun v28 => (cLet (o2 bSub (rdV v15) (rdV v28)) fun v29 => (cWr X6 v29 cSkip))))) (cLet (o2 bAdd (rdV v14) (rdV (.n .i64 1))) fun v30 => (cLet (o1 (faF 0) (rdV v3)) fun v31 => (cLet (m1 ldF (rdV v31)) fun v32 => (cLet (o1 lsF (rdV v32)) fun v33 => (cLet (o2 bAdd (rdV v15) (rdV v33)) fun v34 => (cWr X5 v30 (cWr X6 v34 cSkip)))))))) (cLet (oV R5) fun v35 => (cLet (o2 bGtr (rdV v35) (rdV (.n .i64 128))) fun v36 => (cLet (oG false (rdV v36) (oV R6)) fun v37 => (cLet (oG false (rdV v36) (o1 (faF 2) (rdV v3))) fun v38 => (cLet (oG false (rdV v36) (m1 ldF (rdV v38))) fun v39 => (cLet (oG false (rdV v36) (o1 lsF (rdV v39))) fun v40 => (cLet (oG false (rdV v36) (o2 bAdd (rdV v37) (rdV v40))) fun v41 => (cLet (oG false (rdV v36) (o2 bGtr (rdV v41) (rdV (.n .i64 32768)))) fun v42 => (cLet (o3 pkF (rdV v36) (rdV (.b true)) (rdV v42)) fun v43 => (cSeq (cCond (rdV v43) (cWr X4 (.n .i64 7) cRet) cSkip) (cLet (o1 ncF (rdV v1)) fun v44 => (cLet (o1 (faF 0) (rdV v44)) fun v45 => (cLet (m1 ldF (rdV v45)) fun v46 => (cLet (o1 (faF 0) (rdV v3)) fun v47 => (cLet (m1 ldF (rdV v47)) fun v48 => (cLet (m1 (lnF 3) (rdV v3)) fun v49 => (cLet (n3 (muQ true [.str]) (rdV v46) (rdV v48) (rdV v49)) fun v50 => (cWr X4 (.n .i64 0) cRet)))))))))))))))))))))))))))))))))))))))))))))) [vT R4])))
theorem q93_eq : thrF 1000000 (drOf 64 [4, 5, 6]) 2 en93 = q93 := by kernel_rfl
def q186 : Phi → HF := fnQ (aLet fun v1 => (aEnd (cLet (n1 (bxF 51) (rdV v1)) fun v2 => (cWr X2 (.o .fn) (cLet (nL (mfG (.func 250) 0) [(rdV v2)]) fun v3 => (cWr X2 v3 cRet)))) [vT R2]))
theorem q186_eq : thrF 1000000 (drOf 4 [2]) 1 en186 = q186 := by kernel_rfl
def q183 : Phi → HF := fnQ (aLet fun v1 => (aEnd (cLetW (n0 (.ints .i64 [Int.ofNat 0] 3 .exact)) X2 fun v2 => (cLetW (n0 (.ints .i64 [Int.ofNat 0] 3 .exact)) X3 fun v3 => (cLet (nL (mfG (.func 98) 1) [(rdV v1)]) fun v4 => (cSeq (cBlk 0 (cSeq (cRf (rdV v4) [X7] (cLetW (n0 (.cells [.s 1, .b false, .s 1] 162 .exact)) X4 fun v5 => (cDo (n2 (stF 3) (rdV v5) R7) cSkip)) (cSeq (cBlk 1 (cLet (m1 ldF (rdV v2)) fun v6 => (cLet (o2 bAdd (rdV v6) (rdV (.n .i64 1))) fun v7 => (cLet (m1 ldF (rdV v3)) fun v8 => (cLet (o1 (faF 0) R4) fun v9 => (cLet (m1 ldF (rdV v9)) fun v10 => (cLet (o1 lsF (rdV v10)) fun v11 => (cLet (o2 bAdd (rdV v8) (rdV v11)) fun v12 => (cLet (o1 (faF 2) R4) fun v13 => (cLet (m1 ldF (rdV v13)) fun v14 => (cLet (o1 lsF (rdV v14)) fun v15 => (cLet (o2 bAdd (rdV v12) (rdV v15)) fun v16 => (cLet (n2 (stF 1) (rdV v2) (rdV v7)) fun v17 => (cRck (m1 ldF (rdV v3)) v8 (cRck (m1 ldF (rdV v9)) v10 (cRck (m1 ldF (rdV v13)) v14 (cLet (n2 (stF 1) (rdV v3) (rdV v16)) fun v18 => cSkip))))))))))))))))) cSkip)) cSkip)) (cLet (m1 ldF (rdV v2)) fun v19 => (cLet (m1 ldF (rdV v3)) fun v20 => (cLet (n2 (stF 1) (rdV v2) (rdV v19)) fun v21 => (cRck (m1 ldF (rdV v3)) v20 (cLet (n2 (stF 1) (rdV v3) (rdV v20)) fun v22 => cRet))))))))) [vC R2, vC R3]))
theorem q183_eq : thrF 1000000 (drOf 21 [2, 3, 4, 7]) 1 en183 = q183 := by kernel_rfl
def q95 : Phi → HF := fnQ (aLet fun v1 => (aLet fun v2 => (aLet fun v3 => (aEnd (cWr X6 (.s 1) (cWr X7 (.n .i64 0) (cLet (oCallS 18 [(rdV v1), (rdV v2)]) fun v4 => (cLet (o1 (exG 0) (rdV v4)) fun v5 => (cLet (o1 (exG 1) (rdV v4)) fun v6 => (cLet (o2 bNeq (rdV v6) (rdV (.n .i64 0))) fun v7 => (cSeq (cCond (rdV v7) (cWr X6 (.s 1) (cWr X7 v6 cRet)) cSkip) (cLet (oCallS 89 [(rdV v1), (rdV v5)]) fun v8 => (cSeq (cBlk 0 (cLet (o2 bEql (rdV v8) (rdV v3)) fun v9 => (cSeq (cCond (rdV v9) (cWr X6 v5 (cWr X7 (.n .i64 0) cRet)) (cLet (o2 bEql (rdV v8) (rdV (.n .i64 0))) fun v10 => (cSeq (cCond (rdV v10) (cWr X6 (.s 1) (cWr X7 (.n .i64 6) cRet)) cSkip) cSkip))) cSkip))) (cWr X6 (.s 1) (cWr X7 (.n .i64 5) cRet))))))))))) [vT R6, vT R7]))))
theorem q95_eq : thrF 1000000 (drOf 28 [6, 7]) 3 en95 = q95 := by kernel_rfl
def q20 : Phi → HF := fnQ (aLet fun v1 => (aLet fun v2 => (aLetW X2 fun v3 => (aLet fun v4 => (aEnd (cWr X8 (.n .i64 0) (cLet (oCallS 18 [(rdV v1), (rdV v2)]) fun v5 => (cLet (o1 (exG 0) (rdV v5)) fun v6 => (cLet (o1 (exG 1) (rdV v5)) fun v7 => (cSeq (cBlk 0 (cLet (o2 bNeq (rdV v7) (rdV (.n .i64 0))) fun v8 => (cSeq (cCond (rdV v8) (cWr X8 v7 cRet) (cLet (oCallS 89 [(rdV v1), (rdV v6)]) fun v9 => (cLet (o2 bEql (rdV v9) (rdV (.n .i64 1))) fun v10 => (cSeq (cCond (rdV v10) (cWr X8 (.n .i64 5) cRet) (cSeq (cCond (rdV v4) (cLet (o1 ncF (rdV v1)) fun v11 => (cLet (o1 (faF 0) (rdV v11)) fun v12 => (cLet (m1 ldF (rdV v12)) fun v13 => (cLet (n2 (lkG true [.str] false (.agg [.s 1, .b false, .s 1])) (rdV v13) (rdV v6)) fun v14 => (cLet (o1 (f1F 2) (rdV v14)) fun v15 => (cLet (o2 bAdd (rdV v15) (rdV v3)) fun v16 => (cWr X2 v16 cSkip))))))) cSkip) cSkip)) cSkip)))) cSkip))) (cLet (oV R2) fun v17 => (cLet (nL (buN [.s 1, .b false, .s 1] [(.str []), (.bool false), (.str [])] [(0, 1), (2, 1)]) [(rdV v6), (rdV v17)]) fun v18 => (cLet (oCallS 93 [(rdV v1), (rdV v18)]) fun v19 => (cWr X8 v19 cRet))))))))) [vT R8])))))
theorem q20_eq : thrF 1000000 (drOf 42 [2, 8]) 4 en20 = q20 := by kernel_rfl
def q91 : Phi → HF := fnQ (aLet fun v1 => (aEnd (cWr X2 (.s 1) (cLet (oCallS 181 [(rdV v1), (rdV (.s 303))]) fun v2 => (cLet (nL (pQ .maxI) [(rdV v2), (rdV (.n .i64 1))]) fun v3 => (cLet (oSs (rdV v1) none (some (rdV v3))) fun v4 => (cWr X2 v4 cRet))))) [vT R2]))
theorem q91_eq : thrF 1000000 (drOf 10 [2]) 1 en91 = q91 := by kernel_rfl
def q244 : Phi → HF := fnQ (aLet fun v1 => (aLet fun v2 => (aEnd (cWr X4 (.n .i64 0) (cLet (o1 lsF (rdV v1)) fun v3 => (cLet (o2 bSub (rdV v3) (rdV (.n .i64 1))) fun v4 => (cWr X5 v4 (cSeq (cBlk 0 (cLoop 1000000 (cLet (oV R5) fun v5 => (cLet (o2 bGeq (rdV v5) (rdV (.n .i64 0))) fun v6 => (cSeq (cCond (rdV v6) cSkip (cExit 0)) (cSeq (cBlk 1 (cLet (oV R5) fun v7 => (cLet (o2 sAt (rdV v1) (rdV v7)) fun v8 => (cLet (o2 bEql (rdV v8) (rdV v2)) fun v9 => (cSeq (cCond (rdV v9) (cLet (oV R5) fun v10 => (cWr X4 v10 cRet)) cSkip) cSkip))))) (cLet (oV R5) fun v11 => (cLet (o2 bSub (rdV v11) (rdV (.n .i64 1))) fun v12 => (cWr X5 v12 cSkip))))))))) (cWr X4 (.z .i64 0) cRet)))))) [vT R4])))
theorem q244_eq : thrF 1000000 (drOf 19 [4, 5]) 2 en244 = q244 := by kernel_rfl
def q23 : Phi → HF := fnQ (aLet fun v1 => (aLet fun v2 => (aEnd (cWr X4 (.n .i64 0) (cLet (oCallS 95 [(rdV v1), (rdV v2), (rdV (.n .i64 1))]) fun v3 => (cLet (o1 (exG 0) (rdV v3)) fun v4 => (cLet (o1 (exG 1) (rdV v3)) fun v5 => (cLet (o2 bEql (rdV v5) (rdV (.n .i64 0))) fun v6 => (cSeq (cCond (rdV v6) (cLet (o1 ncF (rdV v1)) fun v7 => (cLet (o1 (faF 1) (rdV v7)) fun v8 => (cDo (n2 (stF 1) (rdV v8) (rdV v4)) cSkip))) cSkip) (cWr X4 v5 cRet))))))) [vT R4])))
theorem q23_eq : thrF 1000000 (drOf 20 [4]) 2 en23 = q23 := by kernel_rfl
def q181 : Phi → HF := fnQ (aLet fun v1 => (aLet fun v2 => (aEnd (cWr X4 (.n .i64 0) (cLet (o1 lsF (rdV v2)) fun v3 => (cSeq (cBlk 0 (cLet (o2 bEql (rdV v3) (rdV (.n .i64 0))) fun v4 => (cSeq (cCond (rdV v4) (cLet (o1 lsF (rdV v1)) fun v5 => (cWr X4 v5 cRet)) (cLet (o2 bEql (rdV v3) (rdV (.n .i64 1))) fun v6 => (cSeq (cCond (rdV v6) (cLet (o2 sAt (rdV v2) (rdV (.n .i64 0))) fun v7 => (cLet (oCallS 244 [(rdV v1), (rdV v7)]) fun v8 => (cWr X4 v8 cRet))) (cLet (o1 lsF (rdV v1)) fun v9 => (cLet (o2 bEql (rdV v3) (rdV v9)) fun v10 => (cSeq (cCond (rdV v10) (cLet (o2 bEql (rdV v2) (rdV v1)) fun v11 => (cSeq (cCond (rdV v11) (cWr X4 (.n .i64 0) cRet) cSkip) (cWr X4 (.z .i64 0) cRet))) (cLet (o1 lsF (rdV v1)) fun v12 => (cLet (o2 bGtr (rdV v3) (rdV v12)) fun v13 => (cSeq (cCond (rdV v13) (cWr X4 (.z .i64 0) cRet) cSkip) cSkip)))) cSkip)))) cSkip))) cSkip))) (cLet (oCallS 245 [(rdV v1), (rdV v2)]) fun v14 => (cWr X4 v14 cRet))))) [vT R4])))
theorem q181_eq : thrF 1000000 (drOf 36 [4]) 2 en181 = q181 := by kernel_rfl
def q30 : Phi → HF := fnQ (aLet fun v1 => (aLet fun v2 => (aEnd (cWr X4 (.o .sl) (cWr X5 (.n .i64 0) (cLet (oCallS 95 [(rdV v1), (rdV v2), (rdV (.n .i64 1))]) fun v3 => (cLet (o1 (exG 0) (rdV v3)) fun v4 => (cLet (o1 (exG 1) (rdV v3)) fun v5 => (cLet (o2 bNeq (rdV v5) (rdV (.n .i64 0))) fun v6 => (cSeq (cCond (rdV v6) (cWr X4 (.o .sl) (cWr X5 v5 cRet)) cSkip) (cLet (oCallS 94 [(rdV v1), (rdV v4)]) fun v7 => (cWr X4 v7 (cWr X5 (.n .i64 0) cRet)))))))))) [vT R4, vT R5])))
theorem q30_eq : thrF 1000000 (drOf 20 [4, 5]) 2 en30 = q30 := by kernel_rfl
def q29 : Phi → HF := fnQ (aLet fun v1 => (aLet fun v2 => (aEnd (cWr X4 (.s 1) (cWr X5 (.n .i64 0) (cLet (oCallS 95 [(rdV v1), (rdV v2), (rdV (.n .i64 2))]) fun v3 => (cLet (o1 (exG 0) (rdV v3)) fun v4 => (cLet (o1 (exG 1) (rdV v3)) fun v5 => (cLet (o2 bNeq (rdV v5) (rdV (.n .i64 0))) fun v6 => (cSeq (cCond (rdV v6) (cWr X4 (.s 1) (cWr X5 v5 cRet)) cSkip) (cLet (o1 ncF (rdV v1)) fun v7 => (cLet (o1 (faF 0) (rdV v7)) fun v8 => (cLet (m1 ldF (rdV v8)) fun v9 => (cLet (n2 (lkG true [.str] false (.agg [.s 1, .b false, .s 1])) (rdV v9) (rdV v4)) fun v10 => (cLet (o1 (f1F 2) (rdV v10)) fun v11 => (cWr X4 v11 (cWr X5 (.n .i64 0) cRet)))))))))))))) [vT R4, vT R5])))
theorem q29_eq : thrF 1000000 (drOf 24 [4, 5]) 2 en29 = q29 := by kernel_rfl
def q107 : Phi → HF := fnQ (aLet fun v1 => (aLet fun v2 => (aEnd (cWr X4 (.o .sl) (cLet (o1 ncF (rdV v1)) fun v3 => (cLet (o1 (faF 1) (rdV v3)) fun v4 => (cLet (m1 ldF (rdV v4)) fun v5 => (cLet (oG false (rdV v5) (oV (rdV v2))) fun v6 => (cLet (oG false (rdV v5) (oV (rdV v1))) fun v7 => (cLet (oG false (rdV v5) (o1 ncF (rdV v7))) fun v8 => (cLet (oG false (rdV v5) (o1 (faF 0) (rdV v8))) fun v9 => (cLet (oG false (rdV v5) (m1 ldF (rdV v9))) fun v10 => (cLet (oG false (rdV v5) (o1 lvF (rdV v10))) fun v11 => (cLet (oG false (rdV v5) (o2 bGtr (rdV v6) (rdV v11))) fun v12 => (cLet (o3 pkF (rdV v5) (rdV (.b true)) (rdV v12)) fun v13 => (cLet (o1 ncF (rdV v1)) fun v14 => (cLet (o1 (faF 1) (rdV v14)) fun v15 => (cDo (n2 (stF 1) (rdV v15) (rdV v13)) (cLet (o1 ncF (rdV v1)) fun v16 => (cLet (o1 (faF 1) (rdV v16)) fun v17 => (cLet (m1 ldF (rdV v17)) fun v18 => (cSeq (cCond (rdV v18) (cLet (nL (pQ .minI) [(rdV v2), (rdV (.n .i64 2))]) fun v19 => (cLet (nL (nQ (.makeSl 5 1 [(.int .u8 0)])) [(rdV v19), (rdV v19)]) fun v20 => (cWr X4 v20 cRet))) cSkip) (cLet (o1 ncF (rdV v1)) fun v21 => (cLet (o1 (faF 0) (rdV v21)) fun v22 => (cLet (m1 ldF (rdV v22)) fun v23 => (cLet (oSv 1 (rdV v23) none (some (rdV v2)) none) fun v24 => (cLet (o1 ncF (rdV v1)) fun v25 => (cLet (o1 (faF 0) (rdV v25)) fun v26 => (cLet (m1 ldF (rdV v26)) fun v27 => (cLet (oSv 1 (rdV v27) (some (rdV v2)) none none) fun v28 => (cLet (o1 ncF (rdV v1)) fun v29 => (cLet (o1 (faF 0) (rdV v29)) fun v30 => (cDo (n2 (stF 1) (rdV v30) (rdV v28)) (cWr X4 v24 cRet))))))))))))))))))))))))))))))) [vT R4])))
theorem q107_eq : thrF 1000000 (drOf 45 [4]) 2 en107 = q107 := by kernel_rfl
def q22 : Phi → HF := fnQ (aLet fun v1 => (aLet fun v2 => (aEnd (cWr X4 (.n .i64 0) (cLet (oCallS 18 [(rdV v1), (rdV v2)]) fun v3 => (cLet (o1 (exG 0) (rdV v3)) fun v4 => (cLet (o1 (exG 1) (rdV v3)) fun v5 => (cSeq (cBlk 0 (cLet (o2 bNeq (rdV v5) (rdV (.n .i64 0))) fun v6 => (cSeq (cCond (rdV v6) (cWr X4 v5 cRet) (cLet (oCallS 89 [(rdV v1), (rdV v4)]) fun v7 => (cLet (o2 bEql (rdV v7) (rdV (.n .i64 0))) fun v8 => (cSeq (cCond (rdV v8) (cWr X4 (.n .i64 6) cRet) (cLet (o2 bEql (rdV v4) (rdV (.s 303))) fun v9 => (cLet (oG false (rdV v9) (oV (rdV v4))) fun v10 => (cLet (oG false (rdV v9) (oV (rdV v1))) fun v11 => (cLet (oG false (rdV v9) (o1 ncF (rdV v11))) fun v12 => (cLet (oG false (rdV v9) (o1 (faF 1) (rdV v12))) fun v13 => (cLet (oG false (rdV v9) (m1 ldF (rdV v13))) fun v14 => (cLet (oG false (rdV v9) (o2 bEql (rdV v10) (rdV v14))) fun v15 => (cLet (o3 pkF (rdV v9) (rdV (.b true)) (rdV v15)) fun v16 => (cLet (oG false (rdV v16) (oV (rdV v1))) fun v17 => (cLet (oG false (rdV v16) (o1 ncF (rdV v17))) fun v18 => (cLet (oG false (rdV v16) (o1 (faF 1) (rdV v18))) fun v19 => (cLet (oG false (rdV v16) (m1 ldF (rdV v19))) fun v20 => (cLet (oG false (rdV v16) (oV (rdV v4))) fun v21 => (cLet (oG false (rdV v16) (oCallS 92 [(rdV v21), (rdV (.s 1))])) fun v22 => (cRck (oG false (rdV v16) (m1 ldF (rdV v19))) v20 (cLet (oG false (rdV v16) (oCallS 87 [(rdV v20), (rdV v22)])) fun v23 => (cLet (o3 pkF (rdV v16) (rdV (.b true)) (rdV v23)) fun v24 => (cSeq (cCond (rdV v24) (cWr X4 (.n .i64 1) cRet) (cLet (oCallS 94 [(rdV v1), (rdV v4)]) fun v25 => (cLet (o1 lvF (rdV v25)) fun v26 => (cLet (o2 bGtr (rdV v26) (rdV (.n .i64 0))) fun v27 => (cSeq (cCond (rdV v27) (cWr X4 (.n .i64 10) cRet) cSkip) cSkip))))) cSkip))))))))))))))))))) cSkip)))) cSkip))) (cLet (o1 ncF (rdV v1)) fun v28 => (cLet (o1 (faF 0) (rdV v28)) fun v29 => (cLet (m1 ldF (rdV v29)) fun v30 => (cDo (n2 (mdQ true [.str]) (rdV v30) (rdV v4)) (cWr X4 (.n .i64 0) cRet)))))))))) [vT R4])))
theorem q22_eq : thrF 1000000 (drOf 53 [4]) 2 en22 = q22 := by kernel_rfl
def q27 : Phi → HF := fnQ (aEnd (cWr X0 (.o .ptr) (cLet (nL mmQ []) fun v1 => (cLet (nL (buN [.o .map, .s 1] [.nilmap, (.str [])] [(0, 1), (1, 1)]) [(rdV v1), (rdV (.s 303))]) fun v2 => (cLet (n1 (bxF 53) (rdV v2)) fun v3 => (cWr X0 v3 cRet))))) [vT R0])
theorem q27_eq : thrF 1000000 (drOf 4 [0]) 0 en27 = q27 := by kernel_rfl
def q106 : Phi → HF := fnQ (aLet fun v1 => (aEnd (cWr X2 (.n .i64 0) (cLet (oCallS 107 [(rdV v1), (rdV (.n .i64 2))]) fun v2 => (cLet (o2 (isF 1) (rdV v2) (rdV (.n .i64 0))) fun v3 => (cLet (m1 ldF (rdV v3)) fun v4 => (cLet (o1 (cvF .i64) (rdV v4)) fun v5 => (cLet (o2 bShl (rdV v5) (rdV (.n .u64 8))) fun v6 => (cLet (o2 (isF 1) (rdV v2) (rdV (.n .i64 1))) fun v7 => (cLet (m1 ldF (rdV v7)) fun v8 => (cLet (o1 (cvF .i64) (rdV v8)) fun v9 => (cLet (o2 bOr (rdV v6) (rdV v9)) fun v10 => (cWr X2 v10 cRet))))))))))) [vT R2]))
theorem q106_eq : thrF 1000000 (drOf 16 [2]) 1 en106 = q106 := by kernel_rfl
def q97 : Phi → HF := fnQ (aLet fun v1 => (aEnd (cWr X2 (.o .sl) (cLet (o2 bShr (rdV v1) (rdV (.n .u64 8))) fun v2 => (cLet (o1 (cvF .u8) (rdV v2)) fun v3 => (cLet (o1 (cvF .u8) (rdV v1)) fun v4 => (cLet (nL (bsQ 5 1 2) [(rdV v3), (rdV v4)]) fun v5 => (cWr X2 v5 cRet)))))) [vT R2]))
theorem q97_eq : thrF 1000000 (drOf 9 [2]) 1 en97 = q97 := by kernel_rfl
def q32 : Phi → HF := fnQ (aLet fun v1 => (aEnd (cWr X2 (.o .ptr) (cWr X3 (.n .i64 0) (cLet (nL (buN [.o .sl, .b false] [.nilsl, (.bool false)] [(0, 1)]) [(rdV v1)]) fun v2 => (cLet (n1 (bxF 183) (rdV v2)) fun v3 => (cLet (oCallS 27 []) fun v4 => (cLet (oCallS 105 [(rdV v3)]) fun v5 => (cWr X7 (.n .i64 0) (cLet (oCallS 106 [(rdV v3)]) fun v6 => (cWr X21 (.n .i64 0) (cSeq (cBlk 0 (cLoop 1000000 (cLet (o2 bLss R21 (rdV v6)) fun v7 => (cSeq (cCond (rdV v7) cSkip (cExit 0)) (cSeq (cBlk 1 (cLet (oCallS 107 [(rdV v3), (rdV (.n .i64 1))]) fun v8 => (cLet (o2 (isF 1) (rdV v8) (rdV (.n .i64 0))) fun v9 => (cLet (m1 ldF (rdV v9)) fun v10 => (cLet (o1 (cvF .i64) (rdV v10)) fun v11 => (cLet (oCallS 105 [(rdV v3)]) fun v12 => (cWr X10 (.s 1) (cLet (o2 bEql (rdV v11) (rdV (.n .i64 2))) fun v13 => (cSeq (cCond (rdV v13) (cLet (oCallS 105 [(rdV v3)]) fun v14 => (cWr X10 v14 cSkip)) cSkip) (cLet (o1 ncF (rdV v3)) fun v15 => (cLet (o1 (faF 1) (rdV v15)) fun v16 => (cLet (m1 ldF (rdV v16)) fun v17 => (cSeq (cCond (rdV v17) (cExit 0) cSkip) (cLet (oCallS 18 [(rdV v4), (rdV v12)]) fun v18 => (cLet (o1 (exG 0) (rdV v18)) fun v19 => (cLet (o1 (exG 1) (rdV v18)) fun v20 => (cLet (o2 bNeq (rdV v20) (rdV (.n .i64 0))) fun v21 => (cLet (oG false (rdV v21) (oV (rdV v19))) fun v22 => (cLet (oG false (rdV v21) (oV (rdV v12))) fun v23 => (cLet (oG false (rdV v21) (o2 bNeq (rdV v22) (rdV v23))) fun v24 => (cLet (o3 pkF (rdV v21) (rdV (.b true)) (rdV v24)) fun v25 => (cLet (oG false (rdV v25) (oV (rdV v4))) fun v26 => (cLet (oG false (rdV v25) (oV (rdV v19))) fun v27 => (cLet (oG false (rdV v25) (oCallS 89 [(rdV v26), (rdV v27)])) fun v28 => (cLet (oG false (rdV v25) (o2 bNeq (rdV v28) (rdV (.n .i64 0)))) fun v29 => (cLet (o3 pkF (rdV v25) (rdV (.b true)) (rdV v29)) fun v30 => (cLet (oG false (rdV v30) (oV (rdV v11))) fun v31 => (cLet (oG false (rdV v30) (o2 bNeq (rdV v31) (rdV (.n .i64 1)))) fun v32 => (cLet (oG false (rdV v30) (oV (rdV v32))) fun v33 => (cLet (oG true (rdV v33) (oV (rdV v11))) fun v34 => (cLet (oG true (rdV v33) (o2 bNeq (rdV v34) (rdV (.n .i64 2)))) fun v35 => (cLet (oG false (rdV v30) (o3 pkF (rdV v33) (rdV v35) (rdV (.b false)))) fun v36 => (cLet (o3 pkF (rdV v30) (rdV (.b true)) (rdV v36)) fun v37 => (cLet (oG false (rdV v37) (oV (rdV v4))) fun v38 => (cLet (oG false (rdV v37) (oV (rdV v19))) fun v39 => (cLet (oG false (rdV v37) (oV (rdV v11))) fun v40 => (cLet (oG false (rdV v37) (o2 bEql (rdV v40) (rdV (.n .i64 1)))) fun v41 => (cLet (oG false (rdV v37) (oV R10)) fun v42 => (cLet (oG false (rdV v37) (nL (buN [.s 1, .b false, .s 1] [(.str []), (.bool false), (.str [])] [(0, 1), (1, 1), (2, 1)]) [(rdV v39), (rdV v41), (rdV v42)])) fun v43 => (cLet (oG false (rdV v37) (oCallS 93 [(rdV v38), (rdV v43)])) fun v44 => (cLet (oG false (rdV v37) (o2 bNeq (rdV v44) (rdV (.n .i64 0)))) fun v45 => (cLet (o3 pkF (rdV v37) (rdV (.b true)) (rdV v45)) fun v46 => (cSeq (cCond (rdV v46) (cWr X7 (.n .i64 5) cSkip) cSkip) cSkip))))))))))))))))))))))))))))))))))))))))))) (cLet (o2 bAdd R21 (rdV (.n .i64 1))) fun v47 => (cWr X21 v47 cSkip))))))) (cSeq (cBlk 2 (cLet (o1 ncF (rdV v3)) fun v48 => (cLet (o1 (faF 1) (rdV v48)) fun v49 => (cLet (m1 ldF (rdV v49)) fun v50 => (cSeq (cCond (rdV v50) (cWr X2 (.o .ptr) (cWr X3 (.n .i64 4) cRet)) (cLet (oV R7) fun v51 => (cLet (o2 bNeq (rdV v51) (rdV (.n .i64 0))) fun v52 => (cLet (oG false (rdV v52) (oV (rdV v4))) fun v53 => (cLet (oG false (rdV v52) (oV (rdV v5))) fun v54 => (cLet (oG false (rdV v52) (oCallS 23 [(rdV v53), (rdV v54)])) fun v55 => (cLet (oG false (rdV v52) (o2 bNeq (rdV v55) (rdV (.n .i64 0)))) fun v56 => (cLet (o3 pkF (rdV v52) (rdV (.b true)) (rdV v56)) fun v57 => (cLet (oG false (rdV v57) (oV (rdV v4))) fun v58 => (cLet (oG false (rdV v57) (oCallS 25 [(rdV v58)])) fun v59 => (cLet (oG false (rdV v57) (oV (rdV v1))) fun v60 => (cLet (oG false (rdV v57) (oCallS 108 [(rdV v59), (rdV v60)])) fun v61 => (cLet (oG false (rdV v57) (o1 notF (rdV v61))) fun v62 => (cLet (o3 pkF (rdV v57) (rdV (.b true)) (rdV v62)) fun v63 => (cSeq (cCond (rdV v63) (cWr X2 (.o .ptr) (cWr X3 (.n .i64 5) cRet)) cSkip) cSkip))))))))))))))) cSkip))))) (cWr X2 v4 (cWr X3 (.n .i64 0) cRet))))))))))))) [vT R2, vT R3]))
theorem q32_eq : thrF 1000000 (drOf 98 [2, 3, 7, 10, 21]) 1 en32 = q32 := by kernel_rfl
def q105 : Phi → HF := fnQ (aLet fun v1 => (aEnd (cWr X2 (.s 1) (cLet (oCallS 106 [(rdV v1)]) fun v2 => (cLet (oCallS 107 [(rdV v1), (rdV v2)]) fun v3 => (cLet (m1 s2Q (rdV v3)) fun v4 => (cWr X2 v4 cRet))))) [vT R2]))
theorem q105_eq : thrF 1000000 (drOf 8 [2]) 1 en105 = q105 := by kernel_rfl
def q25 : Phi → HF := fnQ (aLet fun v1 => (aEnd (cWr X2 (.o .sl) (cLet (oCallS 86 [(rdV v1)]) fun v2 => (cSeq (cCond (rdV v2) (cWr X2 (.o .sl) cRet) cSkip) (cLet (o1 ncF (rdV v1)) fun v3 => (cLet (o1 (faF 1) (rdV v3)) fun v4 => (cLet (m1 ldF (rdV v4)) fun v5 => (cLet (o1 ncF (rdV v1)) fun v6 => (cLet (o1 (faF 0) (rdV v6)) fun v7 => (cLet (m1 ldF (rdV v7)) fun v8 => (cLet (n0 (.cells [.o .sl] 49 .exact)) fun v9 => (cLet (oCallS 96 [(rdV v5)]) fun v10 => (cRck (m1 ldF (rdV v7)) v8 (cLet (m1 lmQ (rdV v8)) fun v11 => (cLet (oCallS 97 [(rdV v11)]) fun v12 => (cLet (n2 (apQ 5 false 1) (rdV v10) (rdV v12)) fun v13 => (cLet (n2 (stF 1) (rdV v9) (rdV v13)) fun v14 => (cLet (nL (mfG (.func 98) 1) [(rdV v1)]) fun v15 => (cSeq (cBlk 0 (cSeq (cRf (rdV v15) [X22] (cLetW (n0 (.cells [.s 1, .b false, .s 1] 162 .exact)) X4 fun v16 => (cDo (n2 (stF 3) (rdV v16) R22) cSkip)) (cSeq (cBlk 1 (cWr X5 (.n .i64 2) (cLet (o1 (faF 1) R4) fun v17 => (cLet (m1 ldF (rdV v17)) fun v18 => (cSeq (cCond (rdV v18) (cWr X5 (.n .i64 1) cSkip) cSkip) (cLet (m1 ldF (rdV v9)) fun v19 => (cLet (oV R5) fun v20 => (cLet (o1 (cvF .u8) (rdV v20)) fun v21 => (cLet (nL (bsQ 5 1 1) [(rdV v21)]) fun v22 => (cLet (o1 (faF 0) R4) fun v23 => (cLet (m1 ldF (rdV v23)) fun v24 => (cLet (n2 (apQ 5 false 1) (rdV v19) (rdV v22)) fun v25 => (cRck (m1 ldF (rdV v23)) v24 (cLet (oCallS 96 [(rdV v24)]) fun v26 => (cLet (n2 (apQ 5 false 1) (rdV v25) (rdV v26)) fun v27 => (cLet (n2 (stF 1) (rdV v9) (rdV v27)) fun v28 => (cLet (o1 (faF 1) R4) fun v29 => (cLet (m1 ldF (rdV v29)) fun v30 => (cLet (o1 notF (rdV v30)) fun v31 => (cSeq (cCond (rdV v31) (cLet (m1 ldF (rdV v9)) fun v32 => (cLet (o1 (faF 2) R4) fun v33 => (cLet (m1 ldF (rdV v33)) fun v34 => (cLet (oCallS 96 [(rdV v34)]) fun v35 => (cRck (m1 ldF (rdV v9)) v32 (cLet (n2 (apQ 5 false 1) (rdV v32) (rdV v35)) fun v36 => (cLet (n2 (stF 1) (rdV v9) (rdV v36)) fun v37 => cSkip))))))) cSkip) cSkip)))))))))))))))))))) cSkip)) cSkip)) (cLet (m1 ldF (rdV v9)) fun v38 => (cWr X2 v38 cRet)))))))))))))))))))) [vT R2]))
theorem q25_eq : thrF 1000000 (drOf 43 [2, 4, 5, 22]) 1 en25 = q25 := by kernel_rfl
def q24 : Phi → HF := fnQ (aLet fun v1 => (aEnd (cWr X2 (.s 1) (cLet (oCallS 86 [(rdV v1)]) fun v2 => (cSeq (cCond (rdV v2) (cWr X2 (.s 1) cRet) cSkip) (cLet (o1 ncF (rdV v1)) fun v3 => (cLet (o1 (faF 1) (rdV v3)) fun v4 => (cLet (m1 ldF (rdV v4)) fun v5 => (cWr X2 v5 cRet))))))) [vT R2]))
theorem q24_eq : thrF 1000000 (drOf 9 [2]) 1 en24 = q24 := by kernel_rfl
def q96 : Phi → HF := fnQ (aLet fun v1 => (aEnd (cWr X2 (.o .sl) (cLet (o1 lsF (rdV v1)) fun v2 => (cLet (oCallS 97 [(rdV v2)]) fun v3 => (cLet (n2 (apQ 5 true 1) (rdV v3) (rdV v1)) fun v4 => (cWr X2 v4 cRet))))) [vT R2]))
theorem q96_eq : thrF 1000000 (drOf 8 [2]) 1 en96 = q96 := by kernel_rfl
def q31 : Phi → HF := fnQ (aLet fun v1 => (aLet fun v2 => (aEnd (cWr X4 (.b false) (cLet (o1 lvF (rdV v1)) fun v3 => (cLet (o1 lvF (rdV v2)) fun v4 => (cLet (o2 bNeq (rdV v3) (rdV v4)) fun v5 => (cSeq (cCond (rdV v5) (cWr X4 (.b false) cRet) cSkip) (cLet (o1 lvF (rdV v1)) fun v6 => (cWr X13 (.n .i64 0) (cSeq (cBlk 0 (cLoop 1000000 (cLet (o2 bLss R13 (rdV v6)) fun v7 => (cSeq (cCond (rdV v7) cSkip (cExit 0)) (cSeq (cBlk 1 (cLet (oV R13) fun v8 => (cLet (o2 (isF 1) (rdV v1) (rdV v8)) fun v9 => (cLet (m1 ldF (rdV v9)) fun v10 => (cLet (o2 (isF 1) (rdV v2) (rdV v8)) fun v11 => (cLet (m1 ldF (rdV v11)) fun v12 => (cLet (o2 bNeq (rdV v10) (rdV v12)) fun v13 => (cSeq (cCond (rdV v13) (cWr X4 (.b false) cRet) cSkip) cSkip)))))))) (cLet (o2 bAdd R13 (rdV (.n .i64 1))) fun v14 => (cWr X13 v14 cSkip))))))) (cWr X4 (.b true) cRet))))))))) [vT R4])))
theorem q31_eq : thrF 1000000 (drOf 26 [4, 13]) 2 en31 = q31 := by kernel_rfl
def q108 : Phi → HF := fnQ (aLet fun v1 => (aLet fun v2 => (aEnd (cWr X4 (.b false) (cLet (o1 lvF (rdV v1)) fun v3 => (cLet (o1 lvF (rdV v2)) fun v4 => (cLet (o2 bNeq (rdV v3) (rdV v4)) fun v5 => (cSeq (cCond (rdV v5) (cWr X4 (.b false) cRet) cSkip) (cLet (o1 lvF (rdV v1)) fun v6 => (cWr X13 (.n .i64 0) (cSeq (cBlk 0 (cLoop 1000000 (cLet (o2 bLss R13 (rdV v6)) fun v7 => (cSeq (cCond (rdV v7) cSkip (cExit 0)) (cSeq (cBlk 1 (cLet (oV R13) fun v8 => (cLet (o2 (isF 1) (rdV v1) (rdV v8)) fun v9 => (cLet (m1 ldF (rdV v9)) fun v10 => (cLet (o2 (isF 1) (rdV v2) (rdV v8)) fun v11 => (cLet (m1 ldF (rdV v11)) fun v12 => (cLet (o2 bNeq (rdV v10) (rdV v12)) fun v13 => (cSeq (cCond (rdV v13) (cWr X4 (.b false) cRet) cSkip) cSkip)))))))) (cLet (o2 bAdd R13 (rdV (.n .i64 1))) fun v14 => (cWr X13 v14 cSkip))))))) (cWr X4 (.b true) cRet))))))))) [vT R4])))
theorem q108_eq : thrF 1000000 (drOf 26 [4, 13]) 2 en108 = q108 := by kernel_rfl
def q33 : Phi → HF := fnQ (aEnd (cWr X0 (.b false) (cLet (oCallS 27 []) fun v1 => (cLet (oCallS 21 [(rdV v1), (rdV (.s 353))]) fun v2 => (cLet (oCallS 20 [(rdV v1), (rdV (.s 1691477525824302251650913)), (rdV (.s 376)), (rdV (.b false))]) fun v3 => (cLet (oCallS 23 [(rdV v1), (rdV (.s 90415))]) fun v4 => (cLet (oCallS 29 [(rdV v1), (rdV (.s 358))]) fun v5 => (cLet (o1 (exG 0) (rdV v5)) fun v6 => (cLet (o1 (exG 1) (rdV v5)) fun v7 => (cLet (o2 bEql (rdV v2) (rdV (.n .i64 0))) fun v8 => (cLet (oG true (rdV v8) (oV (rdV v3))) fun v9 => (cLet (oG true (rdV v8) (o2 bEql (rdV v9) (rdV (.n .i64 0)))) fun v10 => (cLet (o3 pkF (rdV v8) (rdV v10) (rdV (.b false))) fun v11 => (cLet (oG true (rdV v11) (oV (rdV v4))) fun v12 => (cLet (oG true (rdV v11) (o2 bEql (rdV v12) (rdV (.n .i64 0)))) fun v13 => (cLet (o3 pkF (rdV v11) (rdV v13) (rdV (.b false))) fun v14 => (cLet (oG true (rdV v14) (oV (rdV v6))) fun v15 => (cLet (oG true (rdV v14) (o2 bEql (rdV v15) (rdV (.s 376)))) fun v16 => (cLet (o3 pkF (rdV v14) (rdV v16) (rdV (.b false))) fun v17 => (cLet (oG true (rdV v17) (oV (rdV v7))) fun v18 => (cLet (oG true (rdV v17) (o2 bEql (rdV v18) (rdV (.n .i64 0)))) fun v19 => (cLet (o3 pkF (rdV v17) (rdV v19) (rdV (.b false))) fun v20 => (cLet (oG true (rdV v20) (oV (rdV v1))) fun v21 => (cLet (oG true (rdV v20) (oCallS 24 [(rdV v21)])) fun v22 => (cLet (oG true (rdV v20) (o2 bEql (rdV v22) (rdV (.s 90415)))) fun v23 => (cLet (o3 pkF (rdV v20) (rdV v23) (rdV (.b false))) fun v24 => (cWr X0 v24 cRet)))))))))))))))))))))))))) [vT R0])
theorem q33_eq : thrF 1000000 (drOf 42 [0]) 0 en33 = q33 := by kernel_rfl
def q26 : Phi → HF := fnQ (aLet fun v1 => (aEnd (cWr X2 (.o .ptr) (cLet (oCallS 86 [(rdV v1)]) fun v2 => (cSeq (cCond (rdV v2) (cWr X2 (.o .ptr) cRet) cSkip) (cLet (o1 ncF (rdV v1)) fun v3 => (cLet (o1 (faF 0) (rdV v3)) fun v4 => (cLet (m1 ldF (rdV v4)) fun v5 => (cLet (o1 ncF (rdV v1)) fun v6 => (cLet (o1 (faF 1) (rdV v6)) fun v7 => (cLet (m1 ldF (rdV v7)) fun v8 => (cLet (oCallS 99 [(rdV v5)]) fun v9 => (cRck (m1 ldF (rdV v7)) v8 (cLet (nL (buN [.o .map, .s 1] [.nilmap, (.str [])] [(0, 1), (1, 1)]) [(rdV v9), (rdV v8)]) fun v10 => (cLet (n1 (bxF 53) (rdV v10)) fun v11 => (cWr X2 v11 cRet)))))))))))))) [vT R2]))
theorem q26_eq : thrF 1000000 (drOf 16 [2]) 1 en26 = q26 := by kernel_rfl
def q19 : Phi → HF := fnQ (aLet fun v1 => (aLet fun v2 => (aEnd (cWr X4 (.n .i64 0) (cWr X5 (.n .i64 0) (cLet (oCallS 18 [(rdV v1), (rdV v2)]) fun v3 => (cLet (o1 (exG 0) (rdV v3)) fun v4 => (cLet (o1 (exG 1) (rdV v3)) fun v5 => (cLet (o2 bNeq (rdV v5) (rdV (.n .i64 0))) fun v6 => (cSeq (cCond (rdV v6) (cWr X4 (.n .i64 0) (cWr X5 v5 cRet)) cSkip) (cLet (oCallS 89 [(rdV v1), (rdV v4)]) fun v7 => (cWr X4 v7 (cWr X5 (.n .i64 0) cRet)))))))))) [vT R4, vT R5])))
theorem q19_eq : thrF 1000000 (drOf 20 [4, 5]) 2 en19 = q19 := by kernel_rfl
end
end Go.Proofs.YtjgmpdklfcmelaaGreatDoor.V2
namespace Go.Proofs.YtjgmpdklfcmelaaGreatDoor.V2
open Go Go.RowKit Go.Maps Go.Sort Go.Shelf
def parB (p : List UInt8) : List UInt8 := p.take (max (Lib.lastIndex p [47]) 1).toNat
def joinB (d n : List UInt8) : List UInt8 := Lib.trimSuffix d [47] ++ [47] ++ n
theorem last_le (p s : List UInt8) : Lib.lastIndex p s ≤ p.length := by
  unfold Lib.lastIndex
  split
  · rcases Lib.lastOcc_spec p s (p.length - s.length + 1) with ⟨h, _⟩ | ⟨i, h1, h, _⟩
    · rw [h]; omega
    · rw [h]; omega
  · omega
theorem join_str (a b c : List UInt8) : ({ data := a.toArray } ++ { data := b.toArray } ++ { data := c.toArray } : ByteArray) = { data := (a ++ b ++ c).toArray } := by
  apply ByteArray.ext
  simp [ByteArray.data_append]
theorem cut_str (p : List UInt8) (n : Nat) : (({ data := p.toArray } : ByteArray).extract 0 n) = { data := (p.take n).toArray } := by
  apply ByteArray.ext
  rw [ByteArray.data_extract]
  simp
set_option maxRecDepth 100000 in
set_option maxHeartbeats 1000000 in
theorem parent91 (p : List UInt8) (w : World) (h0 : p ≠ []) (hs : p.length < 4611686018427387904) : Calls Tryz.prog 91 #[encStr p] w fun e w' => e = .returned (encStr (parB p)) ∧ w' = w := by
  have hL := Any.strings_LastIndex last284_lay ⟨p.toArray⟩ ⟨#[47]⟩ (by show p.toArray.size < _; simpa using hs) w
  change Calls Tryz.prog 181 _ _ _ at hL
  have hb : 0 ≤ max (Lib.lastIndex p [47]) 1 ∧ max (Lib.lastIndex p [47]) 1 ≤ (p.length : Int) := by
    have h1 := last_le p [47]
    have h2 := List.length_pos_iff.2 h0
    omega
  unfold encStr
  go_enter Tryz.func91, Tryz.ntmps91
  go_wp2_with (go_at_call 181; refine hL.mono ?_; rintro e w' ⟨rfl, rfl⟩)
  all_goals first
    | (exact absurd hb (by assumption))
    | (go_ret; exact ⟨by rw [cut_str]; rfl, rfl⟩)
set_option maxRecDepth 100000 in
set_option maxHeartbeats 1000000 in
theorem join92 (d n : List UInt8) (w : World) (hs : d.length ≤ 1000000) (hn : n.length ≤ 1000000) : Calls Tryz.prog 92 #[encStr d, encStr n] w fun e w' => e = .returned (encStr (joinB d n)) ∧ w' = w := by
  have hL := Any.strings_TrimSuffix trim160_lay ⟨d.toArray⟩ ⟨#[47]⟩ w (by show d.toArray.size ≤ _; simp; omega)
  change Calls Tryz.prog 182 _ _ _ at hL
  have hb : (Lib.trimSuffix d [47]).length ≤ d.length := by
    unfold Lib.trimSuffix
    split
    · rw [List.length_take]; omega
    · exact Nat.le_refl _
  unfold encStr
  go_enter Tryz.func92, Tryz.ntmps92
  go_wp2_with (go_at_call 182; refine hL.mono ?_; rintro e w' ⟨rfl, rfl⟩)
  all_goals first
    | (exfalso; simp at *; omega)
    | (go_ret; exact ⟨by rw [show (#[47] : Array UInt8) = [47].toArray from rfl, join_str]; rfl, rfl⟩)
end Go.Proofs.YtjgmpdklfcmelaaGreatDoor.V2
