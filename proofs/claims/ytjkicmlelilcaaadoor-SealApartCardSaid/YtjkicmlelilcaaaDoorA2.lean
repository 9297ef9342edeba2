/- The walks over few and laid. -/
import Derived.Test.YtjkicmlelilcaaaDoorA1
namespace Go.Proofs.YtjkicmlelilcaaaDoor
open Go.RowKit
/-- The first six parts, each of at most 80 bytes. -/
def fewP (ps : List (List UInt8)) : List (List UInt8) := (List.range (min ps.length 6)).map fun j => (atP ps j).take 80
def fewVs (vs : List Value) (k : Nat) : List Value := (List.range k).map fun j => cutV (atV vs j)
theorem fewVs_succ (vs : List Value) (k : Nat) : fewVs vs (k + 1) = fewVs vs k ++ [cutV (atV vs k)] := by simp [fewVs, List.range_succ]
theorem fewP_length (ps : List (List UInt8)) : (fewP ps).length = min ps.length 6 := by simp [fewP]
theorem fewP_le (ps : List (List UInt8)) : (fewP ps).length ≤ 6 := by rw [fewP_length]; omega
theorem fewP_at (ps : List (List UInt8)) (j : Nat) (h : j < min ps.length 6) : atP (fewP ps) j = (atP ps j).take 80 := by
  unfold fewP
  show ((List.range _).map _).getD j [] = _
  rw [List.getD_eq_getElem?_getD, List.getElem?_map, List.getElem?_range h]; rfl
theorem fewVs_at (vs : List Value) (n j : Nat) (h : j < n) : atV (fewVs vs n) j = cutV (atV vs j) := by
  show ((List.range _).map _).getD j _ = _
  rw [List.getD_eq_getElem?_getD, List.getElem?_map, List.getElem?_range h]; rfl
theorem fewP_mem (ps : List (List UInt8)) : ∀ p ∈ fewP ps, p.length ≤ 80 := by
  intro p hp
  simp only [fewP, List.mem_map] at hp
  obtain ⟨j, _, rfl⟩ := hp
  rw [List.length_take]; omega
theorem fewP_flat (ps : List (List UInt8)) : (fewP ps).flatten.length ≤ 480 := by
  have : ∀ l : List (List UInt8), (∀ p ∈ l, p.length ≤ 80) → l.flatten.length ≤ 80 * l.length := by
    intro l
    induction l with
    | nil => intro _; simp
    | cons p l ih =>
      intro h
      have h1 := h p List.mem_cons_self
      have h2 := ih fun q hq => h q (List.mem_cons_of_mem _ hq)
      rw [List.flatten_cons, List.length_append, List.length_cons]; omega
  have h1 := this _ (fewP_mem ps)
  have h2 := fewP_le ps
  omega
theorem one_new (w : World) (x : Value) (T : Nat) : ∀ j u, [x][j]? = some u → (w.alloc (.cells #[x] T)).cell? ((⟨w.heap.size, 0, none⟩ : Addr).add j) = some u := by
  intro j u hu
  cases j with
  | zero => simp at hu; subst hu; show (w.alloc _).cell? ⟨w.heap.size, 0, none⟩ = _; rw [cell_of_row _ _ 0 _ T (0, 0) (row_new w _ T)]; rfl
  | succ j => simp at hu
theorem psl_few {w W : World} {base : Nat} {v pv : Value} {vs : List Value} {ps : List (List UInt8)} (hown : W.ownsRow base 22 1 v (min ps.length 6) (fewVs vs (min ps.length 6))) (hP : PSl w pv vs ps) (hb : Below w.heap.size w W) : PSl W v (fewVs vs (min ps.length 6)) (fewP ps) := by
  refine PSl.of_owns hown (by rw [fewP_length]; simp [fewVs]) (fun j hj => ?_)
  rw [fewP_length] at hj
  rw [fewP_at ps j hj, fewVs_at vs _ j hj]
  have hB := (hP.each j (by omega)).below hb (Nat.le_refl _)
  obtain ⟨a1, c1, hv⟩ := hB.len
  rw [hv] at hB ⊢
  exact hB.cut rfl 80
theorem owns_up22 {B B' : Nat} {w : World} {v : Value} {n : Nat} {xs : List Value} (h : w.ownsRow B 22 1 v n xs) (hB : B' ≤ B) : w.ownsRow B' 22 1 v n xs := by
  refine ⟨h.1, ?_⟩
  rcases h.2 with h | ⟨g, cap, cur, e1, h1, h2⟩
  · exact .inl h
  · exact .inr ⟨g, cap, cur, e1, by omega, h2⟩
def FewL (vs : List Value) (n : Nat) (w : World) (v i : Value) (wr : World) : Prop :=
  ∃ k : Nat, k ≤ n ∧ i = .int .i64 k ∧ wr.ownsRow w.heap.size 22 1 v (min k 6) (fewVs vs (min k 6)) ∧ Below w.heap.size w wr
set_option maxRecDepth 100000 in
set_option maxHeartbeats 1000000 in
theorem few_any (pv : Value) (vs : List Value) (ps : List (List UInt8)) (w : World) (hP : PSl w pv vs ps) (hn : ps.length ≤ 9223372036854775807) :
    Calls Tryd.prog 22 #[pv] w fun e w' => ∃ v, e = .returned v ∧ w'.ownsRow w.heap.size 22 1 v (min ps.length 6) (fewVs vs (min ps.length 6)) ∧ Below w.heap.size w w' := by
  obtain ⟨i0, hi, hz0, hz1, hz2⟩ := info_parts info22
  have HI := Lib.hid hi
  have HZ := Lib.hid hz0
  have H1 := Lib.hid hz1
  have H2 := Lib.hid hz2
  clear hi hz0 hz1 hz2
  obtain ⟨pa, pc, rfl, hF⟩ := psl_form hP
  have HF := Lib.hid hF
  have HB := Lib.hid hP.each
  clear hF hP
  have hown0 : w.ownsRow w.heap.size 22 1 (.slice none 0 0) 0 [] := World.ownsRow_nil w w.heap.size 22 1
  go_enter Tryd.func22, Tryd.ntmps22
  go_wp2
  go_loopw [3, 8] (FewL vs ps.length w) (fun _ i _ => ps.length - (intOf i).toNat)
  case atStart => exact ⟨0, by omega, rfl, hown0, Below.refl _ _⟩
  case round =>
    obtain ⟨k, hk, rfl, hown, hb1⟩ := hrel
    have hz1 := hb1.size
    obtain ⟨av, cv, rfl⟩ := owns_form hown
    by_cases hk1 : k < ps.length
    · have d1 : decide ((k : Int) < (ps.length : Int)) = true := decide_eq_true (by omega)
      obtain ⟨b, off, rfl, hlt, hcell⟩ := HF.out k hk1
      obtain ⟨a1, c1, hv⟩ := (HB.out k hk1).len
      have hcc := (hv ▸ HB.out k hk1 : BSl w (.slice a1 (atP ps k).length c1) (atP ps k)).cap.2
      have g1 : wr.cell? ⟨b, off + k, none⟩ = some (.slice a1 (atP ps k).length c1) := by rw [← hv, hb1.cell (p := ⟨b, off + k, none⟩) hlt]; exact hcell
      have HV := Lib.hid hv
      clear hv hcell
      by_cases h8 : k < 6
      · have d8 : decide ((k : Int) < 6) = true := decide_eq_true (by omega)
        rw [show min k 6 = k by omega] at hown ⊢
        by_cases h80 : (atP ps k).length ≤ 80
        · go_wp2_with (at_builtin; refine wpList_append_own _ rfl (.tmp 15) (.tmp 21) 31 rfl w.heap.size 22 i0 (.slice none 0 0) 1 24 Tryd.underlying31 HI.out HZ.out H1.out H2.out rfl (by decide) _ _ _ rfl (hown.alloc _) ⟨wr.heap.size, 0, none⟩ 1 1 [.slice a1 (atP ps k).length c1] rfl rfl (one_new _ _ _) (by simp [Value.oneCell']) (by unfold maxLen; omega) (by omega) (by simp; omega) ?_)
          intro v2 w2 hown2 hg2 _
          have hb2 : Below w.heap.size w w2 := (hb1.alloc hz1 _).grown hg2 (by simp; omega) (fun g hg => owns_block hown hg)
          have hown3 : w2.ownsRow w.heap.size 22 1 v2 (min (k + 1) 6) (fewVs vs (min (k + 1) 6)) := by
            rw [show min (k + 1) 6 = k + 1 by omega, fewVs_succ, HV.out]
            simp only [cutV, show min (atP ps k).length 80 = (atP ps k).length by omega]
            exact hown2
          clear hown2 hown hg2
          go_wp2
          go_roundw
          case rel => exact ⟨k + 1, by omega, by go_num, hown3, hb2⟩
          case measure => simp [intOf]; omega
        · go_wp2_with (at_builtin; refine wpList_append_own _ rfl (.tmp 15) (.tmp 21) 31 rfl w.heap.size 22 i0 (.slice none 0 0) 1 24 Tryd.underlying31 HI.out HZ.out H1.out H2.out rfl (by decide) _ _ _ rfl (hown.alloc _) ⟨wr.heap.size, 0, none⟩ 1 1 [.slice a1 80 c1] rfl rfl (one_new _ _ _) (by simp [Value.oneCell']) (by unfold maxLen; omega) (by omega) (by simp; omega) ?_)
          intro v2 w2 hown2 hg2 _
          have hb2 : Below w.heap.size w w2 := (hb1.alloc hz1 _).grown hg2 (by simp; omega) (fun g hg => owns_block hown hg)
          have hown3 : w2.ownsRow w.heap.size 22 1 v2 (min (k + 1) 6) (fewVs vs (min (k + 1) 6)) := by
            rw [show min (k + 1) 6 = k + 1 by omega, fewVs_succ, HV.out]
            simp only [cutV, show min (atP ps k).length 80 = 80 by omega]
            exact hown2
          clear hown2 hown hg2
          go_wp2
          go_roundw
          case rel => exact ⟨k + 1, by omega, by go_num, hown3, hb2⟩
          case measure => simp [intOf]; omega
      · have d8 : decide ((k : Int) < 6) = false := decide_eq_false (by omega)
        have hown3 := hown
        rw [show min k 6 = min (k + 1) 6 by omega] at hown3 ⊢
        go_wp2
        go_roundw
        case rel => exact ⟨k + 1, by omega, by go_num, hown3, hb1⟩
        case measure => simp [intOf]; omega
    · have d1 : decide ((k : Int) < (ps.length : Int)) = false := decide_eq_false (by omega)
      obtain rfl : k = ps.length := by omega
      have HO := Lib.hid hown
      go_wp2
      go_ret
      exact ⟨_, rfl, HO.out, hb1⟩
attribute [local irreducible] be2 be4 be8 layTo chg shaB hmB
set_option maxRecDepth 100000 in
set_option maxHeartbeats 2000000 in
theorem laid_any (pv : Value) (s : List UInt8) (vs : List Value) (ps : List (List UInt8)) (w : World) (hP : PSl w pv vs ps) (hs : s.length ≤ 65535) (hc0 : ps.length ≤ 1000000) (ht : ps.flatten.length ≤ 100000000) :
    Calls Tryd.prog 29 #[.string ⟨s.toArray⟩, pv] w fun e w' => ∃ v, e = .returned v ∧ w'.ownsRow w.heap.size 5 1 v (layB s ps).length (c8l (layB s ps)) ∧ Below w.heap.size w w' := by
  obtain ⟨pa, pc, rfl, hF⟩ := psl_form hP
  have HF := Lib.hid hF
  clear hF
  obtain ⟨S, hS⟩ : ∃ S : ByteArray, S = ⟨s.toArray⟩ := ⟨_, rfl⟩
  rw [← hS]
  have HSt := Lib.hid hS
  clear hS
  go_enter Tryd.func29, Tryd.ntmps29
  go_wp2_with fail
  rw [HSt.out]
  refine (text_any w.heap.size [] s _ (wr_new w) (by simp) hs).mono ?_
  rintro e w3 ⟨rfl, hw3, hb3⟩
  rw [List.nil_append] at hw3
  have hb13 : Below w.heap.size w w3 := (alloc_below w).trans hb3
  clear hb3
  go_wp2
  go_loopw [14] (fun i wr => ∃ k : Nat, k ≤ ps.length ∧ i = .int .i64 k ∧ WrAt w.heap.size (layTo s ps k) wr ∧ Below w.heap.size w wr) (fun i _ => ps.length - (intOf i).toNat)
  case atStart => exact ⟨0, by omega, rfl, by unfold layTo; exact hw3, hb13⟩
  case round =>
    obtain ⟨k, hkl, rfl, hwr, hbel⟩ := hrel
    have hlen := layTo_le s ps k hkl
    have hcat := catTo_le ps k
    have HLEN := Lib.hid hlen
    clear hlen
    by_cases hlt : k < ps.length
    · have e1 : decide ((k : Int) < (ps.length : Int)) = true := decide_eq_true (by omega)
      obtain ⟨b, off, rfl, hbl, hcell⟩ := HF.out k hlt
      have hpart := catTo_part ps k hlt
      have hBk := hP.each k hlt
      obtain ⟨a1, c1, hv⟩ := hBk.len
      rw [hv] at hBk hcell
      clear hv
      have g1 : wr.cell? ⟨b, off + k, none⟩ = some (.slice a1 (atP ps k).length c1) := (hbel.cell (p := ⟨b, off + k, none⟩) hbl).trans hcell
      have hpl : (atP ps k).length ≤ 100000000 := by omega
      go_wp2_with fail
      refine (four_any w.heap.size (atP ps k).length (layTo s ps k) wr hwr (by rw [HLEN.out]; omega) (by omega)).mono ?_
      rintro e w5 ⟨rfl, hw5, hb5⟩
      have hbw5 : Below w.heap.size w w5 := hbel.trans hb5
      go_wp2_with fail
      refine (byte_any w.heap.size _ (atP ps k) _ w5 hw5 (hBk.below hbw5 (Nat.le_refl _)) (by rw [List.length_append, HLEN.out, be4_length]; omega)).mono ?_
      rintro e w6 ⟨rfl, hw6, hb6⟩
      rw [List.append_assoc] at hw6
      go_wp2
      go_roundw
      case rel => exact ⟨k + 1, by omega, by go_num, by unfold layTo; exact hw6, hbw5.trans hb6⟩
      case measure => simp [intOf]; omega
    · have e1 : decide ((k : Int) < (ps.length : Int)) = false := decide_eq_false (by omega)
      obtain rfl : k = ps.length := by omega
      obtain ⟨M, hM⟩ : ∃ M, M = layTo s ps ps.length := ⟨_, rfl⟩
      have HM := Lib.hid hM
      rw [← hM] at hwr
      have hML : M.length ≤ 800000000 := by rw [hM, HLEN.out]; omega
      clear hM
      go_wp2_with fail
      refine (done_any w.heap.size M wr hwr hML).mono ?_
      rintro e w5 ⟨v5, rfl, hown5, hb5⟩
      have hown6 := owns_up (B' := w.heap.size) hown5 (by omega)
      obtain ⟨a5, c5, rfl⟩ := owns_form hown5
      go_wp2
      go_ret
      refine ⟨_, rfl, ?_, hbel.trans hb5⟩
      unfold layB
      rw [← HM.out]
      exact hown6
end Go.Proofs.YtjkicmlelilcaaaDoor
