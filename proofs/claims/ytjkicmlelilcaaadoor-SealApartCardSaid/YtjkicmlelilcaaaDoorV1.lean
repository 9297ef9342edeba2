/- The walks over the law's closures four and eight, and over the ring of package seal. -/
import Derived.Test.YtjkicmlelilcaaaDoorS3
import Derived.Test.YtjkicmlelilcaaaDoorR2
import Derived.Test.YtjkicmlelilcaaaDoorRx
import Derived.Outline
namespace Go.Proofs.YtjkicmlelilcaaaDoor
open Go.RowKit
theorem owns_up {B B' : Nat} {w : World} {v : Value} {n : Nat} {xs : List Value} (h : w.ownsRow B 5 1 v n xs) (hB : B' ≤ B) : w.ownsRow B' 5 1 v n xs := by
  refine ⟨h.1, ?_⟩
  rcases h.2 with h | ⟨g, cap, cur, e1, h1, h2⟩
  · exact .inl h
  · exact .inr ⟨g, cap, cur, e1, by omega, h2⟩
attribute [local irreducible] be2 be4 be8
set_option maxHeartbeats 400000 in
theorem four_c (n : Nat) (w : World) (hn : n < 4294967296) : Calls Tryd.prog 44 #[.int .u32 n] w fun e w' => ∃ v, e = .returned v ∧ w'.ownsRow w.heap.size 5 1 v (be4 n).length (c8l (be4 n)) ∧ Below w.heap.size w w' := by
  go_enter Tryd.func44, Tryd.ntmps44
  go_wp2_with fail
  refine (four_any w.heap.size n [] _ (wr_new w) (by simp) hn).mono ?_
  rintro e w1 ⟨rfl, hw1, hb1⟩
  rw [List.nil_append] at hw1
  go_wp2_with fail
  refine (done_any w.heap.size (be4 n) w1 hw1 (by rw [be4_length]; decide)).mono ?_
  rintro e w2 ⟨v2, rfl, hown2, hb2⟩
  have hown3 := owns_up (B' := w.heap.size) hown2 (by omega)
  obtain ⟨a2, c2, rfl⟩ := owns_form hown2
  go_wp2
  go_ret
  exact ⟨_, rfl, hown3, (alloc_below w).trans (hb1.trans hb2)⟩
set_option maxHeartbeats 400000 in
theorem eight_c (n : Nat) (b o : Nat) (w : World) (hn : n < 18446744073709551616) (hbl : b < w.heap.size) (hc : w.cell? ⟨b, o, none⟩ = some (.func (.func 44) #[] #[])) :
    Calls Tryd.prog 47 #[.int .u64 n, .pointer (some ⟨b, o, none⟩)] w fun e w' => ∃ v, e = .returned v ∧ w'.ownsRow w.heap.size 5 1 v (be8 n).length (c8l (be8 n)) ∧ Below w.heap.size w w' := by
  have hq1 : IntKind.u32.wrap (Int.fdiv ((n : Nat) : Int) (2 ^ 32)) = ((n / 4294967296 : Nat) : Int) := by
    rw [Int.fdiv_eq_ediv_of_nonneg _ (by decide)]
    have : ((n : Nat) : Int) / 2 ^ 32 = ((n / 4294967296 : Nat) : Int) := by omega
    rw [this, wrap_u32, Nat.mod_eq_of_lt (by omega)]
  have hq2 : IntKind.u32.wrap ((n : Nat) : Int) = ((n % 4294967296 : Nat) : Int) := wrap_u32 n
  have H8 : Hid (be4 (n / 4294967296) ++ be4 (n % 4294967296) = be8 n) := by unfold be8; rfl
  go_enter Tryd.func47, Tryd.ntmps47
  go_wp2_with fail
  refine region_ext (by kernel_rfl) [some 4, some 5, some 6, some 7, some 8, some 9, some 10, some 11, some 12, some 13, some 3] (by kernel_rfl) [9] [[], [], [1], [2], [0, 3], [], [], [6], [5, 7], [4, 8], [9]] [[], [], [], [], [9], [], [], [], [9], [], []] [] [Is (.func (.func 44) #[] #[]), Is (.int .u64 ((n : Nat) : Int)), Is (.int .u64 (Int.fdiv ((n : Nat) : Int) (2 ^ 32))), Is (.int .u32 ((n / 4294967296 : Nat) : Int)), (false, fun v W => W.ownsRow w.heap.size 5 1 v (be4 (n / 4294967296)).length (c8l (be4 (n / 4294967296)))), Is (.func (.func 44) #[] #[]), Is (.int .u64 ((n : Nat) : Int)), Is (.int .u32 ((n % 4294967296 : Nat) : Int)), (false, fun v W => W.ownsRow w.heap.size 5 1 v (be4 (n % 4294967296)).length (c8l (be4 (n % 4294967296)))), (false, fun v W => W.ownsRow w.heap.size 5 1 v (be8 n).length (c8l (be8 n))), (false, fun v W => W.ownsRow w.heap.size 5 1 v (be8 n).length (c8l (be8 n)))] (by kernel_rfl) (by kernel_rfl) (by rfl) ⟨Is.keeps _, Is.keeps _, Is.keeps _, Is.keeps _, (fun _ _ _ he h => owns_below h he (Nat.le_refl _)), Is.keeps _, Is.keeps _, Is.keeps _, (fun _ _ _ he h => owns_below h he (Nat.le_refl _)), (fun _ _ _ he h => owns_below h he (Nat.le_refl _)), (fun _ _ _ he h => owns_below h he (Nat.le_refl _)), trivial⟩ ⟨?_, ?_, ?_, ?_, ?_, ?_, ?_, ?_, ?_, ?_, ?_, trivial⟩ ?_
  · intro W hW
    refine forV_nil ?_
    exact opv_run _ (by kernel_rfl) (run_load1 rfl (by kernel_rfl) Tryd.underlying85 rfl ((hW.cell (p := ⟨b, o, none⟩) hbl).trans hc)) (does_pure rfl)
  · intro W hW
    refine forV_nil ?_
    exact opv_run (.int .u64 ((n : Nat) : Int)) (by kernel_rfl) (by kernel_rfl) (does_pure rfl)
  · intro W hW v1 h1
    obtain rfl : v1 = .int .u64 ((n : Nat) : Int) := h1 rfl
    refine forV_nil ?_
    exact opv_run (.int .u64 (Int.fdiv ((n : Nat) : Int) (2 ^ 32))) (by kernel_rfl) (by kernel_rfl) (does_pure rfl)
  · intro W hW v2 h2
    obtain rfl : v2 = .int .u64 (Int.fdiv ((n : Nat) : Int) (2 ^ 32)) := h2 rfl
    refine forV_nil ?_
    refine opv_run (.int .u32 (IntKind.u32.wrap (Int.fdiv ((n : Nat) : Int) (2 ^ 32)))) (by kernel_rfl) (by kernel_rfl) (does_pure ?_)
    rw [hq1]; rfl
  · intro W hW v0 h0 v3 h3
    obtain rfl : v0 = .func (.func 44) #[] #[] := h0 rfl
    obtain rfl : v3 = .int .u32 ((n / 4294967296 : Nat) : Int) := h3 rfl
    refine forV_nil ?_
    refine opv_call 44 #[.int .u32 ((n / 4294967296 : Nat) : Int)] (by kernel_rfl) (by kernel_rfl) ((four_c (n / 4294967296) W (by omega)).mono ?_)
    rintro e w1 ⟨u, rfl, hm, hb⟩
    exact ⟨u, rfl, does_ext hW hb, owns_up hm hW.size⟩
  · intro W hW
    refine forV_nil ?_
    exact opv_run _ (by kernel_rfl) (run_load1 rfl (by kernel_rfl) Tryd.underlying85 rfl ((hW.cell (p := ⟨b, o, none⟩) hbl).trans hc)) (does_pure rfl)
  · intro W hW
    refine forV_nil ?_
    exact opv_run (.int .u64 ((n : Nat) : Int)) (by kernel_rfl) (by kernel_rfl) (does_pure rfl)
  · intro W hW v6 h6
    obtain rfl : v6 = .int .u64 ((n : Nat) : Int) := h6 rfl
    refine forV_nil ?_
    refine opv_run (.int .u32 (IntKind.u32.wrap ((n : Nat) : Int))) (by kernel_rfl) (by kernel_rfl) (does_pure ?_)
    rw [hq2]; rfl
  · intro W hW v5 h5 v7 h7
    obtain rfl : v5 = .func (.func 44) #[] #[] := h5 rfl
    obtain rfl : v7 = .int .u32 ((n % 4294967296 : Nat) : Int) := h7 rfl
    refine forV_nil ?_
    refine opv_call 44 #[.int .u32 ((n % 4294967296 : Nat) : Int)] (by kernel_rfl) (by kernel_rfl) ((four_c (n % 4294967296) W (by omega)).mono ?_)
    rintro e w1 ⟨u, rfl, hm, hb⟩
    exact ⟨u, rfl, does_ext hW hb, owns_up hm hW.size⟩
  · intro W hW v4 h4 v8 h8
    replace h4 : ((false, fun v W => W.ownsRow w.heap.size 5 1 v (be4 (n / 4294967296)).length (c8l (be4 (n / 4294967296))))).2 v4 W := h4 rfl
    replace h8 : ((false, fun v W => W.ownsRow w.heap.size 5 1 v (be4 (n % 4294967296)).length (c8l (be4 (n % 4294967296))))).2 v8 W := h8 rfl
    refine forV_nil ?_
    unfold OpV
    refine wpList_append_bsl rfl (.tmp 8) (.tmp 12) rfl w.heap.size _ (be4 (n / 4294967296)) (by kernel_rfl) h4 _ (be4 (n % 4294967296)) (by kernel_rfl) (BSl.of_owns h8) (by simp [be4_length]) hW.size ?_
    intro v' w' hown' hb'
    exact ⟨v', rfl, does_wr rfl hb', by rw [H8.out] at hown'; exact hown'⟩
  · intro W hW v9 h9
    replace h9 : ((false, fun v W => W.ownsRow w.heap.size 5 1 v (be8 n).length (c8l (be8 n)))).2 v9 W := h9 rfl
    refine forV_nil ?_
    exact opv_run v9 (by kernel_rfl) (by kernel_rfl) (does_pure h9)
  intro W hW v0 h0 v1 h1 v2 h2 v3 h3 v4 h4 v5 h5 v6 h6 v7 h7 v8 h8 v9 h9 v10 h10
  replace h0 : v0 = .func (.func 44) #[] #[] := h0 rfl; subst h0
  replace h1 : v1 = .int .u64 ((n : Nat) : Int) := h1 rfl; subst h1
  replace h2 : v2 = .int .u64 (Int.fdiv ((n : Nat) : Int) (2 ^ 32)) := h2 rfl; subst h2
  replace h3 : v3 = .int .u32 ((n / 4294967296 : Nat) : Int) := h3 rfl; subst h3
  clear h4
  replace h5 : v5 = .func (.func 44) #[] #[] := h5 rfl; subst h5
  replace h6 : v6 = .int .u64 ((n : Nat) : Int) := h6 rfl; subst h6
  replace h7 : v7 = .int .u32 ((n % 4294967296 : Nat) : Int) := h7 rfl; subst h7
  clear h8
  replace h9 : ((false, fun v W => W.ownsRow w.heap.size 5 1 v (be8 n).length (c8l (be8 n)))).2 v9 W := h9 rfl
  replace h10 : ((false, fun v W => W.ownsRow w.heap.size 5 1 v (be8 n).length (c8l (be8 n)))).2 v10 W := h10 rfl
  refine forE_end ?_
  simp only [Act.put, List.getD_cons_zero, List.getD_cons_succ, List.setIfInBounds_toArray, List.set_cons_zero, List.set_cons_succ, Nat.zero_add, Nat.reduceAdd]
  obtain ⟨a9, c9, rfl⟩ := owns_form h10
  go_wp2
  go_ret
  exact ⟨_, rfl, h10, hW⟩
end Go.Proofs.YtjkicmlelilcaaaDoor
