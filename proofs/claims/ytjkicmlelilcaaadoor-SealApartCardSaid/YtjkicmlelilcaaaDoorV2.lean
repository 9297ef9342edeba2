/- The walks over the ring of package seal. -/
import Derived.Test.YtjkicmlelilcaaaDoorV1
import Derived.Test.YtjkicmlelilcaaaDoorS4
namespace Go.Proofs.YtjkicmlelilcaaaDoor
open Go.RowKit
theorem be8_length (n : Nat) : (be8 n).length = 8 := rfl
attribute [local irreducible] be2 be4 be8 layTo layB chg shaB hmB
set_option maxHeartbeats 400000 in
theorem weight_any (p n : Nat) (bs : List UInt8) (w : World) (hw : WrAt p bs w) (hl : bs.length ≤ 700000000) (hn : n < 18446744073709551616) :
    Calls Tryd.prog 70 #[.pointer (some ⟨p, 0, none⟩), .int .u64 n] w (WrP p (bs ++ be8 n) w) := by
  have e1 : ((n : Nat) : Int) / 4294967296 = ((n / 4294967296 : Nat) : Int) := by omega
  have e2 : ((n : Nat) : Int) % 4294967296 = ((n % 4294967296 : Nat) : Int) := by omega
  have H8 : Hid (be4 (n / 4294967296) ++ be4 (n % 4294967296) = be8 n) := by unfold be8; rfl
  have HE1 := Lib.hid e1
  have HE2 := Lib.hid e2
  clear e1 e2
  go_enter Tryd.func70, Tryd.ntmps70
  go_wp2_with fail
  rw [HE1.out]
  refine (four_any p (n / 4294967296) bs w hw (by omega) (by omega)).mono ?_
  rintro e w1 ⟨rfl, hw1, hb1⟩
  go_wp2_with fail
  rw [HE2.out]
  refine (four_any p (n % 4294967296) _ w1 hw1 (by rw [List.length_append, be4_length]; omega) (by omega)).mono ?_
  rintro e w2 ⟨rfl, hw2, hb2⟩
  rw [List.append_assoc, H8.out] at hw2
  go_wp2
  go_ret
  exact ⟨rfl, hw2, hb1.trans hb2⟩

set_option maxHeartbeats 400000 in
theorem lay_67 (p q n : Nat) (bs : List UInt8) (w : World) (hw : WrAt p bs w) (hq : w.cell? ⟨q, 0, none⟩ = some (.int .u32 n)) (hn : n < 4294967296) (hl : bs.length ≤ 1000) :
    Calls Tryd.prog 67 #[.pointer (some ⟨p, 0, none⟩), .pointer (some ⟨q, 0, none⟩)] w fun e w' => e = .returned (.tuple #[]) ∧ WrAt p (bs ++ be4 n) w' ∧ Below p w w' := by
  go_enter Tryd.func67, Tryd.ntmps67
  go_wp2_with fail
  refine (four_any p n bs w hw (by omega) hn).mono ?_
  rintro e w1 ⟨rfl, hw1, hb1⟩
  go_wp2
  go_end0
  exact ⟨rfl, hw1, hb1⟩
set_option maxHeartbeats 400000 in
theorem part_67 (q n : Nat) (w : World) (hq : w.cell? ⟨q, 0, none⟩ = some (.int .u32 n)) (hql : q < w.heap.size) (hn : n < 4294967296) :
    Calls Tryd.prog 66 #[.func (.func 67) #[] #[.pointer (some ⟨q, 0, none⟩)]] w fun e w' => ∃ v, e = .returned v ∧ w'.ownsRow w.heap.size 5 1 v (be4 n).length (c8l (be4 n)) ∧ Below w.heap.size w w' := by
  go_enter Tryd.func66, Tryd.ntmps66
  go_wp2_with fail
  refine (lay_67 w.heap.size q n [] _ (wr_new w) (by rw [(alloc_below w).cell (p := ⟨q, 0, none⟩) hql]; exact hq) hn (by simp)).mono ?_
  rintro e w1 ⟨rfl, hw1, hb1⟩
  rw [List.nil_append] at hw1
  go_wp2_with fail
  refine (done_any w.heap.size (be4 n) w1 hw1 (by rw [be4_length]; decide)).mono ?_
  rintro e w2 ⟨v2, rfl, hown2, hb2⟩
  have hown3 := owns_up (B' := w.heap.size) hown2 (by omega)
  obtain ⟨a2, c2, rfl⟩ := owns_form hown2
  go_wp2
  go_ret
  exact ⟨_, rfl, hown3, (alloc_below w).trans (hb1.trans hb2)⟩

set_option maxHeartbeats 400000 in
theorem lay_68 (p q n : Nat) (bs : List UInt8) (w : World) (hw : WrAt p bs w) (hq : w.cell? ⟨q, 0, none⟩ = some (.int .u32 n)) (hn : n < 4294967296) (hl : bs.length ≤ 1000) :
    Calls Tryd.prog 68 #[.pointer (some ⟨p, 0, none⟩), .pointer (some ⟨q, 0, none⟩)] w fun e w' => e = .returned (.tuple #[]) ∧ WrAt p (bs ++ be4 n) w' ∧ Below p w w' := by
  go_enter Tryd.func68, Tryd.ntmps68
  go_wp2_with fail
  refine (four_any p n bs w hw (by omega) hn).mono ?_
  rintro e w1 ⟨rfl, hw1, hb1⟩
  go_wp2
  go_end0
  exact ⟨rfl, hw1, hb1⟩
set_option maxHeartbeats 400000 in
theorem part_68 (q n : Nat) (w : World) (hq : w.cell? ⟨q, 0, none⟩ = some (.int .u32 n)) (hql : q < w.heap.size) (hn : n < 4294967296) :
    Calls Tryd.prog 66 #[.func (.func 68) #[] #[.pointer (some ⟨q, 0, none⟩)]] w fun e w' => ∃ v, e = .returned v ∧ w'.ownsRow w.heap.size 5 1 v (be4 n).length (c8l (be4 n)) ∧ Below w.heap.size w w' := by
  go_enter Tryd.func66, Tryd.ntmps66
  go_wp2_with fail
  refine (lay_68 w.heap.size q n [] _ (wr_new w) (by rw [(alloc_below w).cell (p := ⟨q, 0, none⟩) hql]; exact hq) hn (by simp)).mono ?_
  rintro e w1 ⟨rfl, hw1, hb1⟩
  rw [List.nil_append] at hw1
  go_wp2_with fail
  refine (done_any w.heap.size (be4 n) w1 hw1 (by rw [be4_length]; decide)).mono ?_
  rintro e w2 ⟨v2, rfl, hown2, hb2⟩
  have hown3 := owns_up (B' := w.heap.size) hown2 (by omega)
  obtain ⟨a2, c2, rfl⟩ := owns_form hown2
  go_wp2
  go_ret
  exact ⟨_, rfl, hown3, (alloc_below w).trans (hb1.trans hb2)⟩

set_option maxHeartbeats 400000 in
theorem lay_69 (p q n : Nat) (bs : List UInt8) (w : World) (hw : WrAt p bs w) (hq : w.cell? ⟨q, 0, none⟩ = some (.int .u64 n)) (hn : n < 18446744073709551616) (hl : bs.length ≤ 1000) :
    Calls Tryd.prog 69 #[.pointer (some ⟨p, 0, none⟩), .pointer (some ⟨q, 0, none⟩)] w fun e w' => e = .returned (.tuple #[]) ∧ WrAt p (bs ++ be8 n) w' ∧ Below p w w' := by
  go_enter Tryd.func69, Tryd.ntmps69
  go_wp2_with fail
  refine (weight_any p n bs w hw (by omega) hn).mono ?_
  rintro e w1 ⟨rfl, hw1, hb1⟩
  go_wp2
  go_end0
  exact ⟨rfl, hw1, hb1⟩
set_option maxHeartbeats 400000 in
theorem part_69 (q n : Nat) (w : World) (hq : w.cell? ⟨q, 0, none⟩ = some (.int .u64 n)) (hql : q < w.heap.size) (hn : n < 18446744073709551616) :
    Calls Tryd.prog 66 #[.func (.func 69) #[] #[.pointer (some ⟨q, 0, none⟩)]] w fun e w' => ∃ v, e = .returned v ∧ w'.ownsRow w.heap.size 5 1 v (be8 n).length (c8l (be8 n)) ∧ Below w.heap.size w w' := by
  go_enter Tryd.func66, Tryd.ntmps66
  go_wp2_with fail
  refine (lay_69 w.heap.size q n [] _ (wr_new w) (by rw [(alloc_below w).cell (p := ⟨q, 0, none⟩) hql]; exact hq) hn (by simp)).mono ?_
  rintro e w1 ⟨rfl, hw1, hb1⟩
  rw [List.nil_append] at hw1
  go_wp2_with fail
  refine (done_any w.heap.size (be8 n) w1 hw1 (by rw [be8_length]; decide)).mono ?_
  rintro e w2 ⟨v2, rfl, hown2, hb2⟩
  have hown3 := owns_up (B' := w.heap.size) hown2 (by omega)
  obtain ⟨a2, c2, rfl⟩ := owns_form hown2
  go_wp2
  go_ret
  exact ⟨_, rfl, hown3, (alloc_below w).trans (hb1.trans hb2)⟩

set_option maxHeartbeats 400000 in
theorem lay_71 (p q n : Nat) (bs : List UInt8) (w : World) (hw : WrAt p bs w) (hq : w.cell? ⟨q, 0, none⟩ = some (.int .u64 n)) (hn : n < 18446744073709551616) (hl : bs.length ≤ 1000) :
    Calls Tryd.prog 71 #[.pointer (some ⟨p, 0, none⟩), .pointer (some ⟨q, 0, none⟩)] w fun e w' => e = .returned (.tuple #[]) ∧ WrAt p (bs ++ be8 n) w' ∧ Below p w w' := by
  go_enter Tryd.func71, Tryd.ntmps71
  go_wp2_with fail
  refine (weight_any p n bs w hw (by omega) hn).mono ?_
  rintro e w1 ⟨rfl, hw1, hb1⟩
  go_wp2
  go_end0
  exact ⟨rfl, hw1, hb1⟩
set_option maxHeartbeats 400000 in
theorem part_71 (q n : Nat) (w : World) (hq : w.cell? ⟨q, 0, none⟩ = some (.int .u64 n)) (hql : q < w.heap.size) (hn : n < 18446744073709551616) :
    Calls Tryd.prog 66 #[.func (.func 71) #[] #[.pointer (some ⟨q, 0, none⟩)]] w fun e w' => ∃ v, e = .returned v ∧ w'.ownsRow w.heap.size 5 1 v (be8 n).length (c8l (be8 n)) ∧ Below w.heap.size w w' := by
  go_enter Tryd.func66, Tryd.ntmps66
  go_wp2_with fail
  refine (lay_71 w.heap.size q n [] _ (wr_new w) (by rw [(alloc_below w).cell (p := ⟨q, 0, none⟩) hql]; exact hq) hn (by simp)).mono ?_
  rintro e w1 ⟨rfl, hw1, hb1⟩
  rw [List.nil_append] at hw1
  go_wp2_with fail
  refine (done_any w.heap.size (be8 n) w1 hw1 (by rw [be8_length]; decide)).mono ?_
  rintro e w2 ⟨v2, rfl, hown2, hb2⟩
  have hown3 := owns_up (B' := w.heap.size) hown2 (by omega)
  obtain ⟨a2, c2, rfl⟩ := owns_form hown2
  go_wp2
  go_ret
  exact ⟨_, rfl, hown3, (alloc_below w).trans (hb1.trans hb2)⟩

/-- A ring at block r that has the secret key. -/
def RingAt (r : Nat) (key : List UInt8) (w : World) : Prop := ∃ v, w.heap[r]? = some (.cells #[v] 112 (0, 0)) ∧ BSl w v key
theorem RingAt.below {r B : Nat} {key : List UInt8} {w w' : World} (h : RingAt r key w) (hb : Below B w w') (hB : w.heap.size ≤ B) : RingAt r key w' := by
  obtain ⟨v, h1, h2⟩ := h
  exact ⟨v, (hb.block r (Nat.lt_of_lt_of_le (Array.getElem?_eq_some_iff.1 h1).1 hB)).trans h1, h2.below hb hB⟩
theorem RingAt.lt {r : Nat} {key : List UInt8} {w : World} (h : RingAt r key w) : r < w.heap.size := by
  obtain ⟨v, h1, _⟩ := h
  exact (Array.getElem?_eq_some_iff.1 h1).1
set_option maxHeartbeats 400000 in
theorem ringnew_any (kv : Value) (key : List UInt8) (w : World) (hk : BSl w kv key) (hk0 : 0 < key.length) (hk1 : key.length ≤ 64) :
    Calls Tryd.prog 37 #[kv] w fun e w' => ∃ r, e = .returned (.tuple #[.pointer (some ⟨r, 0, none⟩), .int .i64 0]) ∧ RingAt r key w' ∧ w.heap.size ≤ r ∧ Below w.heap.size w w' := by
  obtain ⟨ka, kc, rfl⟩ := hk.len
  have d0 : decide (0 < key.length) = true := decide_eq_true hk0
  have d1 : decide (key.length ≤ 64) = true := decide_eq_true hk1
  go_enter Tryd.func37, Tryd.ntmps37
  go_wp2_with fail
  refine (may_any _ key w hk).mono ?_
  rintro e w1 ⟨rfl, rfl⟩
  rw [d0, d1]
  go_wp2_with fail
  refine (clone8_any _ key w hk (by omega)).mono ?_
  rintro e w2 ⟨v2, rfl, hown2, hb2⟩
  have hB2 := BSl.of_owns hown2
  obtain ⟨a2, c2, rfl⟩ := owns_form hown2
  go_wp2
  go_ret2
  exact ⟨_, rfl, ⟨_, row_new _ _ _, hB2.below (alloc_below w2) (Nat.le_refl _)⟩, hb2.size, hb2.alloc hb2.size _⟩
theorem results_row {P : Program} {fn : Func} {p : Tmp} {ty : TypeId} (h : fn.results = #[.cell p ty]) (tmps : Array Value) (w : World) (g : Nat) (t : TypeId) (cs : Array Value) (fr : Nat × Nat) (d : TypeDesc)
    (hp : tmps.getD p undef = .pointer (some ⟨g, 0, none⟩)) (hg : w.heap[g]? = some (.cells cs t fr))
    (hu : P.underlying ty = some d) (hd : (match d with | .struct _ | .array _ _ => true | _ => false) = true) (hi : (P.info? ty).map (·.size) = some cs.size) :
    (results fn tmps).run P w = .ok (.agg cs) w := by
  have hp' : tmps[p]?.getD undef = .pointer (some ⟨g, 0, none⟩) := by simpa using hp
  simp [results, h, hp', asAddr, run_loadVar_row w g t ty cs fr d hg hu hd hi]
def zer32 : List UInt8 := List.replicate 32 0
theorem zer43 (w : World) : (w.alloc (.cells #[.int .u8 0, .int .u8 0, .int .u8 0, .int .u8 0, .int .u8 0, .int .u8 0, .int .u8 0, .int .u8 0, .int .u8 0, .int .u8 0, .int .u8 0, .int .u8 0, .int .u8 0, .int .u8 0, .int .u8 0, .int .u8 0, .int .u8 0, .int .u8 0, .int .u8 0, .int .u8 0, .int .u8 0, .int .u8 0, .int .u8 0, .int .u8 0, .int .u8 0, .int .u8 0, .int .u8 0, .int .u8 0, .int .u8 0, .int .u8 0, .int .u8 0, .int .u8 0] 43)).heap[w.heap.size]? = some (.cells (c8 zer32) 43 (0, 0)) := row_new _ _ _
set_option maxRecDepth 100000 in
set_option maxHeartbeats 1000000 in
theorem key_any (r : Nat) (pv : Value) (key s : List UInt8) (vs : List Value) (ps : List (List UInt8)) (w : World) (hR : RingAt r key w) (hP : PSl w pv vs ps) (hk0 : 0 < key.length) (hk1 : key.length ≤ 64) (hs : s.length ≤ 65535)
    (hc0 : ps.length ≤ 1000000) (ht : ps.flatten.length ≤ 100000000) (hK : GlobK w) (hS : GlobS w) (h3 : 3 < w.heap.size) :
    Calls Tryd.prog 65 #[.pointer (some ⟨r, 0, none⟩), .string ⟨s.toArray⟩, pv] w fun e w' => e = .returned (.agg (c8 (hmB key (layB s ps)))) ∧ Below w.heap.size w w' := by
  have HK : Hid (GlobK w) := hK
  have HS : Hid (GlobS w) := hS
  clear hK hS
  have hrl := hR.lt
  obtain ⟨v, hr, hB⟩ := hR
  obtain ⟨ka, kc, rfl⟩ := hB.len
  obtain ⟨pa, pc, rfl, _⟩ := psl_form hP
  obtain ⟨S, hSt⟩ : ∃ S : ByteArray, S = ⟨s.toArray⟩ := ⟨_, rfl⟩
  rw [← hSt]
  have HSt := Lib.hid hSt
  clear hSt
  obtain ⟨Y, hY⟩ : ∃ Y, Y = hmB key (layB s ps) := ⟨_, rfl⟩
  have HYL : Hid (Y.length = 32) := by rw [hY]; exact hmB_length _ _
  rw [← hY]
  have HY := Lib.hid hY
  clear hY
  have HR0 := Lib.hid (zer43 w)
  have HC := Lib.hid (cell_of_row w r 0 _ 112 (0, 0) hr)
  clear hr
  go_enter Tryd.func65, Tryd.ntmps65
  have c0 : (w.alloc (.cells #[.int .u8 0, .int .u8 0, .int .u8 0, .int .u8 0, .int .u8 0, .int .u8 0, .int .u8 0, .int .u8 0, .int .u8 0, .int .u8 0, .int .u8 0, .int .u8 0, .int .u8 0, .int .u8 0, .int .u8 0, .int .u8 0, .int .u8 0, .int .u8 0, .int .u8 0, .int .u8 0, .int .u8 0, .int .u8 0, .int .u8 0, .int .u8 0, .int .u8 0, .int .u8 0, .int .u8 0, .int .u8 0, .int .u8 0, .int .u8 0, .int .u8 0, .int .u8 0] 43)).cell? ⟨r, 0, none⟩ = some (.slice ka key.length kc) := ((alloc_below w).cell (p := ⟨r, 0, none⟩) hrl).trans HC.out
  go_wp2_with fail
  generalize hw1 : w.alloc _ = w1 at HR0 c0 ⊢
  have hb1 : Below w.heap.size w w1 := by rw [← hw1]; exact alloc_below w
  have hz1 : w.heap.size < w1.heap.size := by rw [← hw1]; simp
  clear hw1
  rw [HSt.out]
  refine (derive_any _ _ key s vs ps w1 (hB.below hb1 (Nat.le_refl _)) (hP.below hb1 (Nat.le_refl _)) hk0 hk1 hs hc0 ht (HK.out.below hb1 h3) (HS.out.below hb1 h3) (mid_lt h3 hb1)).mono ?_
  rintro e w2 ⟨rfl, hb2⟩
  rw [← HY.out]
  have hb12 : Below w.heap.size w w2 := hb1.trans (hb2.mono hb1.size)
  have HR2 : Hid (w2.heap[w.heap.size]? = some (.cells (c8 zer32) 43 (0, 0))) := (hb2.block _ hz1).trans HR0.out
  have HI43 : Hid ((Tryd.prog.info? 43).map (·.size) = some (c8 Y).size) := by rw [c8_size, HYL.out]; exact info43
  have HQ : Hid ((c8 zer32).size = (c8 Y).size) := by rw [c8_size, c8_size, HYL.out]; simp [Hid, zer32]
  go_wp2_with (refine wpList_store_new43 (o := { dst := none, op := .store 43 (.tmp 7) (.tmp 20), type := _, pos := _, after := _, guard := none }) rfl (.tmp 7) (.tmp 20) rfl Y HYL.out rfl rfl ?_)
  intro w3 hb3 HG3 HZ3
  have hb13 : Below w.heap.size w w3 := hb12.trans (hb3.mono hb12.size)
  have HR3 : Hid (w3.heap[w.heap.size]? = some (.cells (c8 zer32) 43 (0, 0))) := (hb3.block _ (Nat.lt_of_lt_of_le hz1 hb2.size)).trans HR2.out
  go_wp2_with (first | (refine wpList_load_row (o := { dst := some 22, op := .load 43 (.tmp 7), type := _, pos := _, after := _, guard := none }) rfl 43 (.tmp 7) rfl w2.heap.size rfl 43 (c8 Y) (0, 0) _ HG3.out Tryd.underlying43 rfl HI43.out ?_) | (refine wpList_store_row (o := { dst := none, op := .store 43 (.tmp 6) (.tmp 22), type := _, pos := _, after := _, guard := none }) rfl 43 (.tmp 6) (.tmp 22) rfl w.heap.size (c8 Y) rfl rfl 43 _ HR3.out HI43.out HQ.out (c8_one _) ?_))
  refine bodyPost_ret (results_row (p := 6) (ty := 43) rfl _ _ w.heap.size 43 _ (0, 0) _ rfl (setRow_heap _ _ _ _ _ _ HR3.out) Tryd.underlying43 rfl HI43.out) rfl ?_
  exact ⟨rfl, below_setRow hb13 (Nat.le_refl _) _⟩
end Go.Proofs.YtjkicmlelilcaaaDoor
