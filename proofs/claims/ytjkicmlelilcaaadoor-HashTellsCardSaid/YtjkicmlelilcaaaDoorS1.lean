/- The walks over the writer of package scribe. -/
import Derived.Test.YtjkicmlelilcaaaDoorK1
import Derived.Lib.ConvBytes
namespace Go.Proofs.YtjkicmlelilcaaaDoor
open Go.RowKit

/-- A writer at block p that holds the bytes bs, and no error. -/
def WrAt (p : Nat) (bs : List UInt8) (w : World) : Prop :=
  ∃ v, w.heap[p]? = some (.cells #[v, .int .i64 0] 80 (0, 0)) ∧ w.ownsRow (p + 1) 5 1 v bs.length (c8l bs)
theorem WrAt.below {p B : Nat} {bs : List UInt8} {w w' : World} (h : WrAt p bs w) (hb : Below B w w') (hB : w.heap.size ≤ B) : WrAt p bs w' := by
  obtain ⟨v, h1, h2⟩ := h
  exact ⟨v, (hb.block p (Nat.lt_of_lt_of_le (Array.getElem?_eq_some_iff.1 h1).1 hB)).trans h1, owns_below h2 hb hB⟩
theorem WrAt.lt {p : Nat} {bs : List UInt8} {w : World} (h : WrAt p bs w) : p < w.heap.size := by
  obtain ⟨v, h1, _⟩ := h
  exact (Array.getElem?_eq_some_iff.1 h1).1
theorem wr_set {w : World} {p : Nat} {v0 x : Value} (h : w.heap[p]? = some (.cells #[v0, x] 80 (0, 0))) (v : Value) : (w.setCell ⟨p, 0, none⟩ v).heap[p]? = some (.cells #[v, x] 80 (0, 0)) := by
  unfold World.setCell; simp [Array.getElem?_modify, h]
theorem owns_setCell {w : World} {base n p i : Nat} {v u : Value} {xs : List Value} (h : w.ownsRow base 5 1 v n xs) (hp : p < base) : (w.setCell ⟨p, i, none⟩ u).ownsRow base 5 1 v n xs := by
  refine ⟨h.1, ?_⟩
  rcases h.2 with h | ⟨g, cap, cur, e1, h1, hh, h2⟩
  · exact .inl h
  · exact .inr ⟨g, cap, cur, e1, h1, (heap_setCell_other _ _ _ _ (by simp; omega)).trans hh, h2⟩
theorem grown_block {w w' : World} {p : Nat} {b : Option Nat} (hg : w.grownBy w' b) (hp : p < w.heap.size) (h : ∀ g, b = some g → p < g) : w'.heap[p]? = w.heap[p]? :=
  hg.block p hp (fun e => by have := h p e.symm; omega)

theorem owns_form {w : World} {base e n : Nat} {v : Value} {xs : List Value} (h : w.ownsRow base e 1 v n xs) : ∃ a c, v = .slice a n c := by
  rcases h.2 with ⟨rfl, rfl⟩ | ⟨g, cap, cur, rfl, _⟩
  · exact ⟨_, _, rfl⟩
  · exact ⟨_, _, rfl⟩

/-- What a walk over the writer leaves. -/
def WrP (p : Nat) (bs : List UInt8) (w : World) (e : Ending) (w' : World) : Prop :=
  e = .returned (.pointer (some ⟨p, 0, none⟩)) ∧ WrAt p bs w' ∧ Below p w w'

set_option maxHeartbeats 1000000 in
theorem byte_any (p : Nat) (bs l : List UInt8) (lv : Value) (w : World) (hw : WrAt p bs w) (hl : BSl w lv l) (hn : bs.length + l.length ≤ 1000000000) :
    Calls Tryd.prog 59 #[.pointer (some ⟨p, 0, none⟩), lv] w (WrP p (bs ++ l) w) := by
  obtain ⟨i0, hi, hz0, hz1, hz2⟩ := info_parts info5
  have HI := Lib.hid hi
  have HZ := Lib.hid hz0
  have H1 := Lib.hid hz1
  have H2 := Lib.hid hz2
  clear hi hz0 hz1 hz2
  obtain ⟨v, hp, hown⟩ := hw
  have hps := (Array.getElem?_eq_some_iff.1 hp).1
  obtain ⟨a, c, rfl⟩ := (BSl.of_owns hown).len
  have c0 : w.cell? ⟨p, 0, none⟩ = some (.slice a bs.length c) := cell_of_row w p 0 _ 80 (0, 0) hp
  have c1 : w.cell? ⟨p, 1, none⟩ = some (.int .i64 0) := cell_of_row w p 1 _ 80 (0, 0) hp
  have f0 : w.frozen? ⟨p, 0, none⟩ = false := row_free hp 0
  have HP := Lib.hid hp
  clear hp
  rcases hl with ⟨rfl, rfl⟩ | ⟨b1, o1, k1, rfl, hc1, hl1, hx1⟩ | ⟨a1, rfl, rfl⟩
  · go_enter Tryd.func59, Tryd.ntmps59
    go_wp2_with (at_builtin; refine wpList_append_own_none rfl (.tmp 18) (.tmp 19) 22 rfl (p + 1) 5 i0 1 Tryd.underlying22 HI.out _ _ _ rfl hown rfl ?_)
    go_ret
    refine ⟨rfl, ⟨_, wr_set HP.out _, ?_⟩, (Below.refl p w).setCell (p := ⟨p, 0, none⟩) (Nat.le_refl _) _⟩
    rw [List.append_nil]
    exact owns_setCell hown (by omega)
  · have HX1 := Lib.hid hx1
    clear hx1
    go_enter Tryd.func59, Tryd.ntmps59
    go_wp2_with (at_builtin; refine wpList_append_own _ rfl (.tmp 18) (.tmp 19) 22 rfl (p + 1) 5 i0 (.int .u8 0) 1 1 Tryd.underlying22 HI.out HZ.out H1.out H2.out rfl (by decide) _ _ _ rfl hown ⟨b1, o1, none⟩ l.length k1 (c8l l) rfl (by rw [c8l_length]; omega) (news_of HX1.out) (c8l_one _) (by unfold maxLen; omega) (by omega) (by omega) ?_)
    intro v' w2 hown2 hg2 _
    rw [← c8l_append] at hown2
    have hp2 : w2.heap[p]? = some (.cells #[.slice a bs.length c, .int .i64 0] 80 (0, 0)) := (grown_block hg2 hps (fun g hg => by have := owns_block hown hg; omega)).trans HP.out
    have hb2 : Below p w w2 := (Below.refl _ _).grown hg2 (by omega) (fun g hg => by have := owns_block hown hg; omega)
    obtain ⟨a2, c2, rfl⟩ := owns_form hown2
    have d0 : w2.cell? ⟨p, 0, none⟩ = some (.slice a bs.length c) := cell_of_row w2 p 0 _ 80 (0, 0) hp2
    have e0 : w2.frozen? ⟨p, 0, none⟩ = false := row_free hp2 0
    have HP2 := Lib.hid hp2
    clear hp2
    go_wp2
    go_ret
    exact ⟨rfl, ⟨_, wr_set HP2.out _, by rw [List.length_append]; exact owns_setCell hown2 (by omega)⟩, hb2.setCell (p := ⟨p, 0, none⟩) (Nat.le_refl _) _⟩
  · go_enter Tryd.func59, Tryd.ntmps59
    go_wp2_with (at_builtin; refine wpList_append_own _ rfl (.tmp 18) (.tmp 19) 22 rfl (p + 1) 5 i0 (.int .u8 0) 1 1 Tryd.underlying22 HI.out HZ.out H1.out H2.out rfl (by decide) _ _ _ rfl hown a1 0 0 [] rfl rfl (fun j u hu => by simp at hu) (fun u hu => by simp at hu) (by unfold maxLen; omega) (by omega) (by omega) ?_)
    intro v' w2 hown2 hg2 _
    have hp2 : w2.heap[p]? = some (.cells #[.slice a bs.length c, .int .i64 0] 80 (0, 0)) := (grown_block hg2 hps (fun g hg => by have := owns_block hown hg; omega)).trans HP.out
    have hb2 : Below p w w2 := (Below.refl _ _).grown hg2 (by omega) (fun g hg => by have := owns_block hown hg; omega)
    obtain ⟨a2, c2, rfl⟩ := owns_form hown2
    have d0 : w2.cell? ⟨p, 0, none⟩ = some (.slice a bs.length c) := cell_of_row w2 p 0 _ 80 (0, 0) hp2
    have e0 : w2.frozen? ⟨p, 0, none⟩ = false := row_free hp2 0
    have HP2 := Lib.hid hp2
    clear hp2
    go_wp2
    go_ret
    exact ⟨rfl, ⟨_, wr_set HP2.out _, by rw [List.append_nil]; exact owns_setCell hown2 (by omega)⟩, hb2.setCell (p := ⟨p, 0, none⟩) (Nat.le_refl _) _⟩

/-- A number of two bytes, of four, of eight. -/
def be2 (n : Nat) : List UInt8 := [UInt8.ofNat (n / 256), UInt8.ofNat n]
def be4 (n : Nat) : List UInt8 := be2 (n / 65536) ++ be2 (n % 65536)
def be8 (n : Nat) : List UInt8 := be4 (n / 4294967296) ++ be4 (n % 4294967296)
theorem be2_length (n : Nat) : (be2 n).length = 2 := rfl
theorem be4_length (n : Nat) : (be4 n).length = 4 := rfl
theorem n8_of (n : Nat) : N8 (UInt8.ofNat n) = ((n : Int) % 256) := by
  unfold N8; rw [UInt8.toNat_ofNat']; omega
theorem be2_cells (n : Nat) (h : n < 65536) : (#[Value.int .u8 ((n : Int) / 256), .int .u8 ((n : Int) % 256)] : Array Value) = c8 (be2 n) := by
  unfold c8 c8l be2
  simp only [List.map_cons, List.map_nil, n8_of]
  rw [show ((n / 256 : Nat) : Int) % 256 = (n : Int) / 256 by omega]
theorem bytes_world {w : World} (s : List UInt8) : Below w.heap.size w (Lib.bytesWorld w 5 ⟨s.toArray⟩) ∧ BSl (Lib.bytesWorld w 5 ⟨s.toArray⟩) (.slice (some ⟨w.heap.size, 0, none⟩) s.length (grownCap w s.length 0 5)) s := by
  have hsz : (⟨s.toArray⟩ : ByteArray).size = s.length := by simp [ByteArray.size]
  have hge := grownCap_ge w s.length 0 5
  have hb : Below w.heap.size w (Lib.bytesWorld w 5 ⟨s.toArray⟩) := ⟨rfl, rfl, rfl, by rw [Lib.bytesWorld_size]; omega, fun k hk => Lib.bytesWorld_at_old w 5 _ k hk⟩
  refine ⟨hb, .inr (.inl ⟨w.heap.size, 0, _, rfl, hge, by rw [Lib.bytesWorld_size]; omega, fun j hj => ?_⟩)⟩
  rw [Nat.zero_add, Lib.bytesWorld_cell w 5 ⟨s.toArray⟩ j (by rw [hsz]; exact hj)]
  rfl
theorem wrap_u16 (n : Nat) : IntKind.u16.wrap (n : Int) = ((n % 65536 : Nat) : Int) := by
  simp [IntKind.wrap, IntKind.bits, IntKind.signed]
attribute [local irreducible] be2 be4 be8
set_option maxHeartbeats 1000000 in
theorem two_any (p n : Nat) (bs : List UInt8) (w : World) (hw : WrAt p bs w) (hn : bs.length ≤ 900000000) (h2 : n < 65536) :
    Calls Tryd.prog 72 #[.pointer (some ⟨p, 0, none⟩), .int .u16 n] w (WrP p (bs ++ be2 n) w) := by
  have HB := Lib.hid (be2_cells n h2)
  have hps := hw.lt
  go_enter Tryd.func72, Tryd.ntmps72
  go_wp2_with fail
  rw [HB.out]
  refine (byte_any p bs (be2 n) _ _ (hw.below (alloc_below w) (Nat.le_refl _)) (BSl.lit (be2_length n).symm (Nat.le_refl _)) (by rw [be2_length]; omega)).mono ?_
  rintro e w1 ⟨rfl, hw1, hb1⟩
  go_wp2
  go_ret
  exact ⟨rfl, hw1, ((alloc_below w).mono (by omega)).trans hb1⟩
set_option maxHeartbeats 1000000 in
theorem four_any (p n : Nat) (bs : List UInt8) (w : World) (hw : WrAt p bs w) (hn : bs.length ≤ 800000000) (h2 : n < 4294967296) :
    Calls Tryd.prog 45 #[.pointer (some ⟨p, 0, none⟩), .int .u32 n] w (WrP p (bs ++ be4 n) w) := by
  have e1 : (n : Int) / 65536 = ((n / 65536 : Nat) : Int) := by omega
  have e2 := wrap_u16 n
  have HE1 := Lib.hid e1
  have HE2 := Lib.hid e2
  clear e1 e2
  go_enter Tryd.func45, Tryd.ntmps45
  go_wp2_with fail
  rw [HE1.out]
  refine (two_any p (n / 65536) bs w hw (by omega) (by omega)).mono ?_
  rintro e w1 ⟨rfl, hw1, hb1⟩
  go_wp2_with fail
  rw [HE2.out]
  refine (two_any p (n % 65536) _ w1 hw1 (by rw [List.length_append, be2_length]; omega) (by omega)).mono ?_
  rintro e w2 ⟨rfl, hw2, hb2⟩
  rw [List.append_assoc] at hw2
  go_wp2
  go_ret
  exact ⟨rfl, by unfold be4; exact hw2, hb1.trans hb2⟩
set_option maxHeartbeats 1000000 in
theorem text_any (p : Nat) (bs s : List UInt8) (w : World) (hw : WrAt p bs w) (hn : bs.length ≤ 800000000) (h2 : s.length ≤ 65535) :
    Calls Tryd.prog 58 #[.pointer (some ⟨p, 0, none⟩), .string ⟨s.toArray⟩] w (WrP p (bs ++ (be2 s.length ++ s)) w) := by
  have hd : decide ((65535 : Int) < (s.length : Int)) = false := decide_eq_false (by omega)
  obtain ⟨S, hS⟩ : ∃ S : ByteArray, S = ⟨s.toArray⟩ := ⟨_, rfl⟩
  have hsz : S.size = s.length := by rw [hS]; simp [ByteArray.size]
  rw [← hS]
  have HS := Lib.hid hS
  clear hS
  have hcv : ∀ w : World, (convert 9 22 (.string S)).run Tryd.prog w = .ok (.slice (some ⟨w.heap.size, 0, none⟩) s.length (grownCap w s.length 0 5)) (Lib.bytesWorld w 5 S) := fun w => by
    have := Lib.run_convert_string_bytes (P := Tryd.prog) w 9 22 5 S Tryd.underlying9 Tryd.underlying22 Tryd.underlying5
    rwa [hsz] at this
  go_enter Tryd.func58, Tryd.ntmps58
  go_wp2_with fail
  refine (byte_any p bs [] _ w hw (.inl ⟨rfl, rfl⟩) (by simp; omega)).mono ?_
  rw [List.append_nil]
  rintro e w1 ⟨rfl, hw1, hb1⟩
  go_wp2_with fail
  refine (two_any p s.length bs w1 hw1 (by omega) (by omega)).mono ?_
  rintro e w2 ⟨rfl, hw2, hb2⟩
  have hb3 := (bytes_world (w := w2) s).1
  have hB3 := (bytes_world (w := w2) s).2
  rw [← HS.out] at hb3 hB3
  have hps := hw2.lt
  go_wp2_with fail
  refine (byte_any p _ s _ _ (hw2.below hb3 (Nat.le_refl _)) hB3 (by rw [List.length_append, be2_length]; omega)).mono ?_
  rintro e w4 ⟨rfl, hw4, hb4⟩
  rw [List.append_assoc] at hw4
  go_wp2
  go_ret
  exact ⟨rfl, hw4, hb1.trans (hb2.trans ((hb3.mono (by omega)).trans hb4))⟩
set_option maxHeartbeats 1000000 in
theorem done_any (p : Nat) (bs : List UInt8) (w : World) (hw : WrAt p bs w) (hn : bs.length ≤ 800000000) :
    Calls Tryd.prog 46 #[.pointer (some ⟨p, 0, none⟩)] w fun e w' => ∃ v, e = .returned (.tuple #[v, .int .i64 0]) ∧ w'.ownsRow (p + 1) 5 1 v bs.length (c8l bs) ∧ Below p w w' := by
  go_enter Tryd.func46, Tryd.ntmps46
  go_wp2_with fail
  refine (byte_any p bs [] _ w hw (.inl ⟨rfl, rfl⟩) (by simp; omega)).mono ?_
  rw [List.append_nil]
  rintro e w1 ⟨rfl, ⟨v, hp1, hown1⟩, hb1⟩
  have hps := (Array.getElem?_eq_some_iff.1 hp1).1
  obtain ⟨a, c, rfl⟩ := owns_form hown1
  have c0 : w1.cell? ⟨p, 0, none⟩ = some (.slice a bs.length c) := cell_of_row w1 p 0 _ 80 (0, 0) hp1
  have c1 : w1.cell? ⟨p, 1, none⟩ = some (.int .i64 0) := cell_of_row w1 p 1 _ 80 (0, 0) hp1
  go_wp2_with fail
  refine (clone8_any _ bs w1 (BSl.of_owns hown1) (by omega)).mono ?_
  rintro e w2 ⟨v2, rfl, hown2, hb2⟩
  go_wp2
  go_ret2
  refine ⟨_, rfl, ⟨hown2.1, ?_⟩, hb1.trans (hb2.mono (by omega))⟩
  rcases hown2.2 with h | ⟨g, cap, cur, e1, h1, h2⟩
  · exact .inl h
  · exact .inr ⟨g, cap, cur, e1, by omega, h2⟩
end Go.Proofs.YtjkicmlelilcaaaDoor
