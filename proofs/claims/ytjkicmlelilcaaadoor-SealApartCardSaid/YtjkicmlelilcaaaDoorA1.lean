/- The walks over few, laid, the reader's Text, Four, Err and Left, bytes.Equal; what is laid tells its parts. -/
import Derived.Test.YtjkicmlelilcaaaDoorV3
import Derived.Test.YtjkicmlelilcaaaDoorT1
namespace Go.Proofs.YtjkicmlelilcaaaDoor
open Go.RowKit
/-! Plain facts. -/
theorem num_cons (l : List UInt8) (a : UInt8) : ∀ k, num (a :: l) (k + 1) = a.toNat * 256 ^ k + num l k := by
  intro k
  induction k with
  | zero => simp [num, at8]
  | succ k ih =>
    rw [num, ih, num, Nat.add_mul, Nat.mul_assoc, ← Nat.pow_succ, Nat.add_assoc]
    rfl
theorem num_be2 (n : Nat) (l : List UInt8) (h : n < 65536) : num (be2 n ++ l) 2 = n := by
  show num (_ :: _ :: l) 2 = n
  rw [num_cons, num_cons]
  simp [num, UInt8.toNat_ofNat']
  omega
theorem num_be4 (n : Nat) (l : List UInt8) (h : n < 4294967296) : num (be4 n ++ l) 4 = n := by
  show num (_ :: _ :: _ :: _ :: l) 4 = n
  rw [num_cons, num_cons, num_cons, num_cons]
  simp [num, UInt8.toNat_ofNat']
  omega
/-- What stands behind a label: the parts, each behind its length. -/
def tailB : List (List UInt8) → List UInt8
  | [] => []
  | p :: ps => be4 p.length ++ p ++ tailB ps
theorem layTo_eq (s : List UInt8) (ps : List (List UInt8)) (k : Nat) (h : k ≤ ps.length) : layTo s ps k = be2 s.length ++ s ++ tailB (ps.take k) := by
  have snoc : ∀ (l : List (List UInt8)) (p : List UInt8), tailB (l ++ [p]) = tailB l ++ (be4 p.length ++ p) := by
    intro l p
    induction l with
    | nil => simp [tailB]
    | cons x l ih => simp [tailB, ih]
  induction k with
  | zero => simp [layTo, tailB]
  | succ k ih =>
    rw [layTo, ih (by omega), List.take_succ_eq_append_getElem (by omega), snoc]
    have e : atP ps k = ps[k] := by unfold atP; rw [List.getD_eq_getElem?_getD, List.getElem?_eq_getElem (by omega)]; rfl
    rw [e]; simp
theorem layB_eq (s : List UInt8) (ps : List (List UInt8)) : layB s ps = be2 s.length ++ s ++ tailB ps := by
  unfold layB; rw [layTo_eq s ps _ (Nat.le_refl _), List.take_length]
theorem tailB_inj : ∀ (ps qs : List (List UInt8)), (∀ p ∈ ps, p.length < 4294967296) → (∀ q ∈ qs, q.length < 4294967296) → tailB ps = tailB qs → ps = qs
  | [], [], _, _, _ => rfl
  | [], q :: qs, _, _, h => by
    have := congrArg List.length h
    simp [tailB, be4_length] at this
    omega
  | p :: ps, [], _, _, h => by
    have := congrArg List.length h
    simp [tailB, be4_length] at this
  | p :: ps, q :: qs, hp, hq, h => by
    have h1 := hp p List.mem_cons_self
    have h2 := hq q List.mem_cons_self
    simp only [tailB, List.append_assoc] at h
    have hn := congrArg (fun l => num l 4) h
    simp only [num_be4 _ _ h1, num_be4 _ _ h2] at hn
    have h4 := List.append_inj h (by rw [be4_length, be4_length])
    have h5 := List.append_inj h4.2 hn
    rw [h5.1, tailB_inj ps qs (fun x hx => hp x (List.mem_cons_of_mem _ hx)) (fun x hx => hq x (List.mem_cons_of_mem _ hx)) h5.2]
theorem layB_inj (s t : List UInt8) (ps qs : List (List UInt8)) (hs : s.length < 65536) (ht : t.length < 65536) (hp : ∀ p ∈ ps, p.length < 4294967296) (hq : ∀ q ∈ qs, q.length < 4294967296) : (layB s ps = layB t qs) ↔ (s = t ∧ ps = qs) := by
  constructor
  · intro h
    rw [layB_eq, layB_eq, List.append_assoc, List.append_assoc] at h
    have hn := congrArg (fun l => num l 2) h
    simp only [num_be2 _ _ hs, num_be2 _ _ ht] at hn
    have h4 := List.append_inj h (by rw [be2_length, be2_length])
    have h5 := List.append_inj h4.2 hn
    exact ⟨h5.1, tailB_inj ps qs hp hq h5.2⟩
  · rintro ⟨rfl, rfl⟩; rfl
attribute [local irreducible] OpV be2 be4 be8 layTo layB chg shaB hmB tailB num
/-! The reader. -/
theorem But.trans {r : Nat} {x y z : World} (h : But r x y) (h' : But r y z) : But r x z :=
  ⟨h'.os.trans h.os, h'.tape.trans h.tape, h'.output.trans h.output, Nat.le_trans h.size h'.size, fun k hk hne => (h'.block k (Nat.lt_of_lt_of_le hk h.size) hne).trans (h.block k hk hne)⟩
theorem wrap_u16n (n : Nat) (h : n < 65536) : IntKind.u16.wrap (n : Int) = n := by rw [wrap_u16, Nat.mod_eq_of_lt h]
theorem wrap_u32n (n : Nat) (h : n < 4294967296) : IntKind.u32.wrap (n : Int) = n := by rw [wrap_u32, Nat.mod_eq_of_lt h]
set_option maxHeartbeats 400000 in
theorem rtwo_any (r : Nat) (bs : List UInt8) (w : World) (h : RdAt r bs w) (hn : bs.length ≤ 1000000000) (hk : 2 ≤ bs.length) :
    Calls Tryd.prog 63 #[.pointer (some ⟨r, 0, none⟩)] w fun e w' => e = .returned (.int .u16 (num bs 2)) ∧ RdAt r (bs.drop 2) w' ∧ But r w w' := by
  have hl : num bs 2 < 65536 := num_lt bs 2
  have HW := Lib.hid (wrap_u16n _ hl)
  go_enter Tryd.func63, Tryd.ntmps63
  go_wp2_with fail
  refine (number_any r 2 bs w h hn hk (by omega)).mono ?_
  rintro e w1 ⟨rfl, h1, h2⟩
  go_wp2
  go_ret
  exact ⟨ret_int (by first | rfl | exact HW.out | omega), h1, h2⟩
set_option maxHeartbeats 400000 in
theorem rfour_any (r : Nat) (bs : List UInt8) (w : World) (h : RdAt r bs w) (hn : bs.length ≤ 1000000000) (hk : 4 ≤ bs.length) :
    Calls Tryd.prog 34 #[.pointer (some ⟨r, 0, none⟩)] w fun e w' => e = .returned (.int .u32 (num bs 4)) ∧ RdAt r (bs.drop 4) w' ∧ But r w w' := by
  have hl : num bs 4 < 4294967296 := num_lt bs 4
  have HW := Lib.hid (wrap_u32n _ hl)
  go_enter Tryd.func34, Tryd.ntmps34
  go_wp2_with fail
  refine (number_any r 4 bs w h hn hk (by omega)).mono ?_
  rintro e w1 ⟨rfl, h1, h2⟩
  go_wp2
  go_ret
  exact ⟨ret_int (by first | rfl | exact HW.out | omega), h1, h2⟩
set_option maxHeartbeats 400000 in
theorem rtext_any (r : Nat) (s bs : List UInt8) (w : World) (h : RdAt r (be2 s.length ++ (s ++ bs)) w) (hs : s.length < 65536) (hn : bs.length ≤ 900000000) :
    Calls Tryd.prog 31 #[.pointer (some ⟨r, 0, none⟩)] w fun e w' => e = .returned (.string ⟨s.toArray⟩) ∧ RdAt r bs w' ∧ But r w w' := by
  have HL : Hid ((be2 s.length ++ (s ++ bs)).length = 2 + s.length + bs.length) := by show _ = _; rw [List.length_append, be2_length, List.length_append]; omega
  have HN := Lib.hid (num_be2 s.length (s ++ bs) hs)
  have HD : Hid ((be2 s.length ++ (s ++ bs)).drop 2 = s ++ bs) := by show _ = _; rw [show 2 = (be2 s.length).length from (be2_length _).symm, List.drop_left]
  go_enter Tryd.func31, Tryd.ntmps31
  go_wp2_with fail
  refine (rtwo_any r _ w h (by rw [HL.out]; omega) (by rw [HL.out]; omega)).mono ?_
  rintro e w1 ⟨rfl, h1, hb1⟩
  rw [HN.out]
  rw [HD.out] at h1
  go_wp2_with fail
  refine (rtake_any r s.length (s ++ bs) w1 h1 (by rw [List.length_append]; omega) (by rw [List.length_append]; omega)).mono ?_
  rintro e w2 ⟨v2, rfl, hown2, h2, hb2⟩
  rw [List.take_left] at hown2
  rw [List.drop_left] at h2
  have e2 := conv_str (BSl.of_owns hown2)
  obtain ⟨a2, c2, rfl⟩ := owns_form hown2
  go_wp2
  go_ret
  exact ⟨rfl, h2, But.trans hb1 hb2⟩
set_option maxHeartbeats 400000 in
theorem rerr_any (r : Nat) (bs : List UInt8) (w : World) (h : RdAt r bs w) : Calls Tryd.prog 35 #[.pointer (some ⟨r, 0, none⟩)] w fun e w' => e = .returned (.int .i64 0) ∧ w = w' := by
  obtain ⟨v, hr, _⟩ := h
  have c1 : w.cell? ⟨r, 1, none⟩ = some (.bool false) := cell_of_row w r 1 _ 107 (0, 0) hr
  clear hr
  go_enter Tryd.func35, Tryd.ntmps35
  go_wp2
  go_ret
  exact ⟨rfl, rfl⟩
set_option maxHeartbeats 400000 in
theorem rleft_any (r : Nat) (bs : List UInt8) (w : World) (h : RdAt r bs w) : Calls Tryd.prog 36 #[.pointer (some ⟨r, 0, none⟩)] w fun e w' => e = .returned (.int .i64 bs.length) ∧ w = w' := by
  obtain ⟨v, hr, hB, _⟩ := h
  obtain ⟨a, c, rfl⟩ := hB.len
  have c1 : w.cell? ⟨r, 0, none⟩ = some (.slice a bs.length c) := cell_of_row w r 0 _ 107 (0, 0) hr
  clear hr
  go_enter Tryd.func36, Tryd.ntmps36
  go_wp2
  go_ret
  exact ⟨rfl, rfl⟩
set_option maxHeartbeats 400000 in
theorem equal_any (av bv : Value) (x y : List UInt8) (w : World) (hx : BSl w av x) (hy : BSl w bv y) : Calls Tryd.prog 32 #[av, bv] w fun e w' => e = .returned (.bool (x == y)) ∧ w = w' := by
  have e1 := conv_str hx
  have e2 := conv_str hy
  obtain ⟨a, c, rfl⟩ := hx.len
  obtain ⟨b, d, rfl⟩ := hy.len
  go_enter Tryd.func32, Tryd.ntmps32
  go_wp2
  go_ret
  exact ⟨rfl, rfl⟩
end Go.Proofs.YtjkicmlelilcaaaDoor
