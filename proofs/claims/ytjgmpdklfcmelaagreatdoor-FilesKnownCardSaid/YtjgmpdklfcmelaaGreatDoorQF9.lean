/- Part 9 of the proof: texts of the proof. -/
import Derived.Test.YtjgmpdklfcmelaaGreatDoorQF8
import Derived.Maps.AppendAt
import Derived.Shelf.Strings.Repeat
import Derived.Shelf.Strings.Count
import Derived.Shelf.Strings.Search3
import Derived.Test.YtjgmpdklfcmelaaGreatDoorCards
import Derived.Test.YtjgmpdklfcmelaaGreatDoorTie
import Derived.LaidMore
import Derived.ProofKit
import Derived.OpenShut
import Derived.Carry
import Derived.Deep.DeepHandedRow
import Derived.Deep.Matrix
import Derived.Lib.LaidTab
import Derived.Stop.LaidErr
namespace Go.Proofs.YtjgmpdklfcmelaaGreatDoor.V2
open Go Go.RowKit Go.Maps Go.Sort Go.Shelf
theorem info9 : (Tryz.prog.info? 9).map (fun i => (i.zero, i.size, i.bytes)) = some (some (.string ⟨#[]⟩), 1, 16) := by kernel_rfl
theorem sort184 (m blk off cap : Nat) (ss : List (List UInt8)) (W : World) (hH : Holds encStr W blk off ss.toArray) (hb : blk < W.heap.size) (hs : ss.length < 4611686018427387904) :
    CallsIn Fence.wide m Tryz.prog 184 #[.slice (some ⟨blk, off, none⟩) ss.length cap] W fun e w' => e = .returned (.tuple #[]) ∧ ∃ k os, w' = grow (putRow encStr (Sort.ahead W k) blk off (ss.mergeSort fun x y => decide (x ≤ y)).toArray) os := (sorts185 m).1 blk off cap ss W hH hb hs
theorem sort184_nil (m : Nat) (p : Option Addr) (cap : Nat) (W : World) : CallsIn Fence.wide m Tryz.prog 184 #[.slice p 0 cap] W fun e w' => e = .returned (.tuple #[]) ∧ w' = W := (sorts185 m).2 p cap W
def outS (dir : List UInt8) (l : List (List UInt8)) : List (List UInt8) := (l.filter fun x => decide (parB x = dir)).map fun x => x.drop (joinB dir []).length
theorem outS_snoc (dir : List UInt8) (l : List (List UInt8)) (x : List UInt8) : outS dir (l ++ [x]) = outS dir l ++ (if parB x = dir then [x.drop (joinB dir []).length] else []) := by
  unfold outS
  rw [List.filter_append, List.map_append]
  by_cases h : parB x = dir <;> simp [h]
theorem outS_le (dir : List UInt8) (l : List (List UInt8)) : (outS dir l).length ≤ l.length := by
  unfold outS
  rw [List.length_map]
  exact List.length_filter_le _ _
theorem drop_str (p : List UInt8) (n : Nat) (h : n ≤ p.length) : (({ data := p.toArray } : ByteArray).extract n p.length) = { data := (p.drop n).toArray } := by
  apply ByteArray.ext
  rw [ByteArray.data_extract]
  simp
  exact List.take_of_length_le (by rw [List.length_drop]; omega)
theorem mem_keys {H : Type} {D0 : DataW H} {R : Value → Option (DataW H × List MemPlace)} {b nn : Nat} {w : World} (hown : w.ownsMap Tryz.prog 9 R b nn D0) {x : List UInt8} (h : has D0 (.string x) = true) : x ∈ strKeys D0 := by
  obtain ⟨es, rfl, hk⟩ := hown.keysOf
  rw [has_eq, List.any_eq_true] at h
  obtain ⟨p, hp, hs⟩ := h
  obtain ⟨v, hv⟩ := hk p hp
  obtain ⟨y, _, hy, _⟩ := Maps.keyOf_str Tryz.underlying9 hv
  rw [hy] at hs
  have : y = x := by simpa [Lit.sameKey] using hs
  subst this
  exact List.mem_map.2 ⟨p, hp, by rw [hy]; rfl⟩
set_option maxRecDepth 100000 in
set_option maxHeartbeats 2000000 in
theorem within94 {H : Type} (c o b nn : Nat) (D0 : DataW H) {R : Value → Option (DataW H × List MemPlace)} (dir : List UInt8) (w : World) (hc : c < w.heap.size) (ht : w.cell? ⟨c, o, none⟩ = some (.map (some b)))
    (hown : w.ownsMap Tryz.prog 9 R b nn D0) (hmax : Maps.size D0 ≤ 1000000) (hdir : dir.length ≤ 1000000)
    (hkeys : ∀ x ∈ strKeys D0, x ≠ [] ∧ x.length ≤ 1000000 ∧ (parB x = dir → (joinB dir []).length ≤ x.length)) :
    Calls Tryz.prog 94 #[.pointer (some ⟨c, o, none⟩), encStr dir] w fun e w' => ∃ (v : Value) (ss : List (List UInt8)), e = .returned v ∧ ss.Perm (outS dir (strKeys D0)) ∧
      w'.ownsRow w.heap.size 9 1 v ss.length ((ss.mergeSort (fun x y => decide (x ≤ y))).map encStr) ∧ (v = .slice none 0 0 ↔ ss = []) ∧ Below w.heap.size w w' := by
  obtain ⟨i0, hi, hz0, hz1, hz2⟩ := info_parts info9
  have hbl := hown.lt
  have hf1 : Fence.wide.fn 91 := trivial
  have hf2 : Fence.wide.fn 92 := trivial
  have hf3 : Fence.wide.fn 184 := trivial
  refine (callsIn_wide (n := 3)).1 ?_
  refine callsIn_of_wp Tryz.func94 rfl trivial ?_ rfl
  simp only [Tryz.ntmps94, List.size_toArray, List.length_cons, List.length_nil, Nat.reduceAdd, Nat.reduceSub, Array.replicate_succ, Array.replicate_zero, List.push_toArray, List.append_toArray, List.nil_append, List.cons_append]
  gi_wp2_with (first
    | (gi_at_range; refine wpListIn_range_own _ rfl _ 51 rfl 9 162 law9 Tryz.underlying51 _ b nn _ rfl hown ?_; intro w0 hrg0 hg0 hs0)
    | gi_in)
  go_frame
  gi_loopw [5, 6] (fun v _ wr => ∃ (left : Lit → Bool) (cnt : Nat) (ks : List (List UInt8)), wr.ranges Tryz.prog 9 R b w.heap.size nn D0 left cnt ∧ ks.length + cnt ≤ Maps.size D0 ∧
      wr.ownsRow w.heap.size 9 1 v (outS dir ks).length ((outS dir ks).map encStr) ∧ (v = .slice none 0 0 ↔ outS dir ks = []) ∧ Collected D0 left ks ∧ Below w.heap.size w wr)
    (fun _ _ wr => wr.rangeLeft b w.heap.size)
  case atStart =>
    exact ⟨_, _, [], hrg0, by simp, ⟨rfl, .inl ⟨rfl, rfl⟩⟩, by simp [outS], Collected.start D0, (Below.refl _ _).grown hg0 (Nat.le_refl _) (fun j hj => by cases hj)⟩
  case round =>
    obtain ⟨left, cnt, ks, hrg, hcs, hrow, hnn, hC, hnx⟩ := hrel
    have hol := outS_le dir ks
    gi_wp2_with (first
      | (gi_at_next; refine wpListIn_next_ranges _ rfl _ rfl 9 law9 R encStr id (fun key kl hk => by obtain ⟨x, hx, _⟩ := Maps.keyOf_str Tryz.underlying9 hk; exact ⟨x, hx⟩) (fun v _ _ => ⟨v, rfl⟩) b w.heap.size nn _ _ _ rfl hrg ?_ ?_)
      | gi_in)
    · intro hc0 hl0
      have hperm : (outS dir ks).Perm (outS dir (strKeys D0)) := ((hC.perm hown law9 Tryz.underlying9 hl0).filter _).map _
      rcases hrow.2 with ⟨rfl, hz⟩ | ⟨g, cap, cur, rfl, hbase, hb, h1, h2, h3, h4⟩
      · have ho : outS dir ks = [] := List.eq_nil_of_length_eq_zero hz
        gi_wp2_with (gi_at_call 184; refine (sort184_nil _ none 0 _).mono ?_; rintro e w' ⟨rfl, rfl⟩)
        go_ret
        exact ⟨_, outS dir ks, rfl, hperm, by rw [ho]; exact ⟨by simp, .inl ⟨rfl, rfl⟩⟩, ⟨fun _ => ho, fun _ => rfl⟩, hnx⟩
      · have hH : Holds encStr wr g 0 (outS dir ks).toArray := holds_of_block hb (by simpa using h4)
        have hgl : g < wr.heap.size := (Array.getElem?_eq_some_iff.1 hb).1
        gi_wp2_with (gi_at_call 184; refine (sort184 _ g 0 cap (outS dir ks) wr hH hgl (by omega)).mono ?_; rintro e w' ⟨rfl, nn, os, rfl⟩)
        go_ret
        exact ⟨_, outS dir ks, rfl, hperm, ownsRow_sorted (by simp) hbase hb h1 h2 h3, hnn, hnx.grown (grownBy_sorted _) hnx.size (fun j hj => by cases hj; exact hbase)⟩
    · intro x y kl yd yp w2 cnt2 hkey hlk hv hat hrg2 hlt hg2 hs2 hen
      obtain ⟨x', ex, rfl, _⟩ := Maps.keyOf_str Tryz.underlying9 hkey
      obtain rfl : x = x' := encStr_inj ex
      obtain ⟨hx0, hx1, hx2⟩ := hkeys x (mem_keys hown (has_true_of_atKey hat))
      have hrow2 := hrow.kept hg2 (Or.inr (row_ne_iter hrow hrg).symm)
      have hnx2 : Below w.heap.size w w2 := hnx.grown hg2 hnx.size (fun j hj => by cases hj; exact Nat.le_refl _)
      clear hs2
      by_cases hp : parB x = dir
      · have hx3 := hx2 hp
        gi_wp2_with (first
          | (gi_at_call 91; refine (callsIn_wide.2 (parent91 x _ hx0 (by omega))).mono ?_; rintro e w' ⟨rfl, hw⟩; rw [hw]; clear hw w')
          | (gi_at_call 92; refine (callsIn_wide.2 (join92 dir [] _ hdir (by simp))).mono ?_; rintro e w' ⟨rfl, hw⟩; rw [hw]; clear hw w')
          | (gi_at_builtin; refine wpListIn_append_own _ rfl _ _ 66 rfl w.heap.size 9 i0 (.string ⟨#[]⟩) 1 16 Tryz.underlying66 hi hz0 hz1 hz2 rfl (by decide) _ _ _ rfl (hrow2.alloc _) ⟨w2.heap.size, 0, none⟩ 1 1 [.string (({ data := x.toArray } : ByteArray).extract (joinB dir []).length x.length)] rfl rfl (cell_one_new _ _ _) (by simp [Value.oneCell']) (by simp only [maxLen]; omega) (by omega) (by have := hnx2.size; simp; omega) ?_; intro v' w3 hown' hg3 hnil3; go_frame)
          | gi_in)
        have hsn : outS dir (ks ++ [x]) = outS dir ks ++ [x.drop (joinB dir []).length] := by rw [outS_snoc, if_pos hp]
        have hrg3 := (hrg2.alloc _).kept hg3 (row_ne_low hrow2 hbl) (row_ne_iter hrow2 hrg2)
        go_roundw
        case rel =>
          refine ⟨_, cnt2, ks ++ [x], hrg3, by simp; omega, ?_, ?_, hC.step hlk hat, ?_⟩
          · rw [hsn]
            rw [drop_str x _ hx3] at hown'
            simpa [encStr] using hown'
          · rw [hsn]
            simp only [List.append_eq_nil_iff, List.cons_ne_self, and_false, iff_false]
            exact fun hv' => by have := (hnil3.1 hv').2; omega
          · exact (hnx2.alloc hnx2.size _).grown hg3 (by have := hnx2.size; simp; omega) (fun j hj => (hrow2.lt j hj).1)
        case measure => rw [hrg3.left_eq, hrg.left_eq]; exact hlt
      · have hpb : (parB x == dir) = false := by simpa using hp
        gi_wp2_with (first
          | (gi_at_call 91; refine (callsIn_wide.2 (parent91 x _ hx0 (by omega))).mono ?_; rintro e w' ⟨rfl, hw⟩; rw [hw]; clear hw w')
          | (gi_at_call 92; refine (callsIn_wide.2 (join92 dir [] _ hdir (by simp))).mono ?_; rintro e w' ⟨rfl, hw⟩; rw [hw]; clear hw w')
          | gi_in)
        have hsn : outS dir (ks ++ [x]) = outS dir ks := by rw [outS_snoc, if_neg hp, List.append_nil]
        go_roundw
        case rel => exact ⟨_, cnt2, ks ++ [x], hrg2, by simp; omega, by rw [hsn]; exact hrow2, by rw [hsn]; exact hnn, hC.step hlk hat, hnx2⟩
        case measure => rw [hrg2.left_eq, hrg.left_eq]; exact hlt
end Go.Proofs.YtjgmpdklfcmelaaGreatDoor.V2
namespace Go.Proofs.YtjgmpdklfcmelaaGreatDoor.V2
open Go
noncomputable section
def ltK (n : Nat) : Nat → Nat → Nat → FR → FR → FR := Nat.rec (motive := fun _ => Nat → Nat → Nat → FR → FR → FR) (fun m _ _ y s => Nat.rec s (fun _ _ => y) m)
  (fun _ ih m a b y s => Nat.rec (motive := fun _ => FR) s (fun m _ => Bool.rec (Bool.rec s (fN (Nat.div a 256) fun a => fN (Nat.div b 256) fun b => ih m a b y s) (Nat.beq (Nat.mod a 256) (Nat.mod b 256))) y (Nat.blt (Nat.mod a 256) (Nat.mod b 256))) m) n
theorem u8_lt {x y : Nat} : UInt8.ofNat (x % 256) < UInt8.ofNat (y % 256) ↔ x % 256 < y % 256 := by
  rw [UInt8.lt_iff_toNat_lt, UInt8.toNat_ofNat', UInt8.toNat_ofNat']; simp
theorem u8_eq {x y : Nat} : UInt8.ofNat (x % 256) = UInt8.ofNat (y % 256) ↔ x % 256 = y % 256 := by
  rw [← UInt8.toNat_inj, UInt8.toNat_ofNat', UInt8.toNat_ofNat']; simp
theorem ltK_eq : ∀ (n m a b : Nat) (y s : FR), ltK n m a b y s = bif decide (unpN n a < unpN m b) then y else s
  | 0, 0, a, b, y, s => by show s = _; simp [unpN]
  | 0, m + 1, a, b, y, s => by show y = _; simp [unpN]
  | n + 1, 0, a, b, y, s => by show s = _; simp [unpN]
  | n + 1, m + 1, a, b, y, s => by
    show (Bool.rec (Bool.rec s (fN (Nat.div a 256) fun a => fN (Nat.div b 256) fun b => ltK n m a b y s) (Nat.beq (Nat.mod a 256) (Nat.mod b 256))) y (Nat.blt (Nat.mod a 256) (Nat.mod b 256)) : FR) = _
    rw [fN_eq, fN_eq, ltK_eq n m]
    have h : decide (unpN (n + 1) a < unpN (m + 1) b) = (Nat.blt (Nat.mod a 256) (Nat.mod b 256) || (Nat.beq (Nat.mod a 256) (Nat.mod b 256) && decide (unpN n (Nat.div a 256) < unpN m (Nat.div b 256)))) := by
      rw [Bool.eq_iff_iff]
      simp only [unpN, List.cons_lt_cons_iff, decide_eq_true_eq, Bool.or_eq_true, Bool.and_eq_true, Nat.blt_eq, Nat.beq_eq, u8_lt, u8_eq]
      rfl
    rw [h]
    cases Nat.blt (Nat.mod a 256) (Nat.mod b 256)
    · cases Nat.beq (Nat.mod a 256) (Nat.mod b 256) <;> rfl
    · rfl
def ltC (x y : Nat) (t s : FR) : FR := ltK (bl x) (bl y) x y t s
theorem ltC_eq (x y : Nat) (t s : FR) : ltC x y t s = bif decide (unp x < unp y) then t else s := ltK_eq _ _ _ _ _ _
def insK (x : Nat) (l : List Nat) (k : List Nat → FR) : FR := List.rec (motive := fun _ => (List Nat → FR) → FR) (fun k => k [x]) (fun y m ih k => ltC y x (ih fun r => k (y :: r)) (k (x :: y :: m))) l k
def insN (x : Nat) : List Nat → List Nat
  | [] => [x]
  | y :: l => bif decide (unp y < unp x) then y :: insN x l else x :: y :: l
theorem insK_eq (x : Nat) : ∀ (l : List Nat) (k : List Nat → FR), insK x l k = k (insN x l)
  | [], _ => rfl
  | y :: l, k => by
    show ltC y x (insK x l fun r => k (y :: r)) (k (x :: y :: l)) = _
    rw [ltC_eq, insK_eq x l, insN]
    cases decide (unp y < unp x) <;> rfl
theorem insN_unp (x : Nat) : ∀ l : List Nat, (insN x l).map unp = insS (unp x) (l.map unp)
  | [] => rfl
  | y :: l => by
    rw [List.map_cons, insN, insS, ← insN_unp x l]
    cases decide (unp y < unp x) <;> rfl
def srtK (l : List Nat) (k : List Nat → FR) : FR := List.rec (motive := fun _ => (List Nat → FR) → FR) (fun k => k []) (fun x _ ih k => ih fun r => insK x r k) l k
theorem srtK_eq : ∀ (l : List Nat) (k : List Nat → FR), ∃ r, r.map unp = sortS (l.map unp) ∧ srtK l k = k r
  | [], _ => ⟨[], rfl, rfl⟩
  | x :: l, k => by
    obtain ⟨r, h1, h2⟩ := srtK_eq l fun r => insK x r k
    refine ⟨insN x r, ?_, ?_⟩
    · rw [insN_unp, h1]; rfl
    · show srtK l (fun r => insK x r k) = _
      rw [h2, insK_eq]
def risK (l : List Nat) (s : FR) : FR := List.rec (motive := fun _ => FR → FR) (fun s => s) (fun x m ih s => List.rec (motive := fun _ => FR) (ih s) (fun y _ _ => ltC x y (ih s) .bad) m) l s
theorem risK_cases : ∀ {l : List Nat} {s : FR}, risK l s ≠ .bad → risS (l.map unp) = true ∧ risK l s = s
  | [], _, _ => ⟨rfl, rfl⟩
  | [x], s, _ => ⟨rfl, rfl⟩
  | x :: y :: l, s, h => by
    have h : ltC x y (risK (y :: l) s) .bad ≠ .bad := h
    show _ ∧ ltC x y (risK (y :: l) s) .bad = s
    rw [ltC_eq] at h ⊢
    cases hd : decide (unp x < unp y) <;> rw [hd] at h
    · exact absurd rfl h
    · obtain ⟨h1, h2⟩ := risK_cases (l := y :: l) (s := s) h
      refine ⟨?_, h2⟩
      rw [List.map_cons, List.map_cons]
      unfold risS
      rw [List.map_cons] at h1
      rw [h1]
      simp [hd]
def shK (l : List Nat) (s : FR) : FR := List.rec (motive := fun _ => FR) s (fun x _ ih => gB (Nat.ble (bl x) 1000000) ih) l
theorem shK_cases : ∀ {l : List Nat} {s : FR}, shK l s ≠ .bad → shS (l.map unp) = true ∧ shK l s = s
  | [], _, _ => ⟨rfl, rfl⟩
  | x :: l, s, h => by
    have h : gB (Nat.ble (bl x) 1000000) (shK l s) ≠ .bad := h
    show _ ∧ gB (Nat.ble (bl x) 1000000) (shK l s) = s
    rw [gB_eq] at h ⊢
    cases hd : Nat.ble (bl x) 1000000 <;> rw [hd] at h
    · exact absurd rfl h
    · obtain ⟨h1, h2⟩ := shK_cases (l := l) (s := s) h
      refine ⟨?_, h2⟩
      unfold shS at h1 ⊢
      rw [List.map_cons, List.all_cons, h1, unp_length, hd]; rfl
def keysK (l : List (FV × FV)) (k : List Nat → FR) : FR := List.rec (motive := fun _ => (List Nat → FR) → FR) (fun k => k []) (fun p _ ih k => Prod.rec (fun x _ => kS (fun c => ih fun r => k (c :: r)) x) p) l k
theorem keysK_cases : ∀ {l : List (FV × FV)} {k : List Nat → FR}, keysK l k ≠ .bad → ∃ cs, keysS (αP l) = some (cs.map unp) ∧ keysK l k = k cs
  | [], _, _ => ⟨[], rfl, rfl⟩
  | (x, y) :: l, k, h => by
    have h : kS (fun c => keysK l fun r => k (c :: r)) x ≠ .bad := h
    show ∃ cs, _ ∧ kS (fun c => keysK l fun r => k (c :: r)) x = k cs
    obtain ⟨c, rfl, h1⟩ := kS_cases h
    rw [h1] at h ⊢
    obtain ⟨cs, h2, h3⟩ := keysK_cases h
    refine ⟨c :: cs, ?_, h3⟩
    simp only [αP, keysS, αV, h2, List.map_cons]
def txK (l : List Nat) (k : List FV → FR) : FR := List.rec (motive := fun _ => (List FV → FR) → FR) (fun k => k []) (fun c _ ih k => ih fun r => k (.s c :: r)) l k
theorem txK_eq : ∀ (l : List Nat) (k : List FV → FR), ∃ r, αL r = (l.map unp).map AV.str ∧ txK l k = k r
  | [], _ => ⟨[], rfl, rfl⟩
  | c :: l, k => by
    obtain ⟨r, h1, h2⟩ := txK_eq l fun r => k (.s c :: r)
    exact ⟨.s c :: r, by rw [αL, h1]; rfl, h2⟩
def lnK (l : List Nat) (k : Nat → FR) : FR := List.rec (motive := fun _ => (Nat → FR) → FR) (fun k => k 0) (fun _ _ ih k => ih fun n => fN (Nat.succ n) k) l k
theorem lnK_eq : ∀ (l : List Nat) (k : Nat → FR), lnK l k = k l.length
  | [], _ => rfl
  | c :: l, k => by
    show lnK l (fun n => fN (Nat.succ n) k) = _
    rw [lnK_eq l, fN_eq]; rfl
def srtQ (ks : List Nat) (σ : FH) (k : KV) : FR := shK ks (srtK ks fun r => List.rec (motive := fun _ => FR) (k (.o .sl) σ) (fun _ _ _ => risK r (lnK r fun n => gB (Nat.ble n 1000000) (txK r fun l => nM σ (.cells l 9 .more) fun b σ => k (.sl b 0 n n false 1) σ))) r)
theorem srtQ_sm (ks : List Nat) (σ : FH) (k : KV) : Sm (srtQ ks σ k) k (srtO (αH σ) (ks.map unp)) := by
  intro h
  unfold srtQ at h ⊢
  obtain ⟨h1, h2⟩ := shK_cases h
  rw [h2] at h ⊢
  obtain ⟨r, h3, h4⟩ := srtK_eq ks (fun r => List.rec (motive := fun _ => FR) (k (.o .sl) σ) (fun _ _ _ => risK r (lnK r fun n => gB (Nat.ble n 1000000) (txK r fun l => nM σ (.cells l 9 .more) fun b σ => k (.sl b 0 n n false 1) σ))) r)
  rw [h4] at h ⊢
  cases r with
  | nil =>
    refine ⟨.o .sl, σ, ?_, rfl⟩
    unfold srtO
    rw [← h3]; rfl
  | cons x t =>
    have h : risK (x :: t) (lnK (x :: t) fun n => gB (Nat.ble n 1000000) (txK (x :: t) fun l => nM σ (.cells l 9 .more) fun b σ => k (.sl b 0 n n false 1) σ)) ≠ .bad := h
    show ∃ v σ', _ ∧ risK (x :: t) (lnK (x :: t) fun n => gB (Nat.ble n 1000000) (txK (x :: t) fun l => nM σ (.cells l 9 .more) fun b σ => k (.sl b 0 n n false 1) σ)) = k v σ'
    obtain ⟨g1, g2⟩ := risK_cases h
    rw [g2] at h ⊢
    rw [lnK_eq, gB_eq] at h ⊢
    cases hb : Nat.ble (x :: t).length 1000000 <;> rw [hb] at h
    · exact absurd rfl h
    rw [cond_true] at h ⊢
    obtain ⟨l, g3, g4⟩ := txK_eq (x :: t) fun l => nM σ (.cells l 9 .more) fun b σ => k (.sl b 0 (x :: t).length (x :: t).length false 1) σ
    rw [g4] at h ⊢
    obtain ⟨g5, σ', g6, g7⟩ := nM_cases h
    refine ⟨.sl σ.next 0 (x :: t).length (x :: t).length false 1, σ', ?_, g7⟩
    have hlen : (ks.map unp).length = (x :: t).length := by
      have := (sortS_perm (ks.map unp)).length_eq
      rw [← h3, List.length_map] at this; exact this.symm
    unfold srtO
    rw [← h3, List.map_cons]
    simp only
    rw [List.map_cons] at g1 g3
    rw [g1, h1, hlen, hb, g5, g6]
    simp only [αO, αV, g3, List.length_cons, List.length_map]
    rfl
def kFn (f : Fn → List FV → List FV → FR) (v : FV) : FR := FV.rec (motive_1 := fun _ => FR) (motive_2 := fun _ => FR) (fun _ _ => .bad) (fun _ _ => .bad) (fun _ => .bad) (fun _ => .bad) (fun _ _ => .bad) (fun _ _ _ _ _ _ => .bad) (fun _ => .bad) (fun _ => .bad) (fun g a b _ _ => f g a b) (fun _ _ _ => .bad) (fun _ _ => .bad) (fun _ => .bad) (fun _ _ => .bad) (fun _ _ => .bad) (fun _ => .bad) .bad (fun _ _ _ _ => .bad) v
theorem kFn_cases {f : Fn → List FV → List FV → FR} {v : FV} (h : kFn f v ≠ .bad) : ∃ g a b, v = .fn g a b ∧ kFn f v = f g a b := by
  cases v <;> first | exact ⟨_, _, _, rfl, rfl⟩ | exact absurd rfl h
def kFu (f : Nat → FR) (g : Fn) : FR := Fn.rec (motive := fun _ => FR) f (fun _ => .bad) (fun _ _ => .bad) (fun _ _ _ _ => .bad) (fun _ => .bad) g
theorem kFu_cases {f : Nat → FR} {g : Fn} (h : kFu f g ≠ .bad) : ∃ n, g = .func n ∧ kFu f g = f n := by
  cases g <;> first | exact ⟨_, rfl, rfl⟩ | exact absurd rfl h
def kNi (l : List FV) (s : FR) : FR := List.rec (motive := fun _ => FR) s (fun _ _ _ => .bad) l
theorem kNi_cases {l : List FV} {s : FR} (h : kNi l s ≠ .bad) : l = [] ∧ kNi l s = s := by
  cases l
  · exact ⟨rfl, rfl⟩
  · exact absurd rfl h
def kCe (f : List FV → FR) (ob : FObj) : FR := FObj.rec (motive := fun _ => FR) .bad (fun l _ _ => f l) (fun _ _ _ => .bad) (fun _ _ _ _ => .bad) (fun _ => .bad) .bad ob
theorem kCe_cases {f : List FV → FR} {ob : FObj} (h : kCe f ob ≠ .bad) : ∃ l e t, ob = .cells l e t ∧ kCe f ob = f l := by
  cases ob <;> first | exact ⟨_, _, _, rfl, rfl⟩ | exact absurd rfl h
def srMQ (σ : FH) (m : Nat) (k : KV) : FR := gM σ m (kMp fun l => keysK l fun cs => srtQ cs σ k)
def srQ (l : List FV) (σ : FH) (k : KV) : FR := k1L l (kFn fun g a c => kFu (fun q => gB (Nat.beq q 250 || Nat.beq q 319) (kNi a (k1L c (kP fun b o => gM σ b (kCe fun l => nthK l o (kM fun m => srMQ σ m k)))))) g)
theorem srMQ_sm (σ : FH) (m : Nat) (k : KV) : Sm (srMQ σ m k) k (srtM (αH σ) m) := by
  intro h
  unfold srMQ at h ⊢
  obtain ⟨ob, _, h3, h4⟩ := gM_cases h
  rw [h4] at h ⊢
  obtain ⟨l, rfl, h5⟩ := kMp_cases h
  rw [h5] at h ⊢
  obtain ⟨cs, h6, h7⟩ := keysK_cases h
  rw [h7] at h ⊢
  obtain ⟨v, σ', h8, h9⟩ := srtQ_sm cs σ k h
  refine ⟨v, σ', ?_, h9⟩
  unfold srtM
  rw [h3]
  simp only [αO, h6]
  exact h8
theorem srQ_sm (l : List FV) (σ : FH) (k : KV) : Sm (srQ l σ k) k (srtA (αL l) (αH σ)) := by
  intro h
  unfold srQ at h ⊢
  obtain ⟨x, rfl, h1⟩ := k1L_cases h
  rw [h1] at h ⊢
  obtain ⟨g, a, c, rfl, h2⟩ := kFn_cases h
  rw [h2] at h ⊢
  obtain ⟨q, rfl, h3⟩ := kFu_cases h
  rw [h3] at h ⊢
  rw [gB_eq] at h ⊢
  cases hq : Nat.beq q 250 || Nat.beq q 319 <;> rw [hq] at h
  · exact absurd rfl h
  rw [cond_true] at h ⊢
  obtain ⟨rfl, h4⟩ := kNi_cases h
  rw [h4] at h ⊢
  obtain ⟨y, rfl, h5⟩ := k1L_cases h
  rw [h5] at h ⊢
  obtain ⟨b, o, rfl, h6⟩ := kP_cases h
  rw [h6] at h ⊢
  obtain ⟨ob, _, h7, h8⟩ := gM_cases h
  rw [h8] at h ⊢
  obtain ⟨l, e, t, rfl, h9⟩ := kCe_cases h
  rw [h9] at h ⊢
  rw [nthK_eq] at h ⊢
  cases hl : l[o]? <;> rw [hl] at h
  · exact absurd rfl h
  rename_i v
  have h : kM (fun m => srMQ σ m k) v ≠ .bad := h
  show ∃ w σ', _ ∧ kM (fun m => srMQ σ m k) v = k w σ'
  obtain ⟨m, rfl, h10⟩ := kM_cases h
  rw [h10] at h ⊢
  obtain ⟨v, σ', h11, h12⟩ := srMQ_sm σ m k h
  refine ⟨v, σ', ?_, h12⟩
  rw [← h11]
  simp only [αL, αV, srtA, hq, h7, Option.bind_some, αO, AObj.at, αL_map, List.getElem?_map, hl, Option.map_some, cond_true]
end
end Go.Proofs.YtjgmpdklfcmelaaGreatDoor.V2
namespace Go.Proofs.YtjgmpdklfcmelaaGreatDoor.V2
open Go
open Go.RowKit Go.Maps Go.Sort
theorem srtO_of {ρ : Ren} {σ : AH} {W : World} (hr : HR ρ σ W) {os : List (List UInt8)} (h : (srtO σ os).1 = true) {f : FuncId} {vs : Array Value}
    (hC : Calls Tryz.prog f vs W fun e w' => ∃ (v : Value) (ss : List (List UInt8)), e = .returned v ∧ ss.Perm os ∧
      w'.ownsRow W.heap.size 9 1 v ss.length ((ss.mergeSort (fun x y => decide (x ≤ y))).map encStr) ∧ (v = .slice none 0 0 ↔ ss = []) ∧ Below W.heap.size W w') :
    Calls Tryz.prog f vs W fun e W' => ∃ v ρ', e = .returned v ∧ HR ρ' (srtO σ os).2.2 W' ∧ Stp σ.next ρ σ W ρ' (srtO σ os).2.2 W' ∧ VR ρ' (srtO σ os).2.1 v := by
  unfold srtO at h ⊢
  have hso := sortS_perm os
  cases hS : sortS os with
  | nil =>
    rw [hS] at hso
    refine hC.mono ?_
    rintro e W' ⟨v, ss, rfl, g1, g2, g3, g4⟩
    have : ss = [] := by have := (g1.trans hso.symm).length_eq; simpa using this
    refine ⟨v, ρ, rfl, hr.below g4, .below (Nat.le_refl _) g4, ?_⟩
    unfold VR
    exact g3.2 this
  | cons x t =>
    rw [hS] at h
    simp only [Bool.and_eq_true, Nat.ble_eq, Nat.blt_eq] at h
    obtain ⟨⟨⟨h1, h2⟩, h3⟩, h4⟩ := h
    rw [← hS] at h1
    obtain ⟨i1, i2⟩ := risS_sort h1
    refine hC.mono ?_
    rintro e W' ⟨v, ss, rfl, g1, g2, g3, g4⟩
    have e1 : ss.mergeSort (fun x y => decide (x ≤ y)) = x :: t := by
      rw [← hS, ← i2]
      exact mergeSort_of_perm g1
    have e2 : ss.length = (x :: t).length := by rw [← hS, hso.length_eq, g1.length_eq]
    rw [e1, e2] at g2
    obtain ⟨ρ', k1, k2, k3⟩ := adopt_strs hr g4 h4 (by simp) g2
    exact ⟨v, ρ', rfl, k1, k2, k3⟩
def wiS (dir : List UInt8) (ks : List (List UInt8)) : Bool := Nat.ble dir.length 1000000 && ks.all fun x => !x.isEmpty && (!decide (parB x = dir) || Nat.ble (joinB dir []).length x.length)
noncomputable def wiO (σ : AH) (dir : List UInt8) (ks : List (List UInt8)) : Out := bif wiS dir ks && (risS (sortS ks) && shS ks && Nat.ble ks.length 1000000) then srtO σ (outS dir ks) else bad σ
noncomputable def wiM (σ : AH) (dir : List UInt8) (m : Nat) : Out := match σ.get m with
  | some (.map l) => match keysS l with
    | some ks => wiO σ dir ks
    | none => bad σ
  | _ => bad σ
noncomputable def wiA (args : List AV) (σ : AH) : Out := match args with
  | [.ptr b o, .str dir] => match (σ.get b).bind fun ob => ob.at o with
    | some (.map m) => wiM σ dir m
    | _ => bad σ
  | _ => bad σ
noncomputable def wnF (g : FuncId → List AV → AH → Out) (f : FuncId) (args : List AV) (σ : AH) : Out := bif Nat.beq f 94 then wiA args σ else g f args σ
theorem wnF_ok {Y : List Yl} {g : FuncId → List AV → AH → Out} (hg : FnOk Tryz.prog 6 g Y) : FnOk Tryz.prog 6 (wnF g) Y := by
  intro f args σ h
  unfold wnF at h ⊢
  cases hf : Nat.beq f 94
  case false => rw [hf] at h; rw [cond_false] at h ⊢; exact hg f args σ h
  rw [hf] at h
  simp only [cond_true] at h ⊢
  have e := Nat.eq_of_beq_eq_true hf
  subst e
  refine ⟨⟨_, Tryz.func94, by kernel_rfl, by kernel_rfl⟩, fun ρ W vs _ hG hr hvs => ?_⟩
  unfold wiA at h ⊢
  split at h
  case h_2 => cases h
  rename_i b o dir
  split at h
  case h_2 => cases h
  rename_i m hm
  obtain ⟨ob, hob, hat⟩ := Option.bind_eq_some_iff.1 hm
  obtain ⟨v, mm, rfl, hv, u, mmm, rfl, hu, hmm⟩ := hvs
  have hmm : mmm = [] := hmm
  subst hmm
  unfold VR at hv hu
  subst hu
  obtain ⟨c, d, hc, rfl⟩ := hv
  obtain ⟨_, hcl, ob', ho', hO⟩ := hr.dom b c d hc
  rw [hob] at ho'
  cases ho'
  have hcy : ob.cellsy = true := by cases ob <;> first | rfl | (exact absurd hat (by simp [AObj.at]))
  have hpos : 0 < ob.len := by
    cases ob <;> simp only [AObj.at] at hat
    · cases hat
    · exact Nat.lt_of_le_of_lt (Nat.zero_le _) (List.getElem?_eq_some_iff.1 hat).1
    · obtain ⟨_, h5, _⟩ := Option.map_eq_some_iff.1 hat; exact Nat.lt_of_le_of_lt (Nat.zero_le _) (List.getElem?_eq_some_iff.1 h5).1
    · cases hat
    · cases hat
  obtain ⟨cs, el, fr, hx, _, _, _, hall⟩ := (hO.1 hcy).2 fun _ => hpos
  obtain ⟨u, hu, huv⟩ := hall o _ hat
  unfold VR at huv
  obtain ⟨c2, d2, hc2, rfl⟩ := huv
  have hcell : W.cell? ⟨c, o + d.1, none⟩ = some (.map (some c2)) := by simp [World.cell?, hx, hu]
  obtain ⟨_, _, ob2, ho2, hO2⟩ := hr.dom m c2 d2 hc2
  unfold wiM at h ⊢
  split at h
  case h_2 => cases h
  rename_i l hl
  rw [hl] at ho2
  cases ho2
  cases hk : keysS l <;> simp only [hk] at h ⊢
  · cases h
  rename_i ks
  unfold wiO at h ⊢
  cases hb : wiS dir ks && (risS (sortS ks) && shS ks && Nat.ble ks.length 1000000) <;> rw [hb] at h
  · cases h
  rw [cond_true] at h ⊢
  simp only [Bool.and_eq_true, Nat.ble_eq] at hb
  obtain ⟨hw, ⟨h1, h2⟩, h3⟩ := hb
  obtain ⟨i1, _⟩ := risS_sort h1
  obtain ⟨D, j1, j2, j3⟩ := own_of (hO2.2 l rfl) hk i1 h2 h3
  unfold wiS at hw
  rw [Bool.and_eq_true, Nat.ble_eq] at hw
  refine srtO_of hr h ((within94 c (o + d.1) c2 ks.length D dir W hcl hcell j1 (by rw [j3]; exact h3) hw.1 fun x hx => ?_).mono ?_)
  · have hx := j2.subset hx
    have a1 := List.all_eq_true.1 hw.2 x hx
    have a2 := List.all_eq_true.1 h2 x hx
    rw [Nat.ble_eq] at a2
    rw [Bool.and_eq_true, Bool.or_eq_true, Nat.ble_eq] at a1
    refine ⟨fun e => (by rw [e] at a1; exact absurd a1.1 (by simp)), a2, fun e => ?_⟩
    rcases a1.2 with h | h
    · rw [decide_eq_true e] at h; cases h
    · exact h
  · rintro e W' ⟨v, ss, rfl, g1, g2, g3, g4⟩
    exact ⟨v, ss, rfl, g1.trans ((j2.filter _).map _), g2, g3, g4⟩
noncomputable section
def pkK (l : List (List UInt8)) (k : List Nat → FR) : FR := List.rec (motive := fun _ => (List Nat → FR) → FR) (fun k => k []) (fun x _ ih k => fN (pack x) fun c => ih fun r => k (c :: r)) l k
theorem pkK_eq : ∀ (l : List (List UInt8)) (k : List Nat → FR), pkK l k = k (l.map pack)
  | [], _ => rfl
  | x :: l, k => by
    show (fN (pack x) fun c => pkK l fun r => k (c :: r)) = _
    rw [fN_eq, pkK_eq l]; rfl
theorem unp_packs (l : List (List UInt8)) : (l.map pack).map unp = l := by
  rw [List.map_map]
  conv => rhs; rw [← List.map_id l]
  exact List.map_congr_left fun x _ => unp_pack x
def wiOQ (cs : List Nat) (d : Nat) (σ : FH) (k : KV) : FR := gB (wiS (unp d) (cs.map unp)) (shK cs (gB (Nat.ble cs.length 1000000) (srtK cs fun r => risK r (pkK (outS (unp d) (cs.map unp)) fun os => srtQ os σ k))))
def wiMQ (σ : FH) (d m : Nat) (k : KV) : FR := gM σ m (kMp fun l => keysK l fun cs => wiOQ cs d σ k)
def wiQ (l : List FV) (σ : FH) (k : KV) : FR := k2L l fun x y => kP (fun b o => kS (fun d => gM σ b (kCe fun l => nthK l o (kM fun m => wiMQ σ d m k))) y) x
theorem wiOQ_sm (cs : List Nat) (d : Nat) (σ : FH) (k : KV) : Sm (wiOQ cs d σ k) k (wiO (αH σ) (unp d) (cs.map unp)) := by
  intro h
  unfold wiOQ at h ⊢
  rw [gB_eq] at h ⊢
  cases hw : wiS (unp d) (cs.map unp) <;> rw [hw] at h
  · exact absurd rfl h
  rw [cond_true] at h ⊢
  obtain ⟨h1, h2⟩ := shK_cases h
  rw [h2] at h ⊢
  rw [gB_eq] at h ⊢
  cases hl : Nat.ble cs.length 1000000 <;> rw [hl] at h
  · exact absurd rfl h
  rw [cond_true] at h ⊢
  obtain ⟨r, h3, h4⟩ := srtK_eq cs fun r => risK r (pkK (outS (unp d) (cs.map unp)) fun os => srtQ os σ k)
  rw [h4] at h ⊢
  obtain ⟨h5, h6⟩ := risK_cases h
  rw [h6] at h ⊢
  rw [pkK_eq] at h ⊢
  obtain ⟨v, σ', h7, h8⟩ := srtQ_sm _ σ k h
  refine ⟨v, σ', ?_, h8⟩
  unfold wiO
  rw [hw, ← h3, h5, h1, List.length_map, hl]
  rw [unp_packs] at h7
  exact h7
theorem wiQ_sm (l : List FV) (σ : FH) (k : KV) : Sm (wiQ l σ k) k (wiA (αL l) (αH σ)) := by
  intro h
  unfold wiQ at h ⊢
  obtain ⟨x, y, rfl, h1⟩ := k2L_cases h
  rw [h1] at h ⊢
  obtain ⟨b, o, rfl, h6⟩ := kP_cases h
  rw [h6] at h ⊢
  obtain ⟨d, rfl, h5⟩ := kS_cases h
  rw [h5] at h ⊢
  obtain ⟨ob, _, h7, h8⟩ := gM_cases h
  rw [h8] at h ⊢
  obtain ⟨l, e, t, rfl, h9⟩ := kCe_cases h
  rw [h9] at h ⊢
  rw [nthK_eq] at h ⊢
  cases hl : l[o]? <;> rw [hl] at h
  · exact absurd rfl h
  rename_i v
  have h : kM (fun m => wiMQ σ d m k) v ≠ .bad := h
  show ∃ w σ', _ ∧ kM (fun m => wiMQ σ d m k) v = k w σ'
  obtain ⟨m, rfl, h10⟩ := kM_cases h
  rw [h10] at h ⊢
  unfold wiMQ at h ⊢
  obtain ⟨ob2, _, g3, g4⟩ := gM_cases h
  rw [g4] at h ⊢
  obtain ⟨l2, rfl, g5⟩ := kMp_cases h
  rw [g5] at h ⊢
  obtain ⟨cs, g6, g7⟩ := keysK_cases h
  rw [g7] at h ⊢
  obtain ⟨v, σ', g8, g9⟩ := wiOQ_sm cs d σ k h
  refine ⟨v, σ', ?_, g9⟩
  rw [← g8]
  simp only [αL, αV, wiA, h7, Option.bind_some, αO, AObj.at, αL_map, List.getElem?_map, hl, Option.map_some, wiM, g3, g6]
end
end Go.Proofs.YtjgmpdklfcmelaaGreatDoor.V2
namespace Go.Proofs.YtjgmpdklfcmelaaGreatDoor.V2
open Go Go.Shelf Go.Proofs Go.RowKit
def rep28_lay_ren : Go.Shelf.Ren := ⟨fun | 105 => 28 | 212 => 100 | 99 => 87 | 165 => 101 | 166 => 102 | 170 => 103 | 169 => 104 | 263 => 188 | 264 => 189 | 206 => 177 | 240 => 190 | 241 => 191 | 276 => 251 | 277 => 252 | n => n, fun | 9 => 9 | 3 => 3 | 4 => 4 | 20 => 20 | 0 => 0 | 46 => 170 | 109 => 171 | 5 => 5 | 72 => 175 | 76 => 179 | 51 => 23 | 146 => 271 | 53 => 135 | 148 => 293 | 70 => 173 | 37 => 49 | 75 => 178 | 127 => 295 | 164 => 345 | 80 => 60 | n => n, fun | n => n⟩
theorem rep28_lay : Go.Proofs.Lays.n105 Tryz.prog rep28_lay_ren := {
  mixed := by kernel_rfl
  f99 := Tryz.func87.trans (congrArg some (by kernel_rfl))
  f105 := Tryz.func28.trans (congrArg some (by kernel_rfl))
  f165 := Tryz.func101.trans (congrArg some (by kernel_rfl))
  f166 := Tryz.func102.trans (congrArg some (by kernel_rfl))
  f169 := Tryz.func104.trans (congrArg some (by kernel_rfl))
  f170 := Tryz.func103.trans (congrArg some (by kernel_rfl))
  f206 := Tryz.func177.trans (congrArg some (by kernel_rfl))
  f212 := Tryz.func100.trans (congrArg some (by kernel_rfl))
  f240 := Tryz.func190.trans (congrArg some (by kernel_rfl))
  f241 := Tryz.func191.trans (congrArg some (by kernel_rfl))
  f263 := Tryz.func188.trans (congrArg some (by kernel_rfl))
  f264 := Tryz.func189.trans (congrArg some (by kernel_rfl))
  f276 := Tryz.func251.trans (congrArg some (by kernel_rfl))
  f277 := Tryz.func252.trans (congrArg some (by kernel_rfl))
  t0 := Tryz.underlying0
  a0 := Tryz.isAgg0
  z0 := Tryz.sizeOf0
  v0 := Tryz.zeroValue0
  t3 := Tryz.underlying3
  a3 := Tryz.isAgg3
  z3 := Tryz.sizeOf3
  v3 := Tryz.zeroValue3
  t4 := Tryz.underlying4
  a4 := Tryz.isAgg4
  z4 := Tryz.sizeOf4
  v4 := Tryz.zeroValue4
  t5 := Tryz.underlying5
  a5 := Tryz.isAgg5
  z5 := Tryz.sizeOf5
  v5 := Tryz.zeroValue5
  t9 := Tryz.underlying9
  a9 := Tryz.isAgg9
  z9 := Tryz.sizeOf9
  v9 := Tryz.zeroValue9
  t20 := Tryz.underlying20
  a20 := Tryz.isAgg20
  z20 := Tryz.sizeOf20
  v20 := Tryz.zeroValue20
  t37 := Tryz.underlying49
  a37 := Tryz.isAgg49
  z37 := Tryz.sizeOf49
  v37 := Tryz.zeroValue49
  t46 := Tryz.underlying170
  a46 := Tryz.isAgg170
  z46 := Tryz.sizeOf170
  v46 := Tryz.zeroValue170
  t51 := Tryz.underlying23
  a51 := Tryz.isAgg23
  z51 := Tryz.sizeOf23
  v51 := Tryz.zeroValue23
  t53 := Tryz.underlying135
  a53 := Tryz.isAgg135
  z53 := Tryz.sizeOf135
  v53 := Tryz.zeroValue135
  t70 := Tryz.underlying173
  a70 := Tryz.isAgg173
  z70 := Tryz.sizeOf173
  v70 := Tryz.zeroValue173
  t72 := Tryz.underlying175
  a72 := Tryz.isAgg175
  z72 := Tryz.sizeOf175
  v72 := Tryz.zeroValue175
  t75 := Tryz.underlying178
  a75 := Tryz.isAgg178
  z75 := Tryz.sizeOf178
  v75 := Tryz.zeroValue178
  t76 := Tryz.underlying179
  a76 := Tryz.isAgg179
  z76 := Tryz.sizeOf179
  v76 := Tryz.zeroValue179
  t109 := Tryz.underlying171
  a109 := Tryz.isAgg171
  z109 := Tryz.sizeOf171
  v109 := Tryz.zeroValue171
  t127 := Tryz.underlying295
  a127 := Tryz.isAgg295
  z127 := Tryz.sizeOf295
  v127 := Tryz.zeroValue295
  t146 := Tryz.underlying271
  a146 := Tryz.isAgg271
  z146 := Tryz.sizeOf271
  v146 := Tryz.zeroValue271
  t148 := Tryz.underlying293
  a148 := Tryz.isAgg293
  z148 := Tryz.sizeOf293
  v148 := Tryz.zeroValue293
  t164 := Tryz.underlying345
  a164 := Tryz.isAgg345
  z164 := Tryz.sizeOf345
  v164 := Tryz.zeroValue345 }
theorem rep28_extra : Builder.Extra Tryz.prog rep28_lay_ren := {
  sizeBuilder := by kernel_rfl
  liesBuilder := by kernel_rfl
  t5 := Tryz.underlying5
  a5 := Tryz.isAgg5
  z5 := Tryz.sizeOf5
  v5 := Tryz.zeroValue5
  infoByte := by kernel_rfl
  cellsByte := by kernel_rfl
  sizeByte := by kernel_rfl
  neB5 := by decide }
theorem repeat28 (s : List UInt8) (c : Nat) (w : World) (h : s.length * c ≤ 1000000) (hc : c ≤ 1000000) : Calls Tryz.prog 28 #[.string ⟨s.toArray⟩, .int .i64 c] w fun e w' => e = .returned (.string ⟨(Lib.repeatL s c).toArray⟩) ∧ Below w.heap.size w w' :=
  Any.strings_Repeat rep28_lay rep28_extra ⟨s.toArray⟩ c w (by omega) (by show s.toArray.size * c ≤ _; simp; omega)
def rpA (args : List AV) (σ : AH) : Out := match args with
  | [.str s, .int .i64 (.ofNat c)] => (Nat.ble (s.length * c) 1000000 && Nat.ble c 1000000, .str (Lib.repeatL s c), σ)
  | _ => bad σ
noncomputable def rpF (g : FuncId → List AV → AH → Out) (f : FuncId) (args : List AV) (σ : AH) : Out := bif Nat.beq f 28 then rpA args σ else g f args σ
theorem rpF_ok {Y : List Yl} {g : FuncId → List AV → AH → Out} (hg : FnOk Tryz.prog 6 g Y) : FnOk Tryz.prog 6 (rpF g) Y := by
  intro f args σ h
  unfold rpF at h ⊢
  cases hf : Nat.beq f 28
  case false => rw [hf] at h; rw [cond_false] at h ⊢; exact hg f args σ h
  rw [hf] at h
  simp only [cond_true] at h ⊢
  have e := Nat.eq_of_beq_eq_true hf
  subst e
  refine ⟨⟨_, Tryz.func28, by kernel_rfl, by kernel_rfl⟩, fun ρ W vs _ hG hr hvs => ?_⟩
  unfold rpA at h ⊢
  split at h
  case h_2 => cases h
  rename_i s c
  obtain ⟨v, mm, rfl, hv, u, mmm, rfl, hu, hmm⟩ := hvs
  have hmm : mmm = [] := hmm
  subst hmm
  unfold VR at hv hu
  subst hu hv
  rw [Bool.and_eq_true, Nat.ble_eq, Nat.ble_eq] at h
  refine (repeat28 s c W h.1 h.2).mono ?_
  rintro e W' ⟨rfl, g⟩
  exact ⟨_, ρ, rfl, hr.below g, .below (Nat.le_refl _) g, by unfold VR; rfl⟩
noncomputable section
theorem repL_add (l : List UInt8) : ∀ (a b : Nat), Lib.repeatL l (a + b) = Lib.repeatL l a ++ Lib.repeatL l b
  | 0, b => by rw [Nat.zero_add]; rfl
  | a + 1, b => by rw [Nat.succ_add, Lib.repeatL, repL_add l a b, Lib.repeatL, List.append_assoc]
def repD (f : Nat) : Nat → Nat → Nat → (Nat → FR) → FR := Nat.rec (motive := fun _ => Nat → Nat → Nat → (Nat → FR) → FR) (fun m _ acc k => gB (Nat.beq m 0) (k acc))
  (fun _ ih m b acc k => Bool.rec (fN (bapp b b) fun b2 => fN (Nat.div m 2) fun m2 => Bool.rec (ih m2 b2 acc k) (fN (bapp acc b) fun a2 => ih m2 b2 a2 k) (Nat.beq (Nat.mod m 2) 1)) (k acc) (Nat.beq m 0)) f
theorem repD_eq (l : List UInt8) : ∀ (f m b acc x y : Nat) (k : Nat → FR), unp b = Lib.repeatL l x → unp acc = Lib.repeatL l y → repD f m b acc k ≠ .bad → ∃ r, unp r = Lib.repeatL l (y + x * m) ∧ repD f m b acc k = k r
  | 0, m, b, acc, x, y, k, h1, h2, h => by
    have h : gB (Nat.beq m 0) (k acc) ≠ .bad := h
    show ∃ r, _ ∧ gB (Nat.beq m 0) (k acc) = _
    rw [gB_eq] at h ⊢
    cases hm : Nat.beq m 0 <;> rw [hm] at h
    · exact absurd rfl h
    · have := Nat.eq_of_beq_eq_true hm
      subst this
      exact ⟨acc, by rw [h2]; simp, rfl⟩
  | f + 1, m, b, acc, x, y, k, h1, h2, h => by
    have h : (Bool.rec (fN (bapp b b) fun b2 => fN (Nat.div m 2) fun m2 => Bool.rec (repD f m2 b2 acc k) (fN (bapp acc b) fun a2 => repD f m2 b2 a2 k) (Nat.beq (Nat.mod m 2) 1)) (k acc) (Nat.beq m 0) : FR) ≠ .bad := h
    show ∃ r, _ ∧ (Bool.rec (fN (bapp b b) fun b2 => fN (Nat.div m 2) fun m2 => Bool.rec (repD f m2 b2 acc k) (fN (bapp acc b) fun a2 => repD f m2 b2 a2 k) (Nat.beq (Nat.mod m 2) 1)) (k acc) (Nat.beq m 0) : FR) = _
    rw [fN_eq, fN_eq, fN_eq] at h ⊢
    have hb : unp (bapp b b) = Lib.repeatL l (x + x) := by rw [bapp_unp, h1, repL_add]
    have hd : m = 2 * (m / 2) + m % 2 := by omega
    cases hm : Nat.beq m 0 with
    | true =>
      have := Nat.eq_of_beq_eq_true hm
      subst this
      exact ⟨acc, by rw [h2]; simp, rfl⟩
    | false =>
      rw [hm] at h
      cases ho : Nat.beq (Nat.mod m 2) 1 with
      | true =>
        rw [ho] at h
        have hm1 : m % 2 = 1 := Nat.eq_of_beq_eq_true ho
        obtain ⟨r, g1, g2⟩ := repD_eq l f (m / 2) (bapp b b) (bapp acc b) (x + x) (y + x) k hb (by rw [bapp_unp, h1, h2, repL_add]) h
        refine ⟨r, ?_, g2⟩
        rw [g1]
        congr 1
        have : x * m = x * (2 * (m / 2)) + x := by conv => lhs; rw [hd, hm1, Nat.mul_add, Nat.mul_one]
        rw [this, Nat.add_mul, Nat.two_mul, Nat.mul_add]
        omega
      | false =>
        rw [ho] at h
        have hm1 : m % 2 = 0 := by
          have : m % 2 ≠ 1 := fun e => by
            have : Nat.beq (Nat.mod m 2) 1 = true := by rw [show Nat.mod m 2 = 1 from e]; rfl
            rw [ho] at this; cases this
          omega
        obtain ⟨r, g1, g2⟩ := repD_eq l f (m / 2) (bapp b b) acc (x + x) y k hb h2 h
        refine ⟨r, ?_, g2⟩
        rw [g1]
        congr 1
        have : x * m = x * (2 * (m / 2)) := by conv => lhs; rw [hd, hm1, Nat.add_zero]
        rw [this, Nat.add_mul, Nat.two_mul, Nat.mul_add]
def kI64 (f : Nat → FR) (v : FV) : FR := kNn (fun q m => gK .i64 q (f m)) v
theorem kI64_cases {f : Nat → FR} {v : FV} (h : kI64 f v ≠ .bad) : ∃ m, v = .n .i64 m ∧ kI64 f v = f m := by
  cases v <;> try exact absurd rfl h
  rename_i q m
  have h : gK .i64 q (f m) ≠ .bad := h
  show ∃ m', FV.n q m = .n .i64 m' ∧ gK .i64 q (f m) = f m'
  unfold gK at h ⊢
  cases hb : Nat.beq (ix .i64) (ix q) <;> rw [hb] at h
  · exact absurd rfl h
  · have := ix_inj hb
    subst this
    exact ⟨m, rfl, rfl⟩
def rpQ (l : List FV) (σ : FH) (k : KV) : FR := k2L l fun x y => kS (fun c => kI64 (fun m => gB (Nat.ble (Nat.mul (bl c) m) 1000000) (gB (Nat.ble m 1000000) (repD 21 m c 1 fun x => k (.s x) σ))) y) x
theorem rpQ_sm (l : List FV) (σ : FH) (k : KV) : Sm (rpQ l σ k) k (rpA (αL l) (αH σ)) := by
  intro h
  unfold rpQ at h ⊢
  obtain ⟨x, y, rfl, h1⟩ := k2L_cases h
  rw [h1] at h ⊢
  obtain ⟨c, rfl, h2⟩ := kS_cases h
  rw [h2] at h ⊢
  obtain ⟨m, rfl, h3⟩ := kI64_cases h
  rw [h3] at h ⊢
  rw [gB_eq, gB_eq] at h ⊢
  cases ha : Nat.ble (Nat.mul (bl c) m) 1000000 <;> rw [ha] at h
  · exact absurd rfl h
  cases hb : Nat.ble m 1000000 <;> rw [hb] at h
  · exact absurd rfl h
  simp only [cond_true]
  simp only [cond_true] at h
  obtain ⟨x, h4, h5⟩ := repD_eq (unp c) 21 m c 1 1 0 (fun x => k (.s x) σ) (by simp [Lib.repeatL]) rfl h
  refine ⟨.s x, σ, ?_, h5⟩
  rw [Nat.zero_add, Nat.one_mul] at h4
  show (Nat.ble ((unp c).length * m) 1000000 && Nat.ble m 1000000, AV.str (Lib.repeatL (unp c) m), αH σ) = (true, AV.str (unp x), αH σ)
  rw [h4, unp_length, hb]
  have ha : Nat.ble (bl c * m) 1000000 = true := ha
  rw [ha]; rfl
end
end Go.Proofs.YtjgmpdklfcmelaaGreatDoor.V2
namespace Go.Proofs.YtjgmpdklfcmelaaGreatDoor.V2
open Go Go.Shelf Go.Proofs Go.RowKit
def count241_lay_ren : Go.Shelf.Ren := ⟨fun | 138 => 241 | 195 => 265 | 218 => 267 | 143 => 242 | 219 => 268 | 217 => 298 | 225 => 299 | 224 => 300 | 267 => 301 | 266 => 316 | 314 => 317 | n => n, fun | 9 => 9 | 3 => 3 | 4 => 4 | 5 => 5 | 0 => 0 | 46 => 170 | 146 => 271 | 51 => 23 | n => n, fun | 1 => 4 | n => n⟩
theorem count241_lay : Go.Proofs.Lays.n138 Tryz.prog count241_lay_ren := {
  mixed := by kernel_rfl
  f138 := Tryz.func241.trans (congrArg some (by kernel_rfl))
  f143 := Tryz.func242.trans (congrArg some (by kernel_rfl))
  f195 := Tryz.func265.trans (congrArg some (by kernel_rfl))
  f217 := Tryz.func298.trans (congrArg some (by kernel_rfl))
  f218 := Tryz.func267.trans (congrArg some (by kernel_rfl))
  f219 := Tryz.func268.trans (congrArg some (by kernel_rfl))
  f224 := Tryz.func300.trans (congrArg some (by kernel_rfl))
  f225 := Tryz.func299.trans (congrArg some (by kernel_rfl))
  f266 := Tryz.func316.trans (congrArg some (by kernel_rfl))
  f267 := Tryz.func301.trans (congrArg some (by kernel_rfl))
  f314 := Tryz.func317.trans (congrArg some (by kernel_rfl))
  t0 := Tryz.underlying0
  a0 := Tryz.isAgg0
  z0 := Tryz.sizeOf0
  v0 := Tryz.zeroValue0
  t3 := Tryz.underlying3
  a3 := Tryz.isAgg3
  z3 := Tryz.sizeOf3
  v3 := Tryz.zeroValue3
  t4 := Tryz.underlying4
  a4 := Tryz.isAgg4
  z4 := Tryz.sizeOf4
  v4 := Tryz.zeroValue4
  t5 := Tryz.underlying5
  a5 := Tryz.isAgg5
  z5 := Tryz.sizeOf5
  v5 := Tryz.zeroValue5
  t9 := Tryz.underlying9
  a9 := Tryz.isAgg9
  z9 := Tryz.sizeOf9
  v9 := Tryz.zeroValue9
  t46 := Tryz.underlying170
  a46 := Tryz.isAgg170
  z46 := Tryz.sizeOf170
  v46 := Tryz.zeroValue170
  t51 := Tryz.underlying23
  a51 := Tryz.isAgg23
  z51 := Tryz.sizeOf23
  v51 := Tryz.zeroValue23
  t146 := Tryz.underlying271
  a146 := Tryz.isAgg271
  z146 := Tryz.sizeOf271
  v146 := Tryz.zeroValue271
  g1 := by kernel_rfl }
def index242_lay_ren : Go.Shelf.Ren := ⟨fun | 143 => 242 | 219 => 268 | 217 => 298 | 225 => 299 | 224 => 300 | 267 => 301 | 266 => 316 | 314 => 317 | n => n, fun | 9 => 9 | 3 => 3 | 4 => 4 | 5 => 5 | 46 => 170 | 146 => 271 | 51 => 23 | n => n, fun | 1 => 4 | n => n⟩
theorem index242_lay : Go.Proofs.Lays.n143 Tryz.prog index242_lay_ren := {
  mixed := by kernel_rfl
  f143 := Tryz.func242.trans (congrArg some (by kernel_rfl))
  f217 := Tryz.func298.trans (congrArg some (by kernel_rfl))
  f219 := Tryz.func268.trans (congrArg some (by kernel_rfl))
  f224 := Tryz.func300.trans (congrArg some (by kernel_rfl))
  f225 := Tryz.func299.trans (congrArg some (by kernel_rfl))
  f266 := Tryz.func316.trans (congrArg some (by kernel_rfl))
  f267 := Tryz.func301.trans (congrArg some (by kernel_rfl))
  f314 := Tryz.func317.trans (congrArg some (by kernel_rfl))
  t3 := Tryz.underlying3
  a3 := Tryz.isAgg3
  z3 := Tryz.sizeOf3
  v3 := Tryz.zeroValue3
  t4 := Tryz.underlying4
  a4 := Tryz.isAgg4
  z4 := Tryz.sizeOf4
  v4 := Tryz.zeroValue4
  t5 := Tryz.underlying5
  a5 := Tryz.isAgg5
  z5 := Tryz.sizeOf5
  v5 := Tryz.zeroValue5
  t9 := Tryz.underlying9
  a9 := Tryz.isAgg9
  z9 := Tryz.sizeOf9
  v9 := Tryz.zeroValue9
  t46 := Tryz.underlying170
  a46 := Tryz.isAgg170
  z46 := Tryz.sizeOf170
  v46 := Tryz.zeroValue170
  t51 := Tryz.underlying23
  a51 := Tryz.isAgg23
  z51 := Tryz.sizeOf23
  v51 := Tryz.zeroValue23
  t146 := Tryz.underlying271
  a146 := Tryz.isAgg271
  z146 := Tryz.sizeOf271
  v146 := Tryz.zeroValue271
  g1 := by kernel_rfl }
def ixS : List UInt8 → UInt8 → Nat → Int
  | [], _, _ => -1
  | b :: l, c, i => bif b == c then (i : Int) else ixS l c (i + 1)
theorem ixS_eq : ∀ (l : List UInt8) (c : UInt8) (i : Nat), ixS l c i = if Lib.indexByte l c = -1 then -1 else i + Lib.indexByte l c
  | [], _, _ => rfl
  | b :: l, c, i => by
    have ih := ixS_eq l c (i + 1)
    have hge := Lib.indexByte_ge l c
    unfold ixS Lib.indexByte
    cases hb : b == c
    · rw [cond_false, ih]
      simp only [Bool.false_eq_true, if_false, beq_iff_eq]
      by_cases h : Lib.indexByte l c = -1
      · simp [h]
      · simp only [h, if_false]
        rw [if_neg (by omega)]
        omega
    · simp
theorem ixS_zero (l : List UInt8) (c : UInt8) : ixS l c 0 = Lib.indexByte l c := by
  rw [ixS_eq]
  by_cases h : Lib.indexByte l c = -1
  · simp [h]
  · simp [h]
theorem count241 (s : List UInt8) (c : UInt8) (w : World) : Calls Tryz.prog 241 #[.string ⟨s.toArray⟩, .string ⟨#[c]⟩] w fun e w' => e = .returned (.int .i64 (s.count c)) ∧ w' = w :=
  Any.strings_Count_one count241_lay ⟨s.toArray⟩ c w
theorem index242 (s : List UInt8) (c : UInt8) (w : World) : Calls Tryz.prog 242 #[.string ⟨s.toArray⟩, .string ⟨#[c]⟩] w fun e w' => e = .returned (.int .i64 (ixS s c 0)) ∧ w' = w := by
  rw [ixS_zero]
  exact Any.strings_Index_one index242_lay ⟨s.toArray⟩ c w
def ctA (args : List AV) (σ : AH) : Out := match args with
  | [.str s, .str [c]] => (true, .int .i64 (s.count c), σ)
  | _ => bad σ
def ixA (args : List AV) (σ : AH) : Out := match args with
  | [.str s, .str [c]] => (true, .int .i64 (ixS s c 0), σ)
  | _ => bad σ
noncomputable def ciF (g : FuncId → List AV → AH → Out) (f : FuncId) (args : List AV) (σ : AH) : Out := bif Nat.beq f 241 then ctA args σ else bif Nat.beq f 242 then ixA args σ else g f args σ
theorem ciF_ok {Y : List Yl} {g : FuncId → List AV → AH → Out} (hg : FnOk Tryz.prog 6 g Y) : FnOk Tryz.prog 6 (ciF g) Y := by
  intro f args σ h
  unfold ciF at h ⊢
  cases hf : Nat.beq f 241
  case true =>
    rw [hf] at h
    simp only [cond_true] at h ⊢
    have e := Nat.eq_of_beq_eq_true hf
    subst e
    refine ⟨⟨_, Tryz.func241, by kernel_rfl, by kernel_rfl⟩, fun ρ W vs _ hG hr hvs => ?_⟩
    unfold ctA at h ⊢
    split at h
    case h_2 => cases h
    rename_i s c
    obtain ⟨v, mm, rfl, hv, u, mmm, rfl, hu, hmm⟩ := hvs
    have hmm : mmm = [] := hmm
    subst hmm
    unfold VR at hv hu
    subst hu hv
    refine (count241 s c W).mono ?_
    rintro e W' ⟨rfl, hw⟩
    subst hw
    exact ⟨_, ρ, rfl, hr, .refl (Nat.le_refl _), by unfold VR; rfl⟩
  case false =>
    rw [hf] at h
    rw [cond_false] at h ⊢
    cases hf2 : Nat.beq f 242
    case false => rw [hf2] at h; rw [cond_false] at h ⊢; exact hg f args σ h
    rw [hf2] at h
    simp only [cond_true] at h ⊢
    have e := Nat.eq_of_beq_eq_true hf2
    subst e
    refine ⟨⟨_, Tryz.func242, by kernel_rfl, by kernel_rfl⟩, fun ρ W vs _ hG hr hvs => ?_⟩
    unfold ixA at h ⊢
    split at h
    case h_2 => cases h
    rename_i s c
    obtain ⟨v, mm, rfl, hv, u, mmm, rfl, hu, hmm⟩ := hvs
    have hmm : mmm = [] := hmm
    subst hmm
    unfold VR at hv hu
    subst hu hv
    refine (index242 s c W).mono ?_
    rintro e W' ⟨rfl, hw⟩
    subst hw
    exact ⟨_, ρ, rfl, hr, .refl (Nat.le_refl _), by unfold VR; rfl⟩
noncomputable section
def k1S (l : List UInt8) (f : UInt8 → FR) : FR := List.rec (motive := fun _ => FR) .bad (fun c m _ => List.rec (motive := fun _ => FR) (f c) (fun _ _ _ => .bad) m) l
theorem k1S_cases {l : List UInt8} {f : UInt8 → FR} (h : k1S l f ≠ .bad) : ∃ c, l = [c] ∧ k1S l f = f c := by
  cases l with
  | nil => exact absurd rfl h
  | cons c m =>
    cases m with
    | nil => exact ⟨c, rfl, rfl⟩
    | cons _ _ => exact absurd rfl h
def ctQ (l : List FV) (σ : FH) (k : KV) : FR := k2L l fun x y => kS (fun s => kS (fun c => k1S (unp c) fun c => fN ((unp s).count c) fun m => k (.n .i64 m) σ) y) x
def ixQ (l : List FV) (σ : FH) (k : KV) : FR := k2L l fun x y => kS (fun s => kS (fun c => k1S (unp c) fun c => vI .i64 (ixS (unp s) c 0) fun v => k v σ) y) x
theorem ctQ_sm (l : List FV) (σ : FH) (k : KV) : Sm (ctQ l σ k) k (ctA (αL l) (αH σ)) := by
  intro h
  unfold ctQ at h ⊢
  obtain ⟨x, y, rfl, h1⟩ := k2L_cases h
  rw [h1] at h ⊢
  obtain ⟨s, rfl, h2⟩ := kS_cases h
  rw [h2] at h ⊢
  obtain ⟨c, rfl, h3⟩ := kS_cases h
  rw [h3] at h ⊢
  obtain ⟨u, h4, h5⟩ := k1S_cases h
  rw [h5] at h ⊢
  rw [fN_eq]
  refine ⟨_, σ, ?_, rfl⟩
  simp only [αL, αV, ctA, h4]
  rfl
theorem ixQ_sm (l : List FV) (σ : FH) (k : KV) : Sm (ixQ l σ k) k (ixA (αL l) (αH σ)) := by
  intro h
  unfold ixQ at h ⊢
  obtain ⟨x, y, rfl, h1⟩ := k2L_cases h
  rw [h1] at h ⊢
  obtain ⟨s, rfl, h2⟩ := kS_cases h
  rw [h2] at h ⊢
  obtain ⟨c, rfl, h3⟩ := kS_cases h
  rw [h3] at h ⊢
  obtain ⟨u, h4, h5⟩ := k1S_cases h
  rw [h5] at h ⊢
  obtain ⟨v, h6, h7⟩ := vI_of .i64 (ixS (unp s) u 0) fun v => k v σ
  refine ⟨v, σ, ?_, h7⟩
  simp only [αL, αV, ixA, h4, h6]
end
end Go.Proofs.YtjgmpdklfcmelaaGreatDoor.V2
namespace Go.Proofs.YtjgmpdklfcmelaaGreatDoor.V2
open Go
set_option linter.unusedVariables false
noncomputable def qeF : List Qe := [⟨179, en179, q179⟩, ⟨89, en89, q89⟩, ⟨86, en86, q86⟩, ⟨18, en18, q18⟩, ⟨90, en90, q90⟩, ⟨87, en87, q87⟩, ⟨177, en177, q177⟩, ⟨243, en243, q243⟩, ⟨180, en180, q180⟩, ⟨88, en88, q88⟩, ⟨178, en178, q178⟩, ⟨92, en92, q92⟩, ⟨270, en270, q270⟩, ⟨246, en246, q246⟩, ⟨182, en182, q182⟩, ⟨21, en21, q21⟩, ⟨98, en98, q98⟩, ⟨93, en93, q93⟩, ⟨186, en186, q186⟩, ⟨183, en183, q183⟩, ⟨95, en95, q95⟩, ⟨20, en20, q20⟩, ⟨91, en91, q91⟩, ⟨244, en244, q244⟩, ⟨23, en23, q23⟩, ⟨181, en181, q181⟩, ⟨30, en30, q30⟩, ⟨29, en29, q29⟩, ⟨107, en107, q107⟩, ⟨22, en22, q22⟩, ⟨27, en27, q27⟩, ⟨106, en106, q106⟩, ⟨97, en97, q97⟩, ⟨32, en32, q32⟩, ⟨105, en105, q105⟩, ⟨25, en25, q25⟩, ⟨24, en24, q24⟩, ⟨96, en96, q96⟩, ⟨31, en31, q31⟩, ⟨108, en108, q108⟩, ⟨33, en33, q33⟩, ⟨26, en26, q26⟩, ⟨19, en19, q19⟩]
theorem qeF_ok : ∀ p ∈ qeF, QeOk p := by
  unfold qeF
  refine List.forall_mem_cons.2 ⟨qe_of eok179 q179_eq rfl, ?_⟩
  refine List.forall_mem_cons.2 ⟨qe_of eok89 q89_eq rfl, ?_⟩
  refine List.forall_mem_cons.2 ⟨qe_of eok86 q86_eq rfl, ?_⟩
  refine List.forall_mem_cons.2 ⟨qe_of eok18 q18_eq rfl, ?_⟩
  refine List.forall_mem_cons.2 ⟨qe_of eok90 q90_eq rfl, ?_⟩
  refine List.forall_mem_cons.2 ⟨qe_of eok87 q87_eq rfl, ?_⟩
  refine List.forall_mem_cons.2 ⟨qe_of eok177 q177_eq rfl, ?_⟩
  refine List.forall_mem_cons.2 ⟨qe_of eok243 q243_eq rfl, ?_⟩
  refine List.forall_mem_cons.2 ⟨qe_of eok180 q180_eq rfl, ?_⟩
  refine List.forall_mem_cons.2 ⟨qe_of eok88 q88_eq rfl, ?_⟩
  refine List.forall_mem_cons.2 ⟨qe_of eok178 q178_eq rfl, ?_⟩
  refine List.forall_mem_cons.2 ⟨qe_of eok92 q92_eq rfl, ?_⟩
  refine List.forall_mem_cons.2 ⟨qe_of eok270 q270_eq rfl, ?_⟩
  refine List.forall_mem_cons.2 ⟨qe_of eok246 q246_eq rfl, ?_⟩
  refine List.forall_mem_cons.2 ⟨qe_of eok182 q182_eq rfl, ?_⟩
  refine List.forall_mem_cons.2 ⟨qe_of eok21 q21_eq rfl, ?_⟩
  refine List.forall_mem_cons.2 ⟨qe_of eok98 q98_eq rfl, ?_⟩
  refine List.forall_mem_cons.2 ⟨qe_of eok93 q93_eq rfl, ?_⟩
  refine List.forall_mem_cons.2 ⟨qe_of eok186 q186_eq rfl, ?_⟩
  refine List.forall_mem_cons.2 ⟨qe_of eok183 q183_eq rfl, ?_⟩
  refine List.forall_mem_cons.2 ⟨qe_of eok95 q95_eq rfl, ?_⟩
  refine List.forall_mem_cons.2 ⟨qe_of eok20 q20_eq rfl, ?_⟩
  refine List.forall_mem_cons.2 ⟨qe_of eok91 q91_eq rfl, ?_⟩
  refine List.forall_mem_cons.2 ⟨qe_of eok244 q244_eq rfl, ?_⟩
  refine List.forall_mem_cons.2 ⟨qe_of eok23 q23_eq rfl, ?_⟩
  refine List.forall_mem_cons.2 ⟨qe_of eok181 q181_eq rfl, ?_⟩
  refine List.forall_mem_cons.2 ⟨qe_of eok30 q30_eq rfl, ?_⟩
  refine List.forall_mem_cons.2 ⟨qe_of eok29 q29_eq rfl, ?_⟩
  refine List.forall_mem_cons.2 ⟨qe_of eok107 q107_eq rfl, ?_⟩
  refine List.forall_mem_cons.2 ⟨qe_of eok22 q22_eq rfl, ?_⟩
  refine List.forall_mem_cons.2 ⟨qe_of eok27 q27_eq rfl, ?_⟩
  refine List.forall_mem_cons.2 ⟨qe_of eok106 q106_eq rfl, ?_⟩
  refine List.forall_mem_cons.2 ⟨qe_of eok97 q97_eq rfl, ?_⟩
  refine List.forall_mem_cons.2 ⟨qe_of eok32 q32_eq rfl, ?_⟩
  refine List.forall_mem_cons.2 ⟨qe_of eok105 q105_eq rfl, ?_⟩
  refine List.forall_mem_cons.2 ⟨qe_of eok25 q25_eq rfl, ?_⟩
  refine List.forall_mem_cons.2 ⟨qe_of eok24 q24_eq rfl, ?_⟩
  refine List.forall_mem_cons.2 ⟨qe_of eok96 q96_eq rfl, ?_⟩
  refine List.forall_mem_cons.2 ⟨qe_of eok31 q31_eq rfl, ?_⟩
  refine List.forall_mem_cons.2 ⟨qe_of eok108 q108_eq rfl, ?_⟩
  refine List.forall_mem_cons.2 ⟨qe_of eok33 q33_eq rfl, ?_⟩
  refine List.forall_mem_cons.2 ⟨qe_of eok26 q26_eq rfl, ?_⟩
  refine List.forall_mem_cons.2 ⟨qe_of eok19 q19_eq rfl, ?_⟩
  exact fun p hp => absurd hp List.not_mem_nil
noncomputable def tEF : T Ent := tabE qeF
noncomputable def tQF : T (Phi → HF) := tabP qeF
theorem tQF_ok : TabQ 1000000 tEF tQF := ⟨fun f => (tabE_get qeF_ok f).2, fun f x hx => by
  obtain ⟨q, h1, h2, _⟩ := (tabE_get qeF_ok f).1 x hx
  exact ⟨q, h1, h2⟩⟩
theorem tEF_ok : TabOk Tryz.prog 6 (fun _ => false) tEF := fun f x h => by
  obtain ⟨_, _, _, h3⟩ := (tabE_get qeF_ok f).1 x h
  exact h3
def noF (_ : FuncId) (_ : List AV) (σ : AH) : Out := bad σ
theorem noF_ok {Y : List Yl} : FnOk Tryz.prog 6 noF Y := fun _ _ _ h => by cases h
noncomputable def gQF : FuncId → List AV → AH → Out := ciF (rpF (wnF (srF noF)))
theorem gQF_ok {Y : List Yl} : FnOk Tryz.prog 6 gQF Y := ciF_ok (rpF_ok (wnF_ok (srF_ok noF_ok)))
theorem gamF_ok : GamOk Tryz.prog 6 (Gam.grow std 1000000 tEF Sp.none (.of gQF) 40) [] := (grow_ok mixed tEF_ok Sp.none_ok (fun f h => by cases h) 40 (.of gQF_ok) hpu0').1
noncomputable def bQF : FuncId → HF := fun f l σ k => Bool.rec (Bool.rec (Bool.rec (Bool.rec (Bool.rec .bad (srQ l σ k) (Nat.beq f 185)) (wiQ l σ k) (Nat.beq f 94)) (rpQ l σ k) (Nat.beq f 28)) (ixQ l σ k) (Nat.beq f 242)) (ctQ l σ k) (Nat.beq f 241)
theorem bQF_ok (f : FuncId) : HOk (bQF f) ((Gam.of gQF).fn f) := fun l σ k => by
  show Sm (Bool.rec (Bool.rec (Bool.rec (Bool.rec (Bool.rec .bad (srQ l σ k) (Nat.beq f 185)) (wiQ l σ k) (Nat.beq f 94)) (rpQ l σ k) (Nat.beq f 28)) (ixQ l σ k) (Nat.beq f 242)) (ctQ l σ k) (Nat.beq f 241)) k (bif Nat.beq f 241 then ctA (αL l) (αH σ) else bif Nat.beq f 242 then ixA (αL l) (αH σ) else bif Nat.beq f 28 then rpA (αL l) (αH σ) else bif Nat.beq f 94 then wiA (αL l) (αH σ) else bif Nat.beq f 185 then srtA (αL l) (αH σ) else bad (αH σ))
  cases Nat.beq f 241 with
  | true => exact ctQ_sm l σ k
  | false =>
  cases Nat.beq f 242 with
  | true => exact ixQ_sm l σ k
  | false =>
  cases Nat.beq f 28 with
  | true => exact rpQ_sm l σ k
  | false =>
  cases Nat.beq f 94 with
  | true => exact wiQ_sm l σ k
  | false =>
  cases Nat.beq f 185 with
  | true => exact srQ_sm l σ k
  | false => exact Sm.bad
end Go.Proofs.YtjgmpdklfcmelaaGreatDoor.V2
namespace Go.Proofs.YtjgmpdklfcmelaaGreatDoor.V2
open Go
set_option linter.unusedVariables false
open Go.RowKit
def l4_0 : List (Nat × FV) := []
def m4_0 : List (Nat × FObj) := [(0, .cells [] 0 .ro), (1, .cells [] 0 .ro), (2, .cells [] 0 .ro), (3, .cells [] 0 .ro), (4, .cells [] 0 .ro), (5, .cells [] 0 .ro)]
theorem u4_0_lt : (l4_0.all fun p => Nat.blt p.1 1024) = true := by kernel_rfl
def o4_1 : List Nat := [0, 1, 2, 3, 4, 5, 8, 7]
def l4_1 : List (Nat × FV) := [(0, .b false), (7, .p 6 0)]
def m4_1 : List (Nat × FObj) := [(0, .cells [] 0 .ro), (1, .cells [] 0 .ro), (2, .cells [] 0 .ro), (3, .cells [] 0 .ro), (4, .cells [] 0 .ro), (5, .cells [] 0 .ro), (6, .cells [.m 7, .s 5992571951] 53 .exact), (7, .map [(.s 91183, .agg [.s 91183, .b true, .s 1]), (.s 91695, .agg [.s 91695, .b false, .s 78385]), (.s 6026126383, .agg [.s 6026126383, .b false, .s 78899]), (.s 5992571951, .agg [.s 5992571951, .b true, .s 1])])]
theorem u4_1_lt : (l4_1.all fun p => Nat.blt p.1 1024) = true := by kernel_rfl
theorem n4_1_ok : okN o4_1 8 (αl l4_1) (αm m4_1) = true := by kernel_rfl
theorem d4_1_ok : distN (l4_1.map (·.1)) = true := by kernel_rfl
theorem w4_1_ok : ((List.range 6).map fun b => (ofM (αm m4_1)).get b) = (List.range 6).map fun b => (lowL (αm m4_1) b).map (mapO (rn o4_1)) := by kernel_rfl
def o4_2 : List Nat := [0, 1, 2, 3, 4, 5, 6, 242, 246, 7]
def l4_2 : List (Nat × FV) := [(0, .b false), (7, .p 6 0), (14, .s 78899), (16, .sl 7 0 2 2 false 1), (18, .sl 8 0 2 2 false 1)]
def m4_2 : List (Nat × FObj) := [(0, .cells [] 0 .ro), (1, .cells [] 0 .ro), (2, .cells [] 0 .ro), (3, .cells [] 0 .ro), (4, .cells [] 0 .ro), (5, .cells [] 0 .ro), (6, .cells [.m 9, .s 5992571951] 53 .exact), (7, .cells [.s 356, .s 358] 9 .more), (8, .cells [.s 357, .s 359] 9 .more), (9, .map [(.s 91183, .agg [.s 91183, .b true, .s 1]), (.s 91695, .agg [.s 91695, .b false, .s 78385]), (.s 6026126383, .agg [.s 6026126383, .b false, .s 78899]), (.s 5992571951, .agg [.s 5992571951, .b true, .s 1])])]
theorem u4_2_lt : (l4_2.all fun p => Nat.blt p.1 1024) = true := by kernel_rfl
theorem n4_2_ok : okN o4_2 10 (αl l4_2) (αm m4_2) = true := by kernel_rfl
theorem d4_2_ok : distN (l4_2.map (·.1)) = true := by kernel_rfl
theorem w4_2_ok : ((List.range 6).map fun b => (ofM (αm m4_2)).get b) = (List.range 6).map fun b => (lowL (αm m4_2) b).map (mapO (rn o4_2)) := by kernel_rfl
def o4_3 : List Nat := [0, 1, 2, 3, 4, 5, 113, 112]
def l4_3 : List (Nat × FV) := [(0, .b false), (20, .p 6 0)]
def m4_3 : List (Nat × FObj) := [(0, .cells [] 0 .ro), (1, .cells [] 0 .ro), (2, .cells [] 0 .ro), (3, .cells [] 0 .ro), (4, .cells [] 0 .ro), (5, .cells [] 0 .ro), (6, .cells [.m 7, .s 303] 53 .exact), (7, .map [])]
theorem u4_3_lt : (l4_3.all fun p => Nat.blt p.1 1024) = true := by kernel_rfl
theorem n4_3_ok : okN o4_3 8 (αl l4_3) (αm m4_3) = true := by kernel_rfl
theorem d4_3_ok : distN (l4_3.map (·.1)) = true := by kernel_rfl
theorem w4_3_ok : ((List.range 6).map fun b => (ofM (αm m4_3)).get b) = (List.range 6).map fun b => (lowL (αm m4_3) b).map (mapO (rn o4_3)) := by kernel_rfl
def o4_4 : List Nat := [0, 1, 2, 3, 4, 5, 6, 9672, 7, 9671]
def l4_4 : List (Nat × FV) := [(0, .b false), (20, .p 6 0), (22, .p 7 0), (23, .n .i64 0)]
def m4_4 : List (Nat × FObj) := [(0, .cells [] 0 .ro), (1, .cells [] 0 .ro), (2, .cells [] 0 .ro), (3, .cells [] 0 .ro), (4, .cells [] 0 .ro), (5, .cells [] 0 .ro), (6, .cells [.m 8, .s 303] 53 .exact), (7, .cells [.m 9, .s 303] 53 .exact), (8, .map [(.s 5928739887, .agg [.s 5928739887, .b true, .s 1]), (.s 5945517103, .agg [.s 5945517103, .b true, .s 1]), (.s 5962294319, .agg [.s 5962294319, .b true, .s 1]), (.s 5979071535, .agg [.s 5979071535, .b true, .s 1]), (.s 5995848751, .agg [.s 5995848751, .b true, .s 1]), (.s 6012625967, .agg [.s 6012625967, .b true, .s 1]), (.s 6029403183, .agg [.s 6029403183, .b true, .s 1]), (.s 6046180399, .agg [.s 6046180399, .b true, .s 1]), (.s 6062957615, .agg [.s 6062957615, .b true, .s 1]), (.s 6079734831, .agg [.s 6079734831, .b true, .s 1]), (.s 6096512047, .agg [.s 6096512047, .b true, .s 1]), (.s 6113289263, .agg [.s 6113289263, .b true, .s 1]), (.s 6130066479, .agg [.s 6130066479, .b true, .s 1]), (.s 6146843695, .agg [.s 6146843695, .b true, .s 1]), (.s 6163620911, .agg [.s 6163620911, .b true, .s 1]), (.s 6180398127, .agg [.s 6180398127, .b true, .s 1]), (.s 6197175343, .agg [.s 6197175343, .b true, .s 1]), (.s 6213952559, .agg [.s 6213952559, .b true, .s 1]), (.s 6230729775, .agg [.s 6230729775, .b true, .s 1]), (.s 6247506991, .agg [.s 6247506991, .b true, .s 1]), (.s 6264284207, .agg [.s 6264284207, .b true, .s 1]), (.s 6281061423, .agg [.s 6281061423, .b true, .s 1]), (.s 6297838639, .agg [.s 6297838639, .b true, .s 1]), (.s 6314615855, .agg [.s 6314615855, .b true, .s 1]), (.s 6331393071, .agg [.s 6331393071, .b true, .s 1]), (.s 6348170287, .agg [.s 6348170287, .b true, .s 1]), (.s 5928805423, .agg [.s 5928805423, .b true, .s 1]), (.s 5945582639, .agg [.s 5945582639, .b true, .s 1]), (.s 5962359855, .agg [.s 5962359855, .b true, .s 1]), (.s 5979137071, .agg [.s 5979137071, .b true, .s 1]), (.s 5995914287, .agg [.s 5995914287, .b true, .s 1]), (.s 6012691503, .agg [.s 6012691503, .b true, .s 1]), (.s 6029468719, .agg [.s 6029468719, .b true, .s 1]), (.s 6046245935, .agg [.s 6046245935, .b true, .s 1]), (.s 6063023151, .agg [.s 6063023151, .b true, .s 1]), (.s 6079800367, .agg [.s 6079800367, .b true, .s 1]), (.s 6096577583, .agg [.s 6096577583, .b true, .s 1]), (.s 6113354799, .agg [.s 6113354799, .b true, .s 1]), (.s 6130132015, .agg [.s 6130132015, .b true, .s 1]), (.s 6146909231, .agg [.s 6146909231, .b true, .s 1]), (.s 6163686447, .agg [.s 6163686447, .b true, .s 1]), (.s 6180463663, .agg [.s 6180463663, .b true, .s 1]), (.s 6197240879, .agg [.s 6197240879, .b true, .s 1]), (.s 6214018095, .agg [.s 6214018095, .b true, .s 1]), (.s 6230795311, .agg [.s 6230795311, .b true, .s 1]), (.s 6247572527, .agg [.s 6247572527, .b true, .s 1]), (.s 6264349743, .agg [.s 6264349743, .b true, .s 1]), (.s 6281126959, .agg [.s 6281126959, .b true, .s 1]), (.s 6297904175, .agg [.s 6297904175, .b true, .s 1]), (.s 6314681391, .agg [.s 6314681391, .b true, .s 1]), (.s 6331458607, .agg [.s 6331458607, .b true, .s 1]), (.s 6348235823, .agg [.s 6348235823, .b true, .s 1]), (.s 5928870959, .agg [.s 5928870959, .b true, .s 1]), (.s 5945648175, .agg [.s 5945648175, .b true, .s 1]), (.s 5962425391, .agg [.s 5962425391, .b true, .s 1]), (.s 5979202607, .agg [.s 5979202607, .b true, .s 1]), (.s 5995979823, .agg [.s 5995979823, .b true, .s 1]), (.s 6012757039, .agg [.s 6012757039, .b true, .s 1]), (.s 6029534255, .agg [.s 6029534255, .b true, .s 1]), (.s 6046311471, .agg [.s 6046311471, .b true, .s 1]), (.s 6063088687, .agg [.s 6063088687, .b true, .s 1]), (.s 6079865903, .agg [.s 6079865903, .b true, .s 1]), (.s 6096643119, .agg [.s 6096643119, .b true, .s 1]), (.s 6113420335, .agg [.s 6113420335, .b true, .s 1]), (.s 6130197551, .agg [.s 6130197551, .b true, .s 1]), (.s 6146974767, .agg [.s 6146974767, .b true, .s 1]), (.s 6163751983, .agg [.s 6163751983, .b true, .s 1]), (.s 6180529199, .agg [.s 6180529199, .b true, .s 1]), (.s 6197306415, .agg [.s 6197306415, .b true, .s 1]), (.s 6214083631, .agg [.s 6214083631, .b true, .s 1]), (.s 6230860847, .agg [.s 6230860847, .b true, .s 1]), (.s 6247638063, .agg [.s 6247638063, .b true, .s 1]), (.s 6264415279, .agg [.s 6264415279, .b true, .s 1]), (.s 6281192495, .agg [.s 6281192495, .b true, .s 1]), (.s 6297969711, .agg [.s 6297969711, .b true, .s 1]), (.s 6314746927, .agg [.s 6314746927, .b true, .s 1]), (.s 6331524143, .agg [.s 6331524143, .b true, .s 1]), (.s 6348301359, .agg [.s 6348301359, .b true, .s 1]), (.s 5928936495, .agg [.s 5928936495, .b true, .s 1]), (.s 5945713711, .agg [.s 5945713711, .b true, .s 1]), (.s 5962490927, .agg [.s 5962490927, .b true, .s 1]), (.s 5979268143, .agg [.s 5979268143, .b true, .s 1]), (.s 5996045359, .agg [.s 5996045359, .b true, .s 1]), (.s 6012822575, .agg [.s 6012822575, .b true, .s 1]), (.s 6029599791, .agg [.s 6029599791, .b true, .s 1]), (.s 6046377007, .agg [.s 6046377007, .b true, .s 1]), (.s 6063154223, .agg [.s 6063154223, .b true, .s 1]), (.s 6079931439, .agg [.s 6079931439, .b true, .s 1]), (.s 6096708655, .agg [.s 6096708655, .b true, .s 1]), (.s 6113485871, .agg [.s 6113485871, .b true, .s 1]), (.s 6130263087, .agg [.s 6130263087, .b true, .s 1]), (.s 6147040303, .agg [.s 6147040303, .b true, .s 1]), (.s 6163817519, .agg [.s 6163817519, .b true, .s 1]), (.s 6180594735, .agg [.s 6180594735, .b true, .s 1]), (.s 6197371951, .agg [.s 6197371951, .b true, .s 1]), (.s 6214149167, .agg [.s 6214149167, .b true, .s 1]), (.s 6230926383, .agg [.s 6230926383, .b true, .s 1]), (.s 6247703599, .agg [.s 6247703599, .b true, .s 1]), (.s 6264480815, .agg [.s 6264480815, .b true, .s 1]), (.s 6281258031, .agg [.s 6281258031, .b true, .s 1]), (.s 6298035247, .agg [.s 6298035247, .b true, .s 1]), (.s 6314812463, .agg [.s 6314812463, .b true, .s 1]), (.s 6331589679, .agg [.s 6331589679, .b true, .s 1]), (.s 6348366895, .agg [.s 6348366895, .b true, .s 1]), (.s 5929002031, .agg [.s 5929002031, .b true, .s 1]), (.s 5945779247, .agg [.s 5945779247, .b true, .s 1]), (.s 5962556463, .agg [.s 5962556463, .b true, .s 1]), (.s 5979333679, .agg [.s 5979333679, .b true, .s 1]), (.s 5996110895, .agg [.s 5996110895, .b true, .s 1]), (.s 6012888111, .agg [.s 6012888111, .b true, .s 1]), (.s 6029665327, .agg [.s 6029665327, .b true, .s 1]), (.s 6046442543, .agg [.s 6046442543, .b true, .s 1]), (.s 6063219759, .agg [.s 6063219759, .b true, .s 1]), (.s 6079996975, .agg [.s 6079996975, .b true, .s 1]), (.s 6096774191, .agg [.s 6096774191, .b true, .s 1]), (.s 6113551407, .agg [.s 6113551407, .b true, .s 1]), (.s 6130328623, .agg [.s 6130328623, .b true, .s 1]), (.s 6147105839, .agg [.s 6147105839, .b true, .s 1]), (.s 6163883055, .agg [.s 6163883055, .b true, .s 1]), (.s 6180660271, .agg [.s 6180660271, .b true, .s 1]), (.s 6197437487, .agg [.s 6197437487, .b true, .s 1]), (.s 6214214703, .agg [.s 6214214703, .b true, .s 1]), (.s 6230991919, .agg [.s 6230991919, .b true, .s 1]), (.s 6247769135, .agg [.s 6247769135, .b true, .s 1]), (.s 6264546351, .agg [.s 6264546351, .b true, .s 1]), (.s 6281323567, .agg [.s 6281323567, .b true, .s 1]), (.s 6298100783, .agg [.s 6298100783, .b true, .s 1]), (.s 6314877999, .agg [.s 6314877999, .b true, .s 1])]), (9, .map [])]
theorem u4_4_lt : (l4_4.all fun p => Nat.blt p.1 1024) = true := by kernel_rfl
theorem n4_4_ok : okN o4_4 10 (αl l4_4) (αm m4_4) = true := by kernel_rfl
theorem d4_4_ok : distN (l4_4.map (·.1)) = true := by kernel_rfl
theorem w4_4_ok : ((List.range 6).map fun b => (ofM (αm m4_4)).get b) = (List.range 6).map fun b => (lowL (αm m4_4) b).map (mapO (rn o4_4)) := by kernel_rfl
noncomputable def c4_0 : ACode := c4
noncomputable def c4_1 : ACode := aD 7 c4_0
noncomputable def c4_2 : ACode := aD 3 c4_1
noncomputable def c4_3 : ACode := aD 2 c4_2
noncomputable def c4_4 : ACode := aD 2 c4_3
theorem f4_0 : noFor 7 c4_0 = true := by kernel_rfl
theorem f4_1 : noFor 3 c4_1 = true := by kernel_rfl
theorem f4_2 : noFor 2 c4_2 = true := by kernel_rfl
theorem f4_3 : noFor 2 c4_3 = true := by kernel_rfl
end Go.Proofs.YtjgmpdklfcmelaaGreatDoor.V2
namespace Go.Proofs.YtjgmpdklfcmelaaGreatDoor.V2
open Go
set_option linter.unusedVariables false
open Go.RowKit
set_option maxRecDepth 100000
noncomputable def z4_0 : Cd := (cWr X0 (.b false) (cLet (nL (buN [.o .map, .s 1] [.nilmap, (.str [])] []) []) fun v1 => (cLet (n1 (bxF 53) (rdV v1)) fun v2 => (cLet (oCallS 18 [(rdV (.o .ptr)), (rdV (.s 303))]) fun v3 => (cLet (o1 (exG 0) (rdV v3)) fun v4 => (cLet (o1 (exG 1) (rdV v3)) fun v5 => (cLet (oCallS 19 [(rdV v2), (rdV (.s 303))]) fun v6 => (cLet (o1 (exG 0) (rdV v6)) fun v7 => (cLet (o1 (exG 1) (rdV v6)) fun v8 => (cLet (o2 bNeq (rdV v5) (rdV (.n .i64 2))) fun v9 => (cLet (oG false (rdV v9) (oV (rdV v8))) fun v10 => (cLet (oG false (rdV v9) (o2 bNeq (rdV v10) (rdV (.n .i64 2)))) fun v11 => (cLet (o3 pkF (rdV v9) (rdV (.b true)) (rdV v11)) fun v12 => (cLet (oG false (rdV v12) (oV (rdV (.o .ptr)))) fun v13 => (cLet (oG false (rdV v12) (oCallS 20 [(rdV v13), (rdV (.s 353)), (rdV (.s 1)), (rdV (.b false))])) fun v14 => (cLet (oG false (rdV v12) (o2 bNeq (rdV v14) (rdV (.n .i64 2)))) fun v15 => (cLet (o3 pkF (rdV v12) (rdV (.b true)) (rdV v15)) fun v16 => (cLet (oG false (rdV v16) (oV (rdV v2))) fun v17 => (cLet (oG false (rdV v16) (oCallS 21 [(rdV v17), (rdV (.s 353))])) fun v18 => (cLet (oG false (rdV v16) (o2 bNeq (rdV v18) (rdV (.n .i64 2)))) fun v19 => (cLet (o3 pkF (rdV v16) (rdV (.b true)) (rdV v19)) fun v20 => (cLet (oG false (rdV v20) (oV (rdV (.o .ptr)))) fun v21 => (cLet (oG false (rdV v20) (oCallS 22 [(rdV v21), (rdV (.s 353))])) fun v22 => (cLet (oG false (rdV v20) (o2 bNeq (rdV v22) (rdV (.n .i64 2)))) fun v23 => (cLet (o3 pkF (rdV v20) (rdV (.b true)) (rdV v23)) fun v24 => (cLet (oG false (rdV v24) (oV (rdV v2))) fun v25 => (cLet (oG false (rdV v24) (oCallS 23 [(rdV v25), (rdV (.s 303))])) fun v26 => (cLet (oG false (rdV v24) (o2 bNeq (rdV v26) (rdV (.n .i64 2)))) fun v27 => (cLet (o3 pkF (rdV v24) (rdV (.b true)) (rdV v27)) fun v28 => (cLet (oG false (rdV v28) (oV (rdV (.o .ptr)))) fun v29 => (cLet (oG false (rdV v28) (oCallS 24 [(rdV v29)])) fun v30 => (cLet (oG false (rdV v28) (o2 bNeq (rdV v30) (rdV (.s 1)))) fun v31 => (cLet (o3 pkF (rdV v28) (rdV (.b true)) (rdV v31)) fun v32 => (cLet (oG false (rdV v32) (oV (rdV v2))) fun v33 => (cLet (oG false (rdV v32) (oCallS 25 [(rdV v33)])) fun v34 => (cLet (oG false (rdV v32) (o1 lvF (rdV v34))) fun v35 => (cLet (oG false (rdV v32) (o2 bNeq (rdV v35) (rdV (.n .i64 0)))) fun v36 => (cLet (o3 pkF (rdV v32) (rdV (.b true)) (rdV v36)) fun v37 => (cLet (oG false (rdV v37) (oV (rdV (.o .ptr)))) fun v38 => (cLet (oG false (rdV v37) (oCallS 26 [(rdV v38)])) fun v39 => (cLet (oG false (rdV v37) (o2 (eqQ1 true .ptr) (rdV v39) (rdV (.o .ptr)))) fun v40 => (cLet (o3 pkF (rdV v37) (rdV (.b true)) (rdV v40)) fun v41 => (cSeq (cCond (rdV v41) (cWr X0 (.b false) cRet) cSkip) (cLet (oCallS 27 []) fun v42 => (cWr X7 v42 (cLet (oCallS 21 [(rdV v42), (rdV (.s 356))]) fun v43 => (cLet (o2 bNeq (rdV v43) (rdV (.n .i64 0))) fun v44 => (cLet (oG false (rdV v44) (oV (rdV v42))) fun v45 => (cLet (oG false (rdV v44) (oCallS 20 [(rdV v45), (rdV (.s 358)), (rdV (.s 78385)), (rdV (.b false))])) fun v46 => (cLet (oG false (rdV v44) (o2 bNeq (rdV v46) (rdV (.n .i64 0)))) fun v47 => (cLet (o3 pkF (rdV v44) (rdV (.b true)) (rdV v47)) fun v48 => (cLet (oG false (rdV v48) (oV (rdV v42))) fun v49 => (cLet (oG false (rdV v48) (oCallS 20 [(rdV v49), (rdV (.s 23539556)), (rdV (.s 307)), (rdV (.b true))])) fun v50 => (cLet (oG false (rdV v48) (o2 bNeq (rdV v50) (rdV (.n .i64 0)))) fun v51 => (cLet (o3 pkF (rdV v48) (rdV (.b true)) (rdV v51)) fun v52 => (cLet (oG false (rdV v52) (oV (rdV v42))) fun v53 => (cLet (oG false (rdV v52) (oCallS 20 [(rdV v53), (rdV (.s 6026126383)), (rdV (.s 308)), (rdV (.b true))])) fun v54 => (cLet (oG false (rdV v52) (o2 bNeq (rdV v54) (rdV (.n .i64 0)))) fun v55 => (cLet (o3 pkF (rdV v52) (rdV (.b true)) (rdV v55)) fun v56 => (cLet (oG false (rdV v56) (oV (rdV v42))) fun v57 => (cLet (oG false (rdV v56) (oCallS 21 [(rdV v57), (rdV (.s 23408484))])) fun v58 => (cLet (oG false (rdV v56) (o2 bNeq (rdV v58) (rdV (.n .i64 0)))) fun v59 => (cLet (o3 pkF (rdV v56) (rdV (.b true)) (rdV v59)) fun v60 => (cLet (oG false (rdV v60) (oV (rdV v42))) fun v61 => (cLet (oG false (rdV v60) (oCallS 23 [(rdV v61), (rdV (.s 23408484))])) fun v62 => (cLet (oG false (rdV v60) (o2 bNeq (rdV v62) (rdV (.n .i64 0)))) fun v63 => (cLet (o3 pkF (rdV v60) (rdV (.b true)) (rdV v63)) fun v64 => (cSeq (cCond (rdV v64) (cWr X0 (.b false) cRet) cSkip) cSkip))))))))))))))))))))))))))))))))))))))))))))))))))))))))))))))))))))
theorem z4_0_eq : thrK 1000000 375 (drOf 375 [0, 7]) (aT 7 c4_0) [] cS = z4_0 := by kernel_rfl
theorem t4_0 : runQ tQF bQF z4_0 l4_0 m4_0 6 (endK [R0, R7] (m4_1.map fun p => rn o4_1 p.1)) kX = .ok (.tup (l4_1.map fun p => mapF (rn o4_1) p.2)) ⟨0, chT (m4_1.map fun p => mapFO (rn o4_1) p.2)⟩ := by kernel_rfl
end Go.Proofs.YtjgmpdklfcmelaaGreatDoor.V2
namespace Go.Proofs.YtjgmpdklfcmelaaGreatDoor.V2
open Go
set_option linter.unusedVariables false
open Go.RowKit
set_option maxRecDepth 100000
noncomputable def z4_1 : Cd := (cLet (nL (buN [.s 1, .n .i64 0, .n .i64 0, .n .i64 0, .n .i64 0] [(.str []), (.int .i64 0), (.int .i64 0), (.int .i64 0), (.int .i64 0)] [(0, 1), (1, 1), (2, 1), (3, 1), (4, 1)]) [(rdV (.s 1)), (rdV (.n .i64 23)), (rdV (.n .i64 23)), (rdV (.n .i64 23)), (rdV (.n .i64 23))]) fun v1 => (cLet (oCallS 28 [(rdV (.s 353)), (rdV (.n .i64 257))]) fun v2 => (cLet (nL (buN [.s 1, .n .i64 0, .n .i64 0, .n .i64 0, .n .i64 0] [(.str []), (.int .i64 0), (.int .i64 0), (.int .i64 0), (.int .i64 0)] [(0, 1), (1, 1), (2, 1), (3, 1), (4, 1)]) [(rdV v2), (rdV (.n .i64 23)), (rdV (.n .i64 23)), (rdV (.n .i64 23)), (rdV (.n .i64 23))]) fun v3 => (cLet (nL (buN [.s 1, .n .i64 0, .n .i64 0, .n .i64 0, .n .i64 0] [(.str []), (.int .i64 0), (.int .i64 0), (.int .i64 0), (.int .i64 0)] [(0, 1), (1, 1), (2, 1), (3, 1), (4, 1)]) [(rdV (.s 65889)), (rdV (.n .i64 23)), (rdV (.n .i64 23)), (rdV (.n .i64 23)), (rdV (.n .i64 23))]) fun v4 => (cLet (oCallS 28 [(rdV (.s 353)), (rdV (.n .i64 33))]) fun v5 => (cLet (nL (buN [.s 1, .n .i64 0, .n .i64 0, .n .i64 0, .n .i64 0] [(.str []), (.int .i64 0), (.int .i64 0), (.int .i64 0), (.int .i64 0)] [(0, 1), (1, 1), (2, 1), (3, 1), (4, 1)]) [(rdV v5), (rdV (.n .i64 23)), (rdV (.n .i64 23)), (rdV (.n .i64 23)), (rdV (.n .i64 23))]) fun v6 => (cLet (nL (buN [.s 1, .n .i64 0, .n .i64 0, .n .i64 0, .n .i64 0] [(.str []), (.int .i64 0), (.int .i64 0), (.int .i64 0), (.int .i64 0)] [(0, 1), (1, 1), (2, 1), (3, 1), (4, 1)]) [(rdV (.s 24719224)), (rdV (.n .i64 6)), (rdV (.n .i64 6)), (rdV (.n .i64 6)), (rdV (.n .i64 6))]) fun v7 => (cLet (nL (buN [.s 1, .n .i64 0, .n .i64 0, .n .i64 0, .n .i64 0] [(.str []), (.int .i64 0), (.int .i64 0), (.int .i64 0), (.int .i64 0)] [(0, 1), (1, 1), (2, 1), (3, 1), (4, 1)]) [(rdV (.s 5069746040)), (rdV (.n .i64 6)), (rdV (.n .i64 6)), (rdV (.n .i64 6)), (rdV (.n .i64 6))]) fun v8 => (cLet (nL (buN [.s 1, .n .i64 0, .n .i64 0, .n .i64 0, .n .i64 0] [(.str []), (.int .i64 0), (.int .i64 0), (.int .i64 0), (.int .i64 0)] [(0, 1), (1, 1), (2, 1), (3, 1), (4, 1)]) [(rdV (.s 6311339567)), (rdV (.n .i64 5)), (rdV (.n .i64 5)), (rdV (.n .i64 5)), (rdV (.n .i64 5))]) fun v9 => (cLet (nL (buN [.s 1, .n .i64 0, .n .i64 0, .n .i64 0, .n .i64 0] [(.str []), (.int .i64 0), (.int .i64 0), (.int .i64 0), (.int .i64 0)] [(0, 1), (1, 1), (2, 1), (3, 1), (4, 1)]) [(rdV (.s 1297854981679)), (rdV (.n .i64 5)), (rdV (.n .i64 5)), (rdV (.n .i64 5)), (rdV (.n .i64 5))]) fun v10 => (cLet (nL (buN [.s 1, .n .i64 0, .n .i64 0, .n .i64 0, .n .i64 0] [(.str []), (.int .i64 0), (.int .i64 0), (.int .i64 0), (.int .i64 0)] [(0, 1), (1, 1), (2, 1), (3, 1), (4, 1)]) [(rdV (.s 91183)), (rdV (.n .i64 5)), (rdV (.n .i64 9)), (rdV (.n .i64 5)), (rdV (.n .i64 0))]) fun v11 => (cLet (nL (buN [.s 1, .n .i64 0, .n .i64 0, .n .i64 0, .n .i64 0] [(.str []), (.int .i64 0), (.int .i64 0), (.int .i64 0), (.int .i64 0)] [(0, 1), (1, 1), (2, 1), (3, 1), (4, 1)]) [(rdV (.s 303)), (rdV (.n .i64 5)), (rdV (.n .i64 9)), (rdV (.n .i64 5)), (rdV (.n .i64 0))]) fun v12 => (cLet (nL (buN [.s 1, .n .i64 0, .n .i64 0, .n .i64 0, .n .i64 0] [(.str []), (.int .i64 0), (.int .i64 0), (.int .i64 0), (.int .i64 0)] [(0, 1), (1, 1), (2, 1), (3, 1), (4, 1)]) [(rdV (.s 91695)), (rdV (.n .i64 0)), (rdV (.n .i64 9)), (rdV (.n .i64 0)), (rdV (.n .i64 5))]) fun v13 => (cLet (nL (buN [.s 1, .n .i64 0, .n .i64 0, .n .i64 0, .n .i64 0] [(.str []), (.int .i64 0), (.int .i64 0), (.int .i64 0), (.int .i64 0)] [(0, 1), (1, 1), (2, 1), (3, 1), (4, 1)]) [(rdV (.s 366787075049105858159914542)), (rdV (.n .i64 0)), (rdV (.n .i64 9)), (rdV (.n .i64 0)), (rdV (.n .i64 5))]) fun v14 => (cLet (nL (bsQ 63 5 12) [(rdV v1), (rdV v3), (rdV v4), (rdV v6), (rdV v7), (rdV v8), (rdV v9), (rdV v10), (rdV v11), (rdV v12), (rdV v13), (rdV v14)]) fun v15 => (cLet (o1 lvF (rdV v15)) fun v16 => (cWr X132 (.n .i64 0) (cSeq (cBlk 0 (cLoop 1000000 (cLet (o2 bLss R132 (rdV v16)) fun v17 => (cSeq (cCond (rdV v17) cSkip (cExit 0)) (cSeq (cBlk 1 (cLet (o2 (isF 5) (rdV v15) R132) fun v18 => (cLet (m1 (lnF 5) (rdV v18)) fun v19 => (cLet (n0 (.cells [.s 1, .n .i64 0, .n .i64 0, .n .i64 0, .n .i64 0] 63 .exact)) fun v20 => (cDo (n2 (stF 5) (rdV v20) (rdV v19)) (cLet (oV R7) fun v21 => (cLet (o1 (faF 0) (rdV v20)) fun v22 => (cLet (m1 ldF (rdV v22)) fun v23 => (cLet (oCallS 29 [(rdV v21), (rdV v23)]) fun v24 => (cLet (o1 (exG 0) (rdV v24)) fun v25 => (cLet (o1 (exG 1) (rdV v24)) fun v26 => (cLet (oV R7) fun v27 => (cLet (o1 (faF 0) (rdV v20)) fun v28 => (cLet (m1 ldF (rdV v28)) fun v29 => (cLet (oCallS 30 [(rdV v27), (rdV v29)]) fun v30 => (cLet (o1 (exG 0) (rdV v30)) fun v31 => (cLet (o1 (exG 1) (rdV v30)) fun v32 => (cLet (o1 (faF 3) (rdV v20)) fun v33 => (cLet (m1 ldF (rdV v33)) fun v34 => (cLet (o2 bNeq (rdV v26) (rdV v34)) fun v35 => (cLet (oG false (rdV v35) (oV (rdV v32))) fun v36 => (cLet (oG false (rdV v35) (o1 (faF 4) (rdV v20))) fun v37 => (cLet (oG false (rdV v35) (m1 ldF (rdV v37))) fun v38 => (cLet (oG false (rdV v35) (o2 bNeq (rdV v36) (rdV v38))) fun v39 => (cLet (o3 pkF (rdV v35) (rdV (.b true)) (rdV v39)) fun v40 => (cLet (oG false (rdV v40) (oV R7)) fun v41 => (cLet (oG false (rdV v40) (o1 (faF 0) (rdV v20))) fun v42 => (cLet (oG false (rdV v40) (m1 ldF (rdV v42))) fun v43 => (cLet (oG false (rdV v40) (o1 (faF 2) (rdV v20))) fun v44 => (cLet (oG false (rdV v40) (m1 ldF (rdV v44))) fun v45 => (cLet (oG false (rdV v40) (oCallS 21 [(rdV v41), (rdV v43)])) fun v46 => (cRck (oG false (rdV v40) (m1 ldF (rdV v44))) v45 (cLet (oG false (rdV v40) (o2 bNeq (rdV v46) (rdV v45))) fun v47 => (cLet (o3 pkF (rdV v40) (rdV (.b true)) (rdV v47)) fun v48 => (cLet (oG false (rdV v48) (oV R7)) fun v49 => (cLet (oG false (rdV v48) (o1 (faF 0) (rdV v20))) fun v50 => (cLet (oG false (rdV v48) (m1 ldF (rdV v50))) fun v51 => (cLet (oG false (rdV v48) (o1 (faF 1) (rdV v20))) fun v52 => (cLet (oG false (rdV v48) (m1 ldF (rdV v52))) fun v53 => (cLet (oG false (rdV v48) (oCallS 20 [(rdV v49), (rdV v51), (rdV (.s 78385)), (rdV (.b false))])) fun v54 => (cRck (oG false (rdV v48) (m1 ldF (rdV v52))) v53 (cLet (oG false (rdV v48) (o2 bNeq (rdV v54) (rdV v53))) fun v55 => (cLet (o3 pkF (rdV v48) (rdV (.b true)) (rdV v55)) fun v56 => (cSeq (cCond (rdV v56) (cWr X0 (.b false) cRet) cSkip) cSkip)))))))))))))))))))))))))))))))))))))))))))) (cLet (o2 bAdd R132 (rdV (.n .i64 1))) fun v57 => (cWr X132 v57 cSkip))))))) (cLet (oV R7) fun v58 => (cLet (oCallS 29 [(rdV v58), (rdV (.s 6026112558))]) fun v59 => (cLet (o1 (exG 0) (rdV v59)) fun v60 => (cLet (o1 (exG 1) (rdV v59)) fun v61 => (cWr X14 v60 (cLet (oV R7) fun v62 => (cLet (oCallS 30 [(rdV v62), (rdV (.s 303))]) fun v63 => (cLet (o1 (exG 0) (rdV v63)) fun v64 => (cLet (o1 (exG 1) (rdV v63)) fun v65 => (cWr X16 v64 (cLet (oV R7) fun v66 => (cLet (oCallS 30 [(rdV v66), (rdV (.s 77358))]) fun v67 => (cLet (o1 (exG 0) (rdV v67)) fun v68 => (cLet (o1 (exG 1) (rdV v67)) fun v69 => (cWr X18 v68 cSkip)))))))))))))))))))))))))))))))))
theorem z4_1_eq : thrK 1000000 375 (drOf 375 [0, 7, 14, 16, 18, 132]) (aT 3 c4_1) [] cS = z4_1 := by kernel_rfl
theorem t4_1 : runQ tQF bQF z4_1 l4_1 m4_1 8 (endK [R0, R7, R14, R16, R18] (m4_2.map fun p => rn o4_2 p.1)) kX = .ok (.tup (l4_2.map fun p => mapF (rn o4_2) p.2)) ⟨0, chT (m4_2.map fun p => mapFO (rn o4_2) p.2)⟩ := by kernel_rfl
end Go.Proofs.YtjgmpdklfcmelaaGreatDoor.V2
namespace Go.Proofs.YtjgmpdklfcmelaaGreatDoor.V2
open Go
set_option linter.unusedVariables false
open Go.RowKit
set_option maxRecDepth 100000
noncomputable def z4_2 : Cd := (cLet (oV R14) fun v1 => (cLet (o2 bNeq (rdV v1) (rdV (.s 78899))) fun v2 => (cLet (oG false (rdV v2) (oV R16)) fun v3 => (cLet (oG false (rdV v2) (nL (bsQ 9 1 2) [(rdV (.s 356)), (rdV (.s 358))])) fun v4 => (cLet (oG false (rdV v2) (oCallS 31 [(rdV v3), (rdV v4)])) fun v5 => (cLet (oG false (rdV v2) (o1 notF (rdV v5))) fun v6 => (cLet (o3 pkF (rdV v2) (rdV (.b true)) (rdV v6)) fun v7 => (cLet (oG false (rdV v7) (oV R18)) fun v8 => (cLet (oG false (rdV v7) (nL (bsQ 9 1 2) [(rdV (.s 357)), (rdV (.s 359))])) fun v9 => (cLet (oG false (rdV v7) (oCallS 31 [(rdV v8), (rdV v9)])) fun v10 => (cLet (oG false (rdV v7) (o1 notF (rdV v10))) fun v11 => (cLet (o3 pkF (rdV v7) (rdV (.b true)) (rdV v11)) fun v12 => (cLet (oG false (rdV v12) (oV R7)) fun v13 => (cLet (oG false (rdV v12) (oCallS 22 [(rdV v13), (rdV (.s 303))])) fun v14 => (cLet (oG false (rdV v12) (o2 bNeq (rdV v14) (rdV (.n .i64 1)))) fun v15 => (cLet (o3 pkF (rdV v12) (rdV (.b true)) (rdV v15)) fun v16 => (cLet (oG false (rdV v16) (oV R7)) fun v17 => (cLet (oG false (rdV v16) (oCallS 22 [(rdV v17), (rdV (.s 91183))])) fun v18 => (cLet (oG false (rdV v16) (o2 bNeq (rdV v18) (rdV (.n .i64 1)))) fun v19 => (cLet (o3 pkF (rdV v16) (rdV (.b true)) (rdV v19)) fun v20 => (cLet (oG false (rdV v20) (oV R7)) fun v21 => (cLet (oG false (rdV v20) (oCallS 22 [(rdV v21), (rdV (.s 302))])) fun v22 => (cLet (oG false (rdV v20) (o2 bNeq (rdV v22) (rdV (.n .i64 1)))) fun v23 => (cLet (o3 pkF (rdV v20) (rdV (.b true)) (rdV v23)) fun v24 => (cLet (oG false (rdV v24) (oV R7)) fun v25 => (cLet (oG false (rdV v24) (oCallS 22 [(rdV v25), (rdV (.s 376))])) fun v26 => (cLet (oG false (rdV v24) (o2 bNeq (rdV v26) (rdV (.n .i64 6)))) fun v27 => (cLet (o3 pkF (rdV v24) (rdV (.b true)) (rdV v27)) fun v28 => (cLet (oG false (rdV v28) (oV R7)) fun v29 => (cLet (oG false (rdV v28) (oCallS 23 [(rdV v29), (rdV (.s 303))])) fun v30 => (cLet (oG false (rdV v28) (o2 bNeq (rdV v30) (rdV (.n .i64 0)))) fun v31 => (cLet (o3 pkF (rdV v28) (rdV (.b true)) (rdV v31)) fun v32 => (cLet (oG false (rdV v32) (oV R7)) fun v33 => (cLet (oG false (rdV v32) (oCallS 22 [(rdV v33), (rdV (.s 356))])) fun v34 => (cLet (oG false (rdV v32) (o2 bNeq (rdV v34) (rdV (.n .i64 10)))) fun v35 => (cLet (o3 pkF (rdV v32) (rdV (.b true)) (rdV v35)) fun v36 => (cLet (oG false (rdV v36) (oV R7)) fun v37 => (cLet (oG false (rdV v36) (oCallS 22 [(rdV v37), (rdV (.s 23408484))])) fun v38 => (cLet (oG false (rdV v36) (o2 bNeq (rdV v38) (rdV (.n .i64 0)))) fun v39 => (cLet (o3 pkF (rdV v36) (rdV (.b true)) (rdV v39)) fun v40 => (cLet (oG false (rdV v40) (oV R7)) fun v41 => (cLet (oG false (rdV v40) (oCallS 22 [(rdV v41), (rdV (.s 23539556))])) fun v42 => (cLet (oG false (rdV v40) (o2 bNeq (rdV v42) (rdV (.n .i64 0)))) fun v43 => (cLet (o3 pkF (rdV v40) (rdV (.b true)) (rdV v43)) fun v44 => (cLet (oG false (rdV v44) (oV R7)) fun v45 => (cLet (oG false (rdV v44) (oCallS 22 [(rdV v45), (rdV (.s 77668))])) fun v46 => (cLet (oG false (rdV v44) (o2 bNeq (rdV v46) (rdV (.n .i64 0)))) fun v47 => (cLet (o3 pkF (rdV v44) (rdV (.b true)) (rdV v47)) fun v48 => (cSeq (cCond (rdV v48) (cWr X0 (.b false) cRet) cSkip) (cLet (oV R7) fun v49 => (cLet (oCallS 28 [(rdV (.s 376)), (rdV (.n .i64 8192))]) fun v50 => (cLet (oCallS 20 [(rdV v49), (rdV (.s 23554402)), (rdV v50), (rdV (.b false))]) fun v51 => (cLet (o2 bNeq (rdV v51) (rdV (.n .i64 0))) fun v52 => (cLet (oG false (rdV v52) (oV R7)) fun v53 => (cLet (oG false (rdV v52) (oCallS 20 [(rdV v53), (rdV (.s 23554402)), (rdV (.s 377)), (rdV (.b true))])) fun v54 => (cLet (oG false (rdV v52) (o2 bNeq (rdV v54) (rdV (.n .i64 3)))) fun v55 => (cLet (o3 pkF (rdV v52) (rdV (.b true)) (rdV v55)) fun v56 => (cLet (oG false (rdV v56) (oV R7)) fun v57 => (cLet (oG false (rdV v56) (oCallS 28 [(rdV (.s 376)), (rdV (.n .i64 8192))])) fun v58 => (cLet (oG false (rdV v56) (oCallS 20 [(rdV v57), (rdV (.s 91695)), (rdV v58), (rdV (.b false))])) fun v59 => (cLet (oG false (rdV v56) (o2 bNeq (rdV v59) (rdV (.n .i64 0)))) fun v60 => (cLet (o3 pkF (rdV v56) (rdV (.b true)) (rdV v60)) fun v61 => (cLet (oG false (rdV v61) (oV R7)) fun v62 => (cLet (oG false (rdV v61) (oCallS 28 [(rdV (.s 376)), (rdV (.n .i64 8192))])) fun v63 => (cLet (oG false (rdV v61) (oCallS 20 [(rdV v62), (rdV (.s 355)), (rdV v63), (rdV (.b false))])) fun v64 => (cLet (oG false (rdV v61) (o2 bNeq (rdV v64) (rdV (.n .i64 0)))) fun v65 => (cLet (o3 pkF (rdV v61) (rdV (.b true)) (rdV v65)) fun v66 => (cLet (oG false (rdV v66) (oV R7)) fun v67 => (cLet (oG false (rdV v66) (oCallS 28 [(rdV (.s 376)), (rdV (.n .i64 8192))])) fun v68 => (cLet (oG false (rdV v66) (oCallS 20 [(rdV v67), (rdV (.s 356)), (rdV v68), (rdV (.b false))])) fun v69 => (cLet (oG false (rdV v66) (o2 bNeq (rdV v69) (rdV (.n .i64 7)))) fun v70 => (cLet (o3 pkF (rdV v66) (rdV (.b true)) (rdV v70)) fun v71 => (cSeq (cCond (rdV v71) (cWr X0 (.b false) cRet) cSkip) (cLet (oCallS 27 []) fun v72 => (cWr X20 v72 cSkip)))))))))))))))))))))))))))))))))))))))))))))))))))))))))))))))))))))))))))
theorem z4_2_eq : thrK 1000000 375 (drOf 375 [0, 7, 14, 16, 18, 20]) (aT 2 c4_2) [] cS = z4_2 := by kernel_rfl
theorem t4_2 : runQ tQF bQF z4_2 l4_2 m4_2 10 (endK [R0, R20] (m4_3.map fun p => rn o4_3 p.1)) kX = .ok (.tup (l4_3.map fun p => mapF (rn o4_3) p.2)) ⟨0, chT (m4_3.map fun p => mapFO (rn o4_3) p.2)⟩ := by kernel_rfl
end Go.Proofs.YtjgmpdklfcmelaaGreatDoor.V2
namespace Go.Proofs.YtjgmpdklfcmelaaGreatDoor.V2
open Go
set_option linter.unusedVariables false
open Go.RowKit
set_option maxRecDepth 100000
noncomputable def z4_3 : Cd := (cWr X281 (.n .i64 0) (cSeq (cBlk 2 (cLoop 1000000 (cLet (o2 bLss R281 (rdV (.n .i64 128))) fun v1 => (cSeq (cCond (rdV v1) cSkip (cExit 2)) (cSeq (cBlk 3 (cLet (oV R281) fun v2 => (cLet (oV R20) fun v3 => (cLet (o2 bQuo (rdV v2) (rdV (.n .i64 26))) fun v4 => (cLet (o2 bAdd (rdV (.n .i64 97)) (rdV v4)) fun v5 => (cLet (o1 (cvF .u8) (rdV v5)) fun v6 => (cLet (o2 bRem (rdV v2) (rdV (.n .i64 26))) fun v7 => (cLet (o2 bAdd (rdV (.n .i64 97)) (rdV v7)) fun v8 => (cLet (o1 (cvF .u8) (rdV v8)) fun v9 => (cLet (nL (bsQ 5 1 2) [(rdV v6), (rdV v9)]) fun v10 => (cLet (m1 s2Q (rdV v10)) fun v11 => (cLet (o2 bAdd (rdV (.s 356)) (rdV v11)) fun v12 => (cLet (oCallS 21 [(rdV v3), (rdV v12)]) fun v13 => (cLet (o2 bNeq (rdV v13) (rdV (.n .i64 0))) fun v14 => (cSeq (cCond (rdV v14) (cWr X0 (.b false) cRet) cSkip) cSkip))))))))))))))) (cLet (o2 bAdd R281 (rdV (.n .i64 1))) fun v15 => (cWr X281 v15 cSkip))))))) (cLet (oCallS 27 []) fun v16 => (cWr X22 v16 (cWr X23 (.n .i64 0) cSkip)))))
theorem z4_3_eq : thrK 1000000 375 (drOf 375 [0, 20, 22, 23, 281]) (aT 2 c4_3) [] cS = z4_3 := by kernel_rfl
theorem t4_3 : runQ tQF bQF z4_3 l4_3 m4_3 8 (endK [R0, R20, R22, R23] (m4_4.map fun p => rn o4_4 p.1)) kX = .ok (.tup (l4_4.map fun p => mapF (rn o4_4) p.2)) ⟨0, chT (m4_4.map fun p => mapFO (rn o4_4) p.2)⟩ := by kernel_rfl
end Go.Proofs.YtjgmpdklfcmelaaGreatDoor.V2
namespace Go.Proofs.YtjgmpdklfcmelaaGreatDoor.V2
open Go
set_option linter.unusedVariables false
open Go.RowKit
set_option maxRecDepth 100000
noncomputable def z4_4 : Cd := (cWr X24 (.n .i64 0) (cSeq (cBlk 4 (cLoop 1000000 (cLet (oV R24) fun v1 => (cLet (o2 bLss (rdV v1) (rdV (.n .i64 9))) fun v2 => (cLet (oG true (rdV v2) (oV R23)) fun v3 => (cLet (oG true (rdV v2) (o2 bEql (rdV v3) (rdV (.n .i64 0)))) fun v4 => (cLet (o3 pkF (rdV v2) (rdV v4) (rdV (.b false))) fun v5 => (cSeq (cCond (rdV v5) cSkip (cExit 4)) (cSeq (cBlk 5 (cLet (oV R22) fun v6 => (cLet (oCallS 28 [(rdV (.s 366)), (rdV (.n .i64 31))]) fun v7 => (cLet (oCallS 21 [(rdV v6), (rdV v7)]) fun v8 => (cWr X23 v8 (cLet (o2 bEql (rdV v8) (rdV (.n .i64 0))) fun v9 => (cLet (oG true (rdV v9) (oV R22)) fun v10 => (cLet (oG true (rdV v9) (oCallS 28 [(rdV (.s 366)), (rdV (.n .i64 31))])) fun v11 => (cLet (oG true (rdV v9) (oCallS 23 [(rdV v10), (rdV v11)])) fun v12 => (cLet (oG true (rdV v9) (o2 bNeq (rdV v12) (rdV (.n .i64 0)))) fun v13 => (cLet (o3 pkF (rdV v9) (rdV v13) (rdV (.b false))) fun v14 => (cSeq (cCond (rdV v14) (cWr X0 (.b false) cRet) cSkip) cSkip)))))))))))) (cLet (oV R24) fun v15 => (cLet (o2 bAdd (rdV v15) (rdV (.n .i64 1))) fun v16 => (cWr X24 v16 cSkip)))))))))))) (cLet (oCallS 32 [(rdV (.o .sl))]) fun v17 => (cLet (o1 (exG 0) (rdV v17)) fun v18 => (cLet (o1 (exG 1) (rdV v17)) fun v19 => (cLet (nL (bsQ 5 1 5) [(rdV (.n .u8 0)), (rdV (.n .u8 1)), (rdV (.n .u8 47)), (rdV (.n .u8 0)), (rdV (.n .u8 0))]) fun v20 => (cLet (oCallS 32 [(rdV v20)]) fun v21 => (cLet (o1 (exG 0) (rdV v21)) fun v22 => (cLet (o1 (exG 1) (rdV v21)) fun v23 => (cLet (nL (bsQ 5 1 6) [(rdV (.n .u8 0)), (rdV (.n .u8 1)), (rdV (.n .u8 47)), (rdV (.n .u8 0)), (rdV (.n .u8 0)), (rdV (.n .u8 0))]) fun v24 => (cLet (oCallS 32 [(rdV v24)]) fun v25 => (cLet (o1 (exG 0) (rdV v25)) fun v26 => (cLet (o1 (exG 1) (rdV v25)) fun v27 => (cLet (nL (bsQ 5 1 5) [(rdV (.n .u8 0)), (rdV (.n .u8 1)), (rdV (.n .u8 120)), (rdV (.n .u8 0)), (rdV (.n .u8 0))]) fun v28 => (cLet (oCallS 32 [(rdV v28)]) fun v29 => (cLet (o1 (exG 0) (rdV v29)) fun v30 => (cLet (o1 (exG 1) (rdV v29)) fun v31 => (cLet (oV R20) fun v32 => (cLet (oCallS 21 [(rdV v32), (rdV (.s 5996965741))]) fun v33 => (cLet (o2 bEql (rdV v33) (rdV (.n .i64 7))) fun v34 => (cLet (oG true (rdV v34) (oV R20)) fun v35 => (cLet (oG true (rdV v34) (oCallS 20 [(rdV v35), (rdV (.s 5996965741)), (rdV (.s 1)), (rdV (.b false))])) fun v36 => (cLet (oG true (rdV v34) (o2 bEql (rdV v36) (rdV (.n .i64 7)))) fun v37 => (cLet (o3 pkF (rdV v34) (rdV v37) (rdV (.b false))) fun v38 => (cLet (oG true (rdV v38) (oV R23)) fun v39 => (cLet (oG true (rdV v38) (o2 bEql (rdV v39) (rdV (.n .i64 3)))) fun v40 => (cLet (o3 pkF (rdV v38) (rdV v40) (rdV (.b false))) fun v41 => (cLet (oG true (rdV v41) (oV R22)) fun v42 => (cLet (oG true (rdV v41) (oCallS 24 [(rdV v42)])) fun v43 => (cLet (oG true (rdV v41) (o1 lsF (rdV v43))) fun v44 => (cLet (oG true (rdV v41) (o2 bEql (rdV v44) (rdV (.n .i64 256)))) fun v45 => (cLet (o3 pkF (rdV v41) (rdV v45) (rdV (.b false))) fun v46 => (cLet (oG true (rdV v46) (oV (rdV v19))) fun v47 => (cLet (oG true (rdV v46) (o2 bEql (rdV v47) (rdV (.n .i64 4)))) fun v48 => (cLet (o3 pkF (rdV v46) (rdV v48) (rdV (.b false))) fun v49 => (cLet (oG true (rdV v49) (oV (rdV v23))) fun v50 => (cLet (oG true (rdV v49) (o2 bEql (rdV v50) (rdV (.n .i64 0)))) fun v51 => (cLet (o3 pkF (rdV v49) (rdV v51) (rdV (.b false))) fun v52 => (cLet (oG true (rdV v52) (oV (rdV v27))) fun v53 => (cLet (oG true (rdV v52) (o2 bEql (rdV v53) (rdV (.n .i64 5)))) fun v54 => (cLet (o3 pkF (rdV v52) (rdV v54) (rdV (.b false))) fun v55 => (cLet (oG true (rdV v55) (oV (rdV v31))) fun v56 => (cLet (oG true (rdV v55) (o2 bEql (rdV v56) (rdV (.n .i64 5)))) fun v57 => (cLet (o3 pkF (rdV v55) (rdV v57) (rdV (.b false))) fun v58 => (cLet (oG true (rdV v58) (oCallS 33 [])) fun v59 => (cLet (o3 pkF (rdV v58) (rdV v59) (rdV (.b false))) fun v60 => (cWr X0 v60 cRet)))))))))))))))))))))))))))))))))))))))))))))))
theorem z4_4_eq : thrK 1000000 375 (drOf 375 [0, 20, 22, 23, 24]) c4_4 [] cS = z4_4 := by kernel_rfl
theorem t4_4 : runQ tQF bQF z4_4 l4_4 m4_4 10 kX (fun e σ => rsQ [vT R0] e σ fun vs => .ok (.tup vs) ⟨0, .leaf⟩) = .ok (.tup [.b true]) ⟨0, .leaf⟩ := by kernel_rfl
end Go.Proofs.YtjgmpdklfcmelaaGreatDoor.V2
namespace Go.Proofs.YtjgmpdklfcmelaaGreatDoor.V2
open Go
set_option linter.unusedVariables false
open Go.RowKit
def rSh : Ren := rL [some (0, (0, 0)), some (1, (0, 0)), some (2, (0, 0)), some (3, (0, 0)), some (4, (0, 0)), some (5, (0, 0))]
def memSh : List AObj := [AObj.shut, AObj.shut, AObj.shut, AObj.shut, AObj.shut, AObj.shut]
theorem rSh_glob : ∀ g, g < 6 → ∃ s, rSh g = some (g, (0, s)) := fun g hg => by
  match g, hg with
  | 0, _ => exact ⟨0, rfl⟩
  | 1, _ => exact ⟨0, rfl⟩
  | 2, _ => exact ⟨0, rfl⟩
  | 3, _ => exact ⟨0, rfl⟩
  | 4, _ => exact ⟨0, rfl⟩
  | 5, _ => exact ⟨0, rfl⟩
  | n + 6, h => exact absurd h (by omega)
theorem memSh_sh : ∀ o ∈ memSh, o.isSh = true := fun o ho => by
  simp only [memSh, List.mem_cons, List.not_mem_nil, or_false] at ho
  rcases ho with h | h | h | h | h | h <;> (subst h; rfl)
theorem memSh_ro : ∀ o ∈ memSh, o.isRo = true := fun o ho => AObj.isSh_ro (memSh_sh o ho)
def shT : T AObj := .node (some .shut) (.node (some .shut) (.node (some .shut) .leaf .leaf) (.node (some .shut) .leaf .leaf)) (.node (some .shut) (.node (some .shut) .leaf .leaf) .leaf)
theorem hrSh {w : World} (h : 6 ≤ w.heap.size) : HR rSh (hL memSh) w := by
  refine hr_ro (by show 6 ≤ _; omega) rfl memSh_sh fun b c d o hb ho => ?_
  match b with
  | 0 => cases hb; cases ho; exact ⟨by omega, OR.shut (Nat.zero_le _)⟩
  | 1 => cases hb; cases ho; exact ⟨by omega, OR.shut (Nat.zero_le _)⟩
  | 2 => cases hb; cases ho; exact ⟨by omega, OR.shut (Nat.zero_le _)⟩
  | 3 => cases hb; cases ho; exact ⟨by omega, OR.shut (Nat.zero_le _)⟩
  | 4 => cases hb; cases ho; exact ⟨by omega, OR.shut (Nat.zero_le _)⟩
  | 5 => cases hb; cases ho; exact ⟨by omega, OR.shut (Nat.zero_le _)⟩
  | n + 6 => cases hb
theorem filesKnown (w : World) (hG : 6 ≤ w.heap.size) : Calls Tryz.prog 4 #[] w fun e w' => e = .returned (.bool true) ∧ Below w.heap.size w w' := by
  have hr0 := hrSh hG
  refine (calls_of_aq (G := 6) (σ := hL memSh) (ρ := rSh) (xs := [.tmp 0]) (vs := []) (K := fun av _ => av = .bool true) Tryz.func4 body4 (Prod.mk.inj comp4).2 ?_).mono fun e W' ⟨v, av, σ', ρ', e1, e2, e3, e4, e5⟩ => ?_
  rotate_left
  · subst e1 e2
    unfold VR at e5
    exact ⟨by rw [e5], Below.ofStp (by show 6 ≤ _; omega) hr0 memSh_ro e4⟩
  have st : Start [] 6 w.heap.size rSh (hL memSh) w := ⟨Nat.le_refl _, (fun y hy => absurd hy List.not_mem_nil), (fun y hy => absurd hy List.not_mem_nil), hr0⟩
  have h1 : (⟨6, ofM (αm m4_0)⟩ : AH) = ⟨6, shT⟩ := by kernel_rfl
  have h2 : hL memSh = ⟨6, shT⟩ := by kernel_rfl
  have h0 : (⟨6, ofM (αm m4_0)⟩ : AH) = hL memSh := h1.trans h2.symm
  have main : Good Tryz.prog 6 Tryz.f4.ntmps 6 w.heap.size rSh (hL memSh) w (AQ 6 Tryz.f4.ntmps 6 w.heap.size rSh (hL memSh) w (fun e env σ' => (match e with | .normal => True | .ret => True | _ => False) ∧ (resL std env σ' [.tmp 0]).1 = true ∧ retV (resL std env σ' [.tmp 0]).2 = .bool true)) (ofL (αl l4_0)) ⟨6, ofM (αm m4_0)⟩ (Tryz.f4.body.getD .skip) :=
    Good.pieceQ st mixed gamF_ok hpu0' tQF_ok bQF_ok (m := 7) (c' := c4_0) f4_0 (Prod.mk.inj comp4).1 z4_0_eq u4_0_lt (by kernel_rfl) t4_0 n4_1_ok d4_1_ok w4_1_ok fun hc1 =>
    Good.pieceQ st mixed gamF_ok hpu0' tQF_ok bQF_ok (m := 3) (c' := c4_1) f4_1 hc1 z4_1_eq u4_1_lt (by kernel_rfl) t4_1 n4_2_ok d4_2_ok w4_2_ok fun hc2 =>
    Good.pieceQ st mixed gamF_ok hpu0' tQF_ok bQF_ok (m := 2) (c' := c4_2) f4_2 hc2 z4_2_eq u4_2_lt (by kernel_rfl) t4_2 n4_3_ok d4_3_ok w4_3_ok fun hc3 =>
    Good.pieceQ st mixed gamF_ok hpu0' tQF_ok bQF_ok (m := 2) (c' := c4_3) f4_3 hc3 z4_3_eq u4_3_lt (by kernel_rfl) t4_3 n4_4_ok d4_4_ok w4_4_ok fun hc4 =>
    Good.endQ (c' := c4_4) (xs := [.tmp 0]) st mixed gamF_ok hpu0' tQF_ok bQF_ok hc4 z4_4_eq u4_4_lt (by kernel_rfl) t4_4 (fun env σ h2 => by rw [h2]; exact ⟨trivial, rfl, rfl⟩)
  refine main rSh w _ (by rw [h0]; exact hr0) ⟨by decide +kernel, by simp, rSh_glob, fun t v ht => by cases ht⟩ (by rw [h0]; exact Stp.refl (Nat.le_refl _)) ⟨trivial, fun r hr => by cases hr⟩
end Go.Proofs.YtjgmpdklfcmelaaGreatDoor.V2
namespace Go.Proofs.YtjgmpdklfcmelaaGreatDoor
open Go.ChangeShapes Go.WideShapes Go.ChangeAt Go.RowKit
section
variable {H : Type} {enc : TypeId × Value → H} {P : Program}
theorem trodAll_stays (hl : laidOutB P = true) {W W' : World} {sp' : Nat → Bool} : ∀ {ts : List TypeId} {vs : List Value} {ds : List (DataW H)} {ps : List MemPlace}, (∀ t ∈ ts, P.readableRec t = true ∧ t < P.types.size) →
    DataW.TrodAll enc P W 0 (fun _ => true) true ts vs ds ps → (∀ p ∈ ps, W.sameAt W' p) → (∀ p ∈ ps, sp' p.block = true) → DataW.TrodAll enc P W' 0 sp' true ts vs ds ps
  | [], _, _, _, _, h, _, _ => by
    obtain ⟨rfl, rfl, rfl⟩ := trodAll_nil h
    exact trodAll_mk0
  | t :: ts, _, _, _, ht, h, h1, h2 => by
    obtain ⟨v, vs1, d, ds1, a, b, rfl, rfl, rfl, ha, hb⟩ := trodAll_cons h
    exact trodAll_cons_mk (WideElems.Trod_stays hl (ht t (by simp)).1 (ht t (by simp)).2 ha (fun p hp => h1 p (by simp [hp])) (fun p hp => h2 p (by simp [hp])))
      (trodAll_stays hl (fun t' h' => ht t' (by simp [h'])) hb (fun p hp => h1 p (by simp [hp])) (fun p hp => h2 p (by simp [hp])))
theorem post_of_below {f : Func} {s : ChangeSpec} {apart fresh handsOn again : Bool} {W W' : World} {args : Array Value} {v : Value} {ds gs : List (DataW H)} {before : List MemPlace}
    (hW : DataW.Whole enc P f.params.toList s.vars apart W args.toList ds gs before) (hl : laidOutB P = true) (hsv : s.vars = []) (hts : ∀ t ∈ f.params.toList, P.readableRec t = true ∧ t < P.types.size)
    (hb : Below W.heap.size W W') (ha : (s.fn H (ds ++ gs)).args = ds) (hgv : (s.fn H (ds ++ gs)).vars = [])
    (hres : ∀ (b : Nat) (sp : Nat → Bool) (hd : Bool), DataW.TrodAll enc P W' b sp hd f.resultTypes.toList (v.resultList f.resultTypes.size) (s.fn H (ds ++ gs)).results [])
    (hok : ∀ (j : Nat) (t : TypeId) (r : Value), f.resultTypes[j]? = some t → (v.resultList f.resultTypes.size)[j]? = some r → Value.okWide P W' .any 0 t r) :
    s.post enc P f apart fresh handsOn again W args v W' := by
  have hlt := hW.lt
  have hW0 := hW
  obtain ⟨p, q, hA0, hV, rfl, hz, hn⟩ := hW
  have hA : DataW.TrodAll enc P W 0 (fun _ => true) true f.params.toList args.toList ds p := hA0
  rw [hsv] at hV
  obtain ⟨rfl, rfl⟩ := trodVars_none hV
  rw [List.append_nil] at hlt hz hn
  have hs : ∀ x ∈ p, W.sameAt W' x := fun x hx => hb.same (hlt x hx)
  have hargs : ∀ sp : Nat → Bool, (∀ x ∈ p, sp x.block = true) → DataW.TrodAll enc P W' 0 sp true f.params.toList args.toList (s.fn H (ds ++ [])).args p := fun sp hsp => by
    rw [ha]; exact trodAll_stays hl hts hA hs hsp
  have hvars : ∀ sp : Nat → Bool, DataW.TrodVars enc P W' sp s.vars (s.fn H (ds ++ [])).vars [] := fun sp => by rw [hgv, hsv]; rfl
  have hold : ∀ x ∈ p, (fun b => decide (b < W.heap.size)) x.block = true := fun x hx => by simpa using hlt x hx
  refine ⟨ds, [], p ++ [], [], p, [], hW0, hres _ _ _, hargs _ hold, hvars _, ?_, fun _ => ?_⟩
  · exact hb.frame _
  · refine ⟨hok, _, _, ([] ++ p) ++ [], ⟨[] ++ p, [], trodAll_append (hargs _ (fun _ _ => rfl)) (hres _ _ _), hvars _, rfl, ?_, ?_⟩, ?_⟩
    · intro b off hp
      simp only [List.nil_append, List.append_nil] at hp
      rw [hb.frozen (hlt _ hp)]
      exact hz b off hp
    · intro h'
      simpa using hn h'
    · intro x hx _
      simpa using hx
end
theorem laidOut : laidOutB Tryz.prog = true := by kernel_rfl
theorem own : ownKnob Tryz.prog.godebug = none := by kernel_rfl
theorem gAcc : Tryz.prog.globalNamed "unicode/utf8.acceptRanges" = some 7 := by kernel_rfl
theorem size_of {W : World} {d : DataW Unit} {rest : List (String × DataW Unit)} (h : laidMet Tryz.prog (("unicode/utf8.acceptRanges", d) :: rest) W) : 6 ≤ W.heap.size := by
  obtain ⟨ps, ⟨g, t, cs, fuel, p, q, hg, _, hv, _⟩, _⟩ := h
  obtain rfl := Option.some.inj (gAcc.symm.trans hg)
  unfold World.var? at hv
  rw [gAcc, Option.bind_some] at hv
  split at hv
  · rename_i hh; have := (Array.getElem?_eq_some_iff.1 hh).1; omega
  · cases hv
mutual
def cellsD : DataW Unit → List Value
  | .lit (.int k n) => [.int k n]
  | .agg l => cellsDs l
  | _ => []
def cellsDs : List (DataW Unit) → List Value
  | [] => []
  | d :: l => cellsD d ++ cellsDs l
end
end Go.Proofs.YtjgmpdklfcmelaaGreatDoor
