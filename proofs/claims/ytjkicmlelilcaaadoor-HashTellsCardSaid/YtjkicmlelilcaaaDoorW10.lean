/- The walk over the law's 'tells'. -/
import Derived.Test.YtjkicmlelilcaaaDoorKn
import Derived.Lib.SlBytesConst
namespace Go.Proofs.YtjkicmlelilcaaaDoor
open Go.RowKit

theorem fold_push : ∀ (bs : List UInt8) (s : ByteArray), (bs.map N8).foldl (fun r n => r.push (UInt8.ofNat n.toNat)) s = ⟨s.data ++ bs.toArray⟩
  | [], s => by simp
  | c :: bs, s => by
    rw [List.map_cons, List.foldl_cons, fold_push bs]
    have : UInt8.ofNat (N8 c).toNat = c := by unfold N8; simp
    rw [this]
    congr 1
    apply Array.ext'
    simp [ByteArray.push]
/-- A slice of bytes as a string. -/
theorem conv_str {w : World} {v : Value} {bs : List UInt8} (h : BSl w v bs) : (convert 22 9 v).run Tryd.prog w = .ok (.string ⟨bs.toArray⟩) w := by
  rcases h with ⟨rfl, rfl⟩ | ⟨b, off, c, rfl, _, _, hcell⟩ | ⟨a, rfl, rfl⟩
  rotate_right
  · rw [run_convert_bytes_string w 22 9 5 _ _ 0 Tryd.underlying22 Tryd.underlying5 Tryd.underlying9]
    have hl : (loadCells a (c8l []).length).run Tryd.prog w = .ok (c8l []).toArray w := run_loadCells_list (P := Tryd.prog) w a (c8l []) (fun j u hu => by simp [c8l] at hu)
    exact run_bytesToString w a 0 0 [] hl
  · rw [run_convert_bytes_string w 22 9 5 none 0 0 Tryd.underlying22 Tryd.underlying5 Tryd.underlying9]
    rfl
  · rw [run_convert_bytes_string w 22 9 5 _ _ c Tryd.underlying22 Tryd.underlying5 Tryd.underlying9]
    have hl : (loadCells ⟨b, off, none⟩ (c8l bs).length).run Tryd.prog w = .ok (c8l bs).toArray w := run_loadCells_list (P := Tryd.prog) w ⟨b, off, none⟩ (c8l bs) (news_of hcell)
    rw [c8l_length] at hl
    have e : (c8l bs) = (bs.map N8).map (Value.int .u8) := by simp [c8l]
    rw [e] at hl
    rw [run_bytesToString w ⟨b, off, none⟩ bs.length c (bs.map N8) hl, fold_push]
    have : (ByteArray.empty.data ++ bs.toArray) = bs.toArray := by apply Array.ext'; simp
    rw [this]

theorem BSl.lit {w : World} {bs : List UInt8} {n c : Nat} {fr : Nat × Nat} (hn : n = bs.length) (hc : n ≤ c) : BSl (w.alloc (.cells (c8 bs) 5 fr)) (.slice (some ⟨w.heap.size, 0, none⟩) n c) bs := by
  subst hn
  refine .inr (.inl ⟨w.heap.size, 0, c, rfl, hc, by simp, fun j hj => ?_⟩)
  rw [Nat.zero_add, World.cell?_alloc_mark]
  exact c8_at bs j hj

/-- A hash laid into a variable that has just been made. -/
theorem wpList_store_new {w : World} {ops : Array Oper} {rest : List Oper} {o : Oper} {a : Act} {Q : Exit → Act → World → Prop} (hgd : o.guard = none) (x y : Operand) (ho : o.op = .store 24 x y) (l : List UInt8) (hl : l.length = 32)
    (hx : a.eval x = .pointer (some ⟨w.heap.size, 0, none⟩)) (hy : a.eval y = .agg (c8 l))
    (h : ∀ w', Below w.heap.size w w' → Hid (w'.heap[w.heap.size]? = some (.cells (c8 l) 24 (0, 0))) → Hid (w'.heap.size = w.heap.size + 1) → wpList Tryd.prog ops Q rest (a.put o.dst undef) w') :
    wpList Tryd.prog ops Q (o :: rest) a (w.alloc (.cells #[.int .u8 0, .int .u8 0, .int .u8 0, .int .u8 0, .int .u8 0, .int .u8 0, .int .u8 0, .int .u8 0, .int .u8 0, .int .u8 0, .int .u8 0, .int .u8 0, .int .u8 0, .int .u8 0, .int .u8 0, .int .u8 0, .int .u8 0, .int .u8 0, .int .u8 0, .int .u8 0, .int .u8 0, .int .u8 0, .int .u8 0, .int .u8 0, .int .u8 0, .int .u8 0, .int .u8 0, .int .u8 0, .int .u8 0, .int .u8 0, .int .u8 0, .int .u8 0] 24)) := by
  refine wpList_store_row hgd 24 x y ho w.heap.size (c8 l) hx hy 24 _ (row_new8 w) (by rw [c8_size, hl]; exact info24) (by rw [c8_size, c8_size, hl]; rfl) (c8_one _) ?_
  exact h _ (below_setRow (alloc_below w) (Nat.le_refl _) _) (setRow_heap _ _ _ _ _ _ (row_new8 w)) (by show _ = _; simp)

theorem str_at {w : World} {b T : Nat} {l : List UInt8} (h : w.heap[b]? = some (.cells (c8 l) T (0, 0))) (off n c : Nat) (hn : off + n ≤ l.length) (hc : n ≤ c := by decide) :
    (convert 22 9 (.slice (some ⟨b, off, none⟩) n c)).run Tryd.prog w = .ok (.string ⟨((l.drop off).take n).toArray⟩) w := by
  refine conv_str (.inr (.inl ⟨b, off, c, ?_, ?_, (Array.getElem?_eq_some_iff.1 h).1, fun j hj => ?_⟩))
  · simp; omega
  · simp; omega
  · have hj' : j < n := by simp at hj; omega
    rw [row8_cell h (off + j) (by omega)]
    unfold at8
    rw [List.getD_eq_getElem?_getD, List.getD_eq_getElem?_getD, List.getElem?_take, if_pos hj', List.getElem?_drop]
theorem kc0 (w : World) (C : Array Value) (n c : Nat) : (convert 22 22 (.slice (some ⟨w.heap.size, 0, none⟩) n c)).run Tryd.prog (w.alloc (.cells C 5)) = .ok (.slice (some ⟨w.heap.size, 0, none⟩) n c) (w.alloc (.cells C 5 (C.size, C.size + 1))) :=
  Lib.run_convert_bytes_const (P := Tryd.prog) w 22 5 C n c Tryd.underlying22 Tryd.underlying5
theorem kc1 (w : World) (o1 : Obj) (C : Array Value) (n c : Nat) : (convert 22 22 (.slice (some ⟨w.heap.size + 1, 0, none⟩) n c)).run Tryd.prog ((w.alloc o1).alloc (.cells C 5)) = .ok (.slice (some ⟨w.heap.size + 1, 0, none⟩) n c) ((w.alloc o1).alloc (.cells C 5 (C.size, C.size + 1))) := by
  have h := kc0 (w.alloc o1) C n c
  rwa [World.size_alloc] at h
theorem kc2 (w : World) (o1 o2 : Obj) (C : Array Value) (n c : Nat) : (convert 22 22 (.slice (some ⟨w.heap.size + 2, 0, none⟩) n c)).run Tryd.prog (((w.alloc o1).alloc o2).alloc (.cells C 5)) = .ok (.slice (some ⟨w.heap.size + 2, 0, none⟩) n c) (((w.alloc o1).alloc o2).alloc (.cells C 5 (C.size, C.size + 1))) := by
  have h := kc1 (w.alloc o1) o2 C n c
  rwa [World.size_alloc] at h

theorem jefe_w (w : World) : ∃ W, W = (((w.alloc (.cells #[.int .u8 74, .int .u8 101, .int .u8 102, .int .u8 101] 5 (4, 5))).alloc (.cells #[.int .u8 119, .int .u8 104, .int .u8 97, .int .u8 116, .int .u8 32, .int .u8 100, .int .u8 111, .int .u8 32, .int .u8 121, .int .u8 97, .int .u8 32, .int .u8 119, .int .u8 97, .int .u8 110, .int .u8 116, .int .u8 32] 5 (16, 17))).alloc (.cells #[.int .u8 102, .int .u8 111, .int .u8 114, .int .u8 32, .int .u8 110, .int .u8 111, .int .u8 116, .int .u8 104, .int .u8 105, .int .u8 110, .int .u8 103, .int .u8 63] 5 (12, 13))).alloc (.cells #[.slice (some ⟨w.heap.size + 1, 0, none⟩) 16 16, .slice (some ⟨w.heap.size + 2, 0, none⟩) 12 12] 22) ∧ Below w.heap.size w W ∧ BSl W (.slice (some ⟨w.heap.size, 0, none⟩) 4 4) jefe ∧
    PSl W (.slice (some ⟨w.heap.size + 1 + 1 + 1, 0, none⟩) 2 2) [.slice (some ⟨w.heap.size + 1, 0, none⟩) 16 16, .slice (some ⟨w.heap.size + 2, 0, none⟩) 12 12] [whatA, whatB] := by
  refine ⟨_, rfl, (((alloc_below w).alloc (by simp) _).alloc (by simp; omega) _).alloc (by simp; omega) _, ?_, ?_⟩
  · have h0 : BSl (w.alloc (.cells #[.int .u8 74, .int .u8 101, .int .u8 102, .int .u8 101] 5 (4, 5))) (.slice (some ⟨w.heap.size, 0, none⟩) 4 4) jefe := BSl.lit (w := w) (bs := jefe) rfl (Nat.le_refl _)
    exact ((h0.below (alloc_below _) (Nat.le_refl _)).below (alloc_below _) (Nat.le_refl _)).below (alloc_below _) (Nat.le_refl _)
  · have h1 : BSl ((w.alloc (.cells #[.int .u8 74, .int .u8 101, .int .u8 102, .int .u8 101] 5 (4, 5))).alloc (.cells #[.int .u8 119, .int .u8 104, .int .u8 97, .int .u8 116, .int .u8 32, .int .u8 100, .int .u8 111, .int .u8 32, .int .u8 121, .int .u8 97, .int .u8 32, .int .u8 119, .int .u8 97, .int .u8 110, .int .u8 116, .int .u8 32] 5 (16, 17))) (.slice (some ⟨(w.alloc (.cells #[.int .u8 74, .int .u8 101, .int .u8 102, .int .u8 101] 5 (4, 5))).heap.size, 0, none⟩) 16 16) whatA := BSl.lit (bs := whatA) rfl (Nat.le_refl _)
    have h2 : BSl (((w.alloc (.cells #[.int .u8 74, .int .u8 101, .int .u8 102, .int .u8 101] 5 (4, 5))).alloc (.cells #[.int .u8 119, .int .u8 104, .int .u8 97, .int .u8 116, .int .u8 32, .int .u8 100, .int .u8 111, .int .u8 32, .int .u8 121, .int .u8 97, .int .u8 32, .int .u8 119, .int .u8 97, .int .u8 110, .int .u8 116, .int .u8 32] 5 (16, 17))).alloc (.cells #[.int .u8 102, .int .u8 111, .int .u8 114, .int .u8 32, .int .u8 110, .int .u8 111, .int .u8 116, .int .u8 104, .int .u8 105, .int .u8 110, .int .u8 103, .int .u8 63] 5 (12, 13))) (.slice (some ⟨((w.alloc (.cells #[.int .u8 74, .int .u8 101, .int .u8 102, .int .u8 101] 5 (4, 5))).alloc (.cells #[.int .u8 119, .int .u8 104, .int .u8 97, .int .u8 116, .int .u8 32, .int .u8 100, .int .u8 111, .int .u8 32, .int .u8 121, .int .u8 97, .int .u8 32, .int .u8 119, .int .u8 97, .int .u8 110, .int .u8 116, .int .u8 32] 5 (16, 17))).heap.size, 0, none⟩) 12 12) whatB := BSl.lit (bs := whatB) rfl (Nat.le_refl _)
    have h := two_psl (h1.below (alloc_below _) (Nat.le_refl _)) h2
    simp only [World.size_alloc] at h
    exact h

attribute [local irreducible] chg shaB hmB
set_option maxRecDepth 100000 in
set_option maxHeartbeats 1000000 in
theorem tells_any (w : World) (hK : GlobK w) (hS : GlobS w) (h3 : 3 < w.heap.size) : Calls Tryd.prog 16 #[] w fun e w' => e = .returned (.bool true) ∧ Below w.heap.size w w' := by
  have HK : Hid (GlobK w) := hK
  have HS : Hid (GlobS w) := hS
  clear hK hS
  have k0 := kc0
  have k1 := kc1
  have k2 := kc2
  go_enter Tryd.func16, Tryd.ntmps16
  go_wp2_with fail
  have hp1 : PSl ((w.alloc (.cells #[.int .u8 97, .int .u8 98, .int .u8 99] 5 (3, 4))).alloc (.cells #[.slice (some ⟨w.heap.size, 0, none⟩) 3 3] 22)) (.slice (some ⟨w.heap.size + 1, 0, none⟩) 1 1) [.slice (some ⟨w.heap.size, 0, none⟩) 3 3] [[97, 98, 99]] := by
    have h := one_psl (BSl.lit (w := w) (bs := [97, 98, 99]) (n := 3) (c := 3) (fr := (3, 4)) rfl (Nat.le_refl _))
    rw [World.size_alloc] at h
    exact h
  have hb1 : Below w.heap.size w ((w.alloc (.cells #[.int .u8 97, .int .u8 98, .int .u8 99] 5 (3, 4))).alloc (.cells #[.slice (some ⟨w.heap.size, 0, none⟩) 3 3] 22)) := (alloc_below w).alloc (by simp) _
  refine (sha_any _ _ _ _ hp1 (by simp) (by simp) (HK.out.below hb1 h3) (HS.out.below hb1 h3) (mid_lt h3 hb1)).mono ?_
  rintro e w2 ⟨rfl, hb2⟩
  have hbw2 : Below w.heap.size w w2 := hb1.trans (hb2.mono (by simp; omega))
  rw [show ([[97, 98, 99]] : List (List UInt8)).flatten = [97, 98, 99] from rfl, sha_abc]
  obtain ⟨A, hA⟩ : ∃ A : List UInt8, A = [186, 120, 22, 191, 143, 1, 207, 234, 65, 65, 64, 222, 93, 174, 34, 35, 176, 3, 97, 163, 150, 23, 122, 156, 180, 16, 255, 97, 242, 0, 21, 173] := ⟨_, rfl⟩
  rw [← hA]
  have HA := Lib.hid hA
  clear hA hp1 hb1 hb2
  have HAL : Hid (A.length = 32) := by rw [HA.out]; rfl
  go_wp2_with (refine wpList_store_new (o := { dst := none, op := .store 24 (.tmp 1) (.tmp 6), type := _, pos := _, after := _, guard := none }) rfl (.tmp 1) (.tmp 6) rfl A HAL.out rfl rfl ?_; intro w3 hb3 HG3 HZ3)
  obtain ⟨W, hW, hbW, hJ, hPJ⟩ := jefe_w w3
  rw [← hW]
  clear hW k0 k1 k2
  have hbw3 : Below w.heap.size w w3 := hbw2.trans (hb3.mono hbw2.size)
  have hbwW : Below w.heap.size w W := hbw3.trans (hbW.mono hbw3.size)
  refine (hmac_any _ _ jefe _ [whatA, whatB] W hJ (by decide) hPJ (by simp) (by decide) (HK.out.below hbwW h3) (HS.out.below hbwW h3) (mid_lt h3 hbwW)).mono ?_
  rintro e w4 ⟨rfl, hb4⟩
  have hbw4 : Below w.heap.size w w4 := hbwW.trans (hb4.mono hbwW.size)
  rw [show ([whatA, whatB] : List (List UInt8)).flatten = whatA ++ whatB from rfl, hm_jefe]
  obtain ⟨Bh, hBh⟩ : ∃ Bh : List UInt8, Bh = [0x5b, 0xdc, 0xc1, 0x46, 0xbf, 0x60, 0x75, 0x4e, 0x6a, 0x04, 0x24, 0x26, 0x08, 0x95, 0x75, 0xc7, 0x5a, 0x00, 0x3f, 0x08, 0x9d, 0x27, 0x39, 0x83, 0x9d, 0xec, 0x58, 0xb9, 0x64, 0xec, 0x38, 0x43] := ⟨_, rfl⟩
  rw [← hBh]
  have HB := Lib.hid hBh
  clear hBh
  have HBL : Hid (Bh.length = 32) := by rw [HB.out]; rfl
  have HG4 : Hid (w4.heap[w2.heap.size]? = some (.cells (c8 A) 24 (0, 0))) := by
    show _ = _
    rw [hb4.block _ (by have := HZ3.out; have := hbW.size; omega), hbW.block _ (by have := HZ3.out; omega)]
    exact HG3.out
  have t1 : List.take 4 A = [186, 120, 22, 191] := by rw [HA.out]; rfl
  have t2 : List.take 4 (List.drop 28 A) = [242, 0, 21, 173] := by rw [HA.out]; rfl
  have t3 : List.take 4 Bh = [91, 220, 193, 70] := by rw [HB.out]; rfl
  have t4 : List.take 4 (List.drop 28 Bh) = [100, 236, 56, 67] := by rw [HB.out]; rfl
  have hz24 : w2.heap.size < w4.heap.size := (Array.getElem?_eq_some_iff.1 HG4.out).1
  go_wp2_with (refine wpList_store_new (o := { dst := none, op := .store 24 (.tmp 2) (.tmp 14), type := _, pos := _, after := _, guard := none }) rfl (.tmp 2) (.tmp 14) rfl Bh HBL.out rfl rfl ?_; intro w5 hb5 HG5 HZ5; have HG5' : Hid (w5.heap[w2.heap.size]? = some (.cells (c8 A) 24 (0, 0))) := (hb5.block _ hz24).trans HG4.out; have s1 := str_at HG5'.out 0 4 32 (by rw [HAL.out]; decide); have s2 := str_at HG5'.out 28 4 4 (by rw [HAL.out]; decide); have s3 := str_at HG5.out 0 4 32 (by rw [HBL.out]; decide); have s4 := str_at HG5.out 28 4 4 (by rw [HBL.out]; decide))
  go_ret
  exact ⟨rfl, hbw4.trans (hb5.mono hbw4.size)⟩
end Go.Proofs.YtjkicmlelilcaaaDoor
