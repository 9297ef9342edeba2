/- Part 6 of the proof: texts of the proof. -/
import Derived.Test.YtljmigbpmcacnaaDoorQS5
import Derived.Deep.RegionHeld3
namespace Go.Proofs.YtljmigbpmcacnaaDoor
open Go.RowKit
theorem BSl.one {w : World} {v : Value} {bs : List UInt8} (h : BSl w v bs) : v.oneCell' = true := by
  rcases h with ⟨rfl, _⟩ | ⟨b, off, c, rfl, _⟩ | ⟨a, rfl, _⟩ <;> rfl
/-- slices.Clone of a slice of slices of bytes. -/
theorem clone_any (pv : Value) (vs : List Value) (ps : List (List UInt8)) (w : World) (h : PSl w pv vs ps) (hc0 : ps.length ≤ 1000000000) :
    Calls Tryd.prog 80 #[pv] w (OwnedV w ps.length vs) := by
  rcases h.lies with ⟨rfl, rfl⟩ | ⟨b, off, c, rfl, hc, hlt, hcell⟩
  · obtain rfl : vs = [] := List.eq_nil_of_length_eq_zero h.len
    exact clone_nil w
  · rw [← h.len]
    refine clone_some b off c vs w hlt (by rw [h.len]; exact hc0) (fun j u hu => ?_) (fun u hu => ?_)
    · have hj : j < vs.length := (List.getElem?_eq_some_iff.1 hu).1
      rw [Addr.add_mid, hcell j (by rw [← h.len]; exact hj)]
      simp [atV, hu]
    · obtain ⟨j, hj, rfl⟩ := List.getElem_of_mem hu
      have := (h.each j (by rw [← h.len]; exact hj)).one
      simpa [atV, hj] using this
/-- slices.Insert of one slice ahead of all. -/
theorem insert_any (base vb n : Nat) (sv cv : Value) (vs : List Value) (w : World) (hown : w.ownsRow base 28 1 sv n vs) (hbase : base ≤ w.heap.size) (hn2 : n ≤ 1000000000)
    (hcell : w.cell? ⟨vb, 0, none⟩ = some cv) (h1 : cv.oneCell' = true) (h2 : ∀ u ∈ vs, u.oneCell' = true) (hvb : vb < w.heap.size) (hvg : ∀ g, sv.ownBlock = some g → vb ≠ g) (hvr : ∃ C, w.heap[vb]? = some (.cells C 28 (0, 0))) :
    Calls Tryd.prog 79 #[sv, .int .i64 0, .slice (some ⟨vb, 0, none⟩) 1 1] w (InsP base sv.ownBlock w cv n vs) := by
  by_cases h0 : n = 0
  · subst h0
    obtain rfl : vs = [] := List.eq_nil_of_length_eq_zero (by simpa using hown.1)
    exact insert_empty base vb sv cv w hown hbase hcell h1
  · rcases hown.2 with ⟨rfl, h⟩ | ⟨g, cap, cur, rfl, hbg, hg, hnc, _⟩
    · omega
    · by_cases hc : n + 1 ≤ cap
      · exact insert_room base vb g n cap cv vs w hown hbase (by omega) hn2 hc hcell h1 h2 (hvg g rfl) hvr
      · exact insert_grow base vb g n cap cv vs w hown hbase (by omega) hn2 (by omega) hcell h1 h2 hvb (Array.getElem?_eq_some_iff.1 hg).1
theorem owns_below {w w' : World} {base e size B n : Nat} {v : Value} {xs : List Value} (h : w.ownsRow base e size v n xs) (hb : Below B w w') (hB : w.heap.size ≤ B) : w'.ownsRow base e size v n xs := by
  refine ⟨h.1, ?_⟩
  rcases h.2 with h | ⟨g, cap, cur, e1, h1, hh, h2⟩
  · exact .inl h
  · exact .inr ⟨g, cap, cur, e1, h1, (hb.block g (Nat.lt_of_lt_of_le (Array.getElem?_eq_some_iff.1 hh).1 hB)).trans hh, h2⟩
theorem owns_lt {w : World} {base e size n : Nat} {v : Value} {xs : List Value} (h : w.ownsRow base e size v n xs) {g : Nat} (hg : v.ownBlock = some g) : g < w.heap.size := by
  rcases h.2 with ⟨rfl, _⟩ | ⟨g', cap, cur, rfl, _, hh, _⟩
  · cases hg
  · cases hg; exact (Array.getElem?_eq_some_iff.1 hh).1
theorem PSl.of_owns {w : World} {base n : Nat} {v : Value} {vs : List Value} {ps : List (List UInt8)} (h : w.ownsRow base 28 1 v n vs) (hl : vs.length = ps.length) (he : ∀ j, j < ps.length → BSl w (atV vs j) (atP ps j)) : PSl w v vs ps := by
  have hn : n = ps.length := by have := h.1; omega
  subst hn
  refine ⟨hl, ?_, he⟩
  rcases h.2 with ⟨rfl, h0⟩ | ⟨g, cap, cur, rfl, hg, hh, hc, hm, hs, ht⟩
  · exact .inl ⟨rfl, List.eq_nil_of_length_eq_zero h0⟩
  · refine .inr ⟨g, 0, cap, rfl, hc, (Array.getElem?_eq_some_iff.1 hh).1, fun j hj => ?_⟩
    rw [Nat.zero_add, cell_of_row w g j cur 28 (0, 0) hh]
    have : vs[j]? = some (atV vs j) := by simp [atV, show j < vs.length by omega]
    rw [← this, ← ht, List.getElem?_take, if_pos (by omega)]
    simp
theorem BSl.of_row {w : World} {g T c : Nat} {bs : List UInt8} (h : w.heap[g]? = some (.cells (c8 bs) T (0, 0))) (hc : bs.length ≤ c) (n : Nat) (hn : n = bs.length) : BSl w (.slice (some ⟨g, 0, none⟩) n c) bs := by
  subst hn
  exact .inr (.inl ⟨g, 0, c, rfl, hc, (Array.getElem?_eq_some_iff.1 h).1, fun j hj => by rw [Nat.zero_add]; exact row8_cell h j hj⟩)
theorem atV_cons_zero (x : Value) (vs : List Value) : atV (x :: vs) 0 = x := rfl
theorem atV_cons_succ (x : Value) (vs : List Value) (j : Nat) : atV (x :: vs) (j + 1) = atV vs j := rfl
theorem atP_cons_zero (x : List UInt8) (ps : List (List UInt8)) : atP (x :: ps) 0 = x := rfl
theorem atP_cons_succ (x : List UInt8) (ps : List (List UInt8)) (j : Nat) : atP (x :: ps) (j + 1) = atP ps j := rfl
theorem GlobK.below {w w' : World} (h : GlobK w) (hb : Below w.heap.size w w') (h3 : 3 < w.heap.size) : GlobK w' := fun i hi => (hb.cell (p := ⟨3, i, none⟩) h3).trans (h i hi)
theorem GlobS.below {w w' : World} (h : GlobS w) (hb : Below w.heap.size w w') (h3 : 3 < w.heap.size) : GlobS w' := fun i hi => (hb.cell (p := ⟨2, i, none⟩) (by simp; omega)).trans (h i hi)
theorem changed_k (a : Option Addr) (n cp : Nat) (key : List UInt8) (k : Int) (c : UInt8) (hc : N8 c = k) (w : World) (hn : n = key.length) (h : BSl w (.slice a n cp) key) (hl : key.length ≤ 64) :
    Calls Tryd.prog 81 #[.slice a n cp, .int .u8 k] w (ChgP key c w) := by
  subst hc; exact changed_at a n cp key c w hn h hl
theorem BSl.same {w w' : World} {v : Value} {bs : List UInt8} (h : BSl w v bs) (e : w'.heap = w.heap) : BSl w' v bs := by
  rcases h with h | ⟨b, off, c, e1, hc, hlt, hcell⟩ | h
  · exact .inl h
  · exact .inr (.inl ⟨b, off, c, e1, hc, by rw [e]; exact hlt, fun j hj => by rw [← hcell j hj]; unfold World.cell?; rw [e]⟩)
  · exact .inr (.inr h)
theorem two_psl {w : World} {x y : Value} {p q : List UInt8} (hx : BSl w x p) (hy : BSl w y q) : PSl (w.alloc (.cells #[x, y] 28)) (.slice (some ⟨w.heap.size, 0, none⟩) 2 2) [x, y] [p, q] := by
  have hb : Below w.heap.size w (w.alloc (.cells #[x, y] 28)) := (Below.refl _ _).alloc (Nat.le_refl _) _
  refine ⟨rfl, .inr ⟨w.heap.size, 0, 2, rfl, Nat.le_refl _, by simp, fun j hj => ?_⟩, fun j hj => ?_⟩
  · rw [Nat.zero_add, cell_of_row _ _ j _ 28 (0, 0) (row_new _ _ _)]
    match j, hj with
    | 0, _ => rfl
    | 1, _ => rfl
  · match j, hj with
    | 0, _ => exact hx.below hb (Nat.le_refl _)
    | 1, _ => exact hy.below hb (Nat.le_refl _)
theorem mid_psl {w5 w6 w7 : World} {key hm : List UInt8} (hk64 : key.length ≤ 64) (hml : hm.length = 32) (hz : w5.heap.size < w6.heap.size) (hG6 : w6.heap[w5.heap.size]? = some (.cells (c8 hm) 130 (0, 0)))
    (hG7 : w7.heap[w6.drew.heap.size]? = some (.cells (c8 (chg key 92)) 5 (0, 0))) (hb7 : Below w6.drew.heap.size w6.drew w7) :
    PSl (w7.alloc (.cells #[.slice (some ⟨w6.heap.size, 0, none⟩) 64 64, .slice (some ⟨w5.heap.size, 0, none⟩) 32 32] 28)) (.slice (some ⟨w7.heap.size, 0, none⟩) 2 2) [.slice (some ⟨w6.heap.size, 0, none⟩) 64 64, .slice (some ⟨w5.heap.size, 0, none⟩) 32 32] [chg key 92, hm] := by
  have hl := chg_length key 92 hk64
  refine two_psl (BSl.of_row (T := 5) (c := 64) hG7 (by omega) 64 hl.symm) (BSl.of_row (T := 130) (c := 32) ?_ (by omega) 32 hml.symm)
  exact (hb7.block _ hz).trans hG6
theorem results_mid {P : Program} {fn : Func} {p : Tmp} {ty : TypeId} (h : fn.results = #[.cell p ty]) (tmps : Array Value) (w : World) (b : Nat) (cs : List Value) (d : TypeDesc)
    (hp : tmps.getD p undef = .pointer (some ⟨b, 0, none⟩)) (hc : w.rangeAt b 0 cs) (hu : P.underlying ty = some d) (hd : d.isRow = true) (hi : (P.info? ty).map (·.size) = some cs.length) :
    (results fn tmps).run P w = .ok (.agg cs.toArray) w := by
  have hp' : tmps[p]?.getD undef = .pointer (some ⟨b, 0, none⟩) := by simpa using hp
  simp [results, h, hp', asAddr, run_loadVar_mid w b 0 ty cs d hc hu hd hi]
theorem there_of_row {w : World} {b T : Nat} {l : List UInt8} (h : w.heap[b]? = some (.cells (c8 l) T (0, 0))) : w.there b 0 l.length := fun j hj => by
  rw [Nat.zero_add]
  exact ⟨by rw [row8_cell h j hj]; rfl, row_free h j⟩
theorem there_below {B : Nat} {w w' : World} {b o n : Nat} (h : w.there b o n) (hb : Below B w w') (hB : b < B) : w'.there b o n := fun j hj => by
  rw [hb.cell (p := ⟨b, o + j, none⟩) hB, hb.frozen (p := ⟨b, o + j, none⟩) hB]; exact h j hj
/-- HMAC of bytes, of a key of at most 64; of any. -/
def hmS (key msg : List UInt8) : List UInt8 := shaB (chg key 92 ++ shaB (chg key 54 ++ msg))
def hmB (key msg : List UInt8) : List UInt8 := hmS (if key.length > 64 then shaB key else key) msg
attribute [local irreducible] chg shaB
theorem below_cells {B b : Nat} {a : World} (hb : B ≤ b) : ∀ (vs : List Value) (o : Nat) (w : World), Below B a w → Below B a (w.setCells b o vs)
  | [], _, _, h => h
  | _ :: r, o, _, h => below_cells hb r (o + 1) _ (h.setCell hb _)
theorem mid_len {key hm : List UInt8} (hk64 : key.length ≤ 64) (hml : hm.length = 32) : ([chg key 92, hm].flatten).length ≤ 100000000000 := by
  have hl := chg_length key 92 hk64
  simp [hl, hml]
theorem alloc_below {o : Obj} (w : World) : Below w.heap.size w (w.alloc o) := (Below.refl _ _).alloc (Nat.le_refl _) _
theorem mid_below {w w6 w7 : World} {o : Obj} (h6 : Below w.heap.size w w6) (h7 : Below w6.drew.heap.size w6.drew w7) : Below w.heap.size w (w7.alloc o) :=
  (h6.drew.trans (h7.mono h6.size)).alloc (Nat.le_trans h6.size h7.size) _
theorem mid_lt {w w' : World} (h3 : 3 < w.heap.size) (h : Below w.heap.size w w') : 3 < w'.heap.size := Nat.lt_of_lt_of_le h3 h.size
theorem mid_lt2 {n : Nat} {w6 w7 : World} (h : n < w6.heap.size) (h7 : Below w6.drew.heap.size w6.drew w7) : n < w7.heap.size := Nat.lt_of_lt_of_le h h7.size
theorem mid_lt3 {n : Nat} {w6 w7 : World} {o : Obj} (h : n < w6.heap.size) (h7 : Below w6.drew.heap.size w6.drew w7) : n < (w7.alloc o).heap.size := by
  have := mid_lt2 h h7; simp; omega
set_option maxRecDepth 100000 in
set_option maxHeartbeats 1000000 in
theorem hmac_short (kv pv : Value) (key : List UInt8) (vs : List Value) (ps : List (List UInt8)) (w : World) (hk : BSl w kv key) (hk64 : key.length ≤ 64) (hP : PSl w pv vs ps) (hc0 : ps.length ≤ 100000000) (ht : ps.flatten.length ≤ 10000000000)
    (hK : GlobK w) (hS : GlobS w) (h3 : 3 < w.heap.size) :
    Calls Tryd.prog 69 #[kv, pv] w fun e w' => e = .returned (.agg (c8 (hmS key ps.flatten))) ∧ Below w.heap.size w w' := by
  have HK : Hid (GlobK w) := hK
  have HS : Hid (GlobS w) := hS
  clear hK hS
  obtain ⟨a0, c0, hkv⟩ := hk.len
  subst hkv
  have d64 : decide ((64 : Int) < (key.length : Int)) = false := decide_eq_false (by omega)
  have HR1 := Lib.hid (row_new8 w)
  go_enter Tryd.func69, Tryd.ntmps69
  go_wp2_with fail
  generalize hw1 : w.alloc _ = w1 at HR1 ⊢
  have hb1 : Below w.heap.size w w1 := by rw [← hw1]; exact (Below.refl _ _).alloc (Nat.le_refl _) _
  have HZ1 : Hid (w.heap.size < w1.heap.size) := by rw [← hw1]; simp [Hid]
  clear hw1
  have hk1 := hk.below hb1 (Nat.le_refl _)
  refine (clone_any pv vs ps w1 (hP.below hb1 (Nat.le_refl _)) (by omega)).mono ?_
  rintro e w2 ⟨v2, rfl, hown2, hb2⟩
  have hz2 := hb2.size
  have hbw2 : Below w.heap.size w w2 := hb1.trans (hb2.mono (by have := HZ1.out; omega))
  go_wp2_with fail
  refine (changed_k a0 key.length c0 key 54 54 rfl w2 rfl (hk1.below hb2 (Nat.le_refl _)) hk64).mono ?_
  rintro e w3 ⟨rfl, hG3, hb3⟩
  have HG3 := Lib.hid hG3
  clear hG3
  have hz3 := hb3.size
  have hz3' : w2.heap.size < w3.heap.size := (Array.getElem?_eq_some_iff.1 HG3.out).1
  go_wp2_with fail
  have hb3' : Below w2.heap.size w2 (w3.alloc (.cells #[.slice (some ⟨w2.heap.size, 0, none⟩) 64 64] 28)) := hb3.alloc hz3 _
  refine (insert_any w1.heap.size w3.heap.size ps.length v2 (.slice (some ⟨w2.heap.size, 0, none⟩) 64 64) vs _ (owns_below hown2 hb3' (Nat.le_refl _)) (by simp; omega) (by omega) (by simp) rfl ?_ (by simp) (fun g hg => by have := owns_lt hown2 hg; omega) ⟨_, row_new _ _ _⟩).mono ?_
  · intro u hu
    obtain ⟨j, hj, rfl⟩ := List.getElem_of_mem hu
    have := (hP.each j (by rw [← hP.len]; exact hj)).one
    simpa [atV, hj] using this
  rintro e w4 ⟨v4, rfl, hown4, hg4⟩
  have hb4 : Below w1.heap.size w1 w4 := (hb2.trans (hb3'.mono hz2)).grown hg4 (by simp; omega) (fun g hg => owns_block hown2 hg)
  have hbw4 : Below w.heap.size w w4 := hb1.trans (hb4.mono (by have := HZ1.out; omega))
  have HG4 : Hid (w4.heap[w2.heap.size]? = some (.cells (c8 (chg key 54)) 5 (0, 0))) := by
    show _ = _
    rw [hg4.block _ (by simp; omega) (fun e => by have := owns_lt hown2 e.symm; omega), Below.heap_alloc _ _ _ hz3']
    exact HG3.out
  have hP4 : PSl w4 v4 (.slice (some ⟨w2.heap.size, 0, none⟩) 64 64 :: vs) (chg key 54 :: ps) := by
    refine PSl.of_owns hown4 (by simp [hP.len]) (fun j hj => ?_)
    cases j with
    | zero =>
      rw [atV_cons_zero, atP_cons_zero]
      have hl := chg_length key 54 hk64
      exact BSl.of_row HG4.out (by rw [hl]; exact Nat.le_refl _) 64 hl.symm
    | succ j =>
      rw [atV_cons_succ, atP_cons_succ]
      exact (hP.each j (by simpa using hj)).below hbw4 (Nat.le_refl _)
  have hz4 := hb4.size
  go_wp2_with fail
  refine (sha_any v4 _ (chg key 54 :: ps) w4 hP4 (by simp; omega) (by rw [List.flatten_cons, List.length_append, chg_length _ _ hk64]; omega) (HK.out.below hbw4 h3) (HS.out.below hbw4 h3) (by have := hbw4.size; omega)).mono ?_
  rintro e w5 ⟨rfl, hb5⟩
  have hbw5 : Below w.heap.size w w5 := hbw4.trans (hb5.mono hbw4.size)
  obtain ⟨hm, hhm⟩ : ∃ hm, hm = shaB (chg key 54 :: ps).flatten := ⟨_, rfl⟩
  rw [← hhm]
  have hml : hm.length = 32 := by rw [hhm]; exact shaB_length _
  have HHM := Lib.hid hhm
  clear hhm
  have HI24 : Hid ((Tryd.prog.info? 130).map (·.size) = some (c8 hm).size) := by rw [c8_size, hml]; exact info24
  have HQ : Hid ((c8 (List.replicate 32 0)).size = (c8 hm).size) := by rw [c8_size, c8_size, hml]; simp [Hid]
  have HML := Lib.hid hml
  clear hml
  go_wp2_with (refine wpList_store_row rfl 130 (.tmp 6) (.tmp 20) rfl w5.heap.size (c8 hm) rfl rfl 130 _ (row_new8 w5) HI24.out HQ.out (c8_one _) ?_)
  go_frame
  generalize hw6 : (w5.alloc _).setRow w5.heap.size (c8 hm) = w6
  have hb6 : Below w5.heap.size w5 w6 := by rw [← hw6]; exact below_setRow ((Below.refl _ _).alloc (Nat.le_refl _) _) (Nat.le_refl _) _
  have HG6 : Hid (w6.heap[w5.heap.size]? = some (.cells (c8 hm) 130 (0, 0))) := by rw [← hw6]; exact setRow_heap _ _ _ _ _ _ (row_new8 w5)
  clear hw6
  have hz6 : w5.heap.size < w6.heap.size := (Array.getElem?_eq_some_iff.1 HG6.out).1
  have hbw6 : Below w.heap.size w w6 := hbw5.trans (hb6.mono hbw5.size)
  have HR6 : Hid (w6.heap[w.heap.size]? = some (.cells (c8 (List.replicate 32 0)) 130 (0, 0))) := by
    show _ = _
    rw [hb6.block _ (by have := HZ1.out; have := hb5.size; omega), hb5.block _ (by have := HZ1.out; omega), hb4.block _ (by have := HZ1.out; omega)]
    exact HR1.out
  have hT6 : w6.there w.heap.size 0 32 := by have := there_of_row HR6.out; rwa [List.length_replicate] at this
  obtain ⟨X, hX⟩ : ∃ X, X = shaB [chg key 92, hm].flatten := ⟨_, rfl⟩
  have hXl : X.length = 32 := by rw [hX]; exact shaB_length _
  have hXc : (c8l X).length = 32 := by rw [c8l_length]; exact hXl
  have hX1 : ∀ v ∈ c8l X, v.oneCell' = true := c8l_one X
  have hi24 := info24
  have HX := Lib.hid hX
  clear hX hXl
  have hk6 := hk1.below (hb4.trans ((hb5.mono hb4.size).trans (hb6.mono (Nat.le_trans hb4.size hb5.size)))) (Nat.le_refl _)
  have hRz6 : w.heap.size < w6.heap.size := by have := HZ1.out; have := hb5.size; omega
  go_region_held3 (fun W => W.there w.heap.size 0 32) (first | exact hT6 | exact hT7 | exact there_below hT7 (alloc_below w7) (mid_lt2 hRz6 hb7) | exact hT8 | exact World.there_setCells hT8 _ _ _)
    (first | (go_at_call 81; refine (changed_k a0 key.length c0 key 92 92 rfl _ rfl ?_ hk64).mono ?_; exact hk6.same rfl; rintro e w7 ⟨rfl, hG7, hb7⟩; have HG7 := Lib.hid hG7; clear hG7; have hT7 : w7.there w.heap.size 0 32 := there_below (w := w6.drew) hT6 hb7 hRz6) | (go_at_call 78; refine (sha_any _ _ _ _ (mid_psl hk64 HML.out hz6 HG6.out HG7.out hb7) (by simp) ?_ ?_ ?_ ?_).mono ?_; exact mid_len hk64 HML.out; exact HK.out.below (mid_below hbw6 hb7) h3; exact HS.out.below (mid_below hbw6 hb7) h3; exact mid_lt h3 (mid_below hbw6 hb7); (rw [← HX.out]); rintro e w8 ⟨rfl, hb8⟩; have hT8 : w8.there w.heap.size 0 32 := there_below (there_below hT7 (alloc_below w7) (mid_lt2 hRz6 hb7)) hb8 (mid_lt3 hRz6 hb7)))
  go_wp2
  have hrs : (w8.setCells w.heap.size 0 (c8l X)).rangeAt w.heap.size 0 (c8l X) := World.rangeAt_setCells_same _ _ _ _ (by rw [hXc]; exact hT8)
  have hfin : Below w.heap.size w (w8.setCells w.heap.size 0 (c8l X)) := below_cells (Nat.le_refl _) _ _ _ ((mid_below hbw6 hb7).trans (hb8.mono (mid_below hbw6 hb7).size))
  refine bodyPost_ret (v := .agg (c8 X)) (results_mid (p := 4) (ty := 130) rfl _ _ w.heap.size (c8l X) _ rfl hrs Tryd.underlying130 rfl (by rw [hXc]; exact info24)) rfl ⟨?_, hfin⟩
  rw [HX.out, HHM.out]
  simp [hmS]
theorem one_psl {w : World} {x : Value} {p : List UInt8} (hx : BSl w x p) : PSl (w.alloc (.cells #[x] 28)) (.slice (some ⟨w.heap.size, 0, none⟩) 1 1) [x] [p] := by
  have hb : Below w.heap.size w (w.alloc (.cells #[x] 28)) := (Below.refl _ _).alloc (Nat.le_refl _) _
  refine ⟨rfl, .inr ⟨w.heap.size, 0, 1, rfl, Nat.le_refl _, by simp, fun j hj => ?_⟩, fun j hj => ?_⟩
  · rw [Nat.zero_add, cell_of_row _ _ j _ 28 (0, 0) (row_new _ _ _)]
    match j, hj with
    | 0, _ => rfl
  · match j, hj with
    | 0, _ => exact hx.below hb (Nat.le_refl _)
set_option maxRecDepth 100000 in
set_option maxHeartbeats 1000000 in
theorem hmac_long (kv pv : Value) (key : List UInt8) (vs : List Value) (ps : List (List UInt8)) (w : World) (hk : BSl w kv key) (hlong : 64 < key.length) (hkl : key.length ≤ 10000000000) (hP : PSl w pv vs ps) (hc0 : ps.length ≤ 100000000) (ht : ps.flatten.length ≤ 10000000000)
    (hK : GlobK w) (hS : GlobS w) (h3 : 3 < w.heap.size) :
    Calls Tryd.prog 69 #[kv, pv] w fun e w' => e = .returned (.agg (c8 (hmS (shaB key) ps.flatten))) ∧ Below w.heap.size w w' := by
  have HK : Hid (GlobK w) := hK
  have HS : Hid (GlobS w) := hS
  clear hK hS
  obtain ⟨a0, c0, hkv⟩ := hk.len
  subst hkv
  have d64 : decide ((64 : Int) < (key.length : Int)) = true := decide_eq_true (by omega)
  have HR0 := Lib.hid (row_new8 w)
  go_enter Tryd.func69, Tryd.ntmps69
  go_wp2_with fail
  generalize hy1 : w.alloc _ = y1 at HR0 ⊢
  have hby1 : Below w.heap.size w y1 := by rw [← hy1]; exact (Below.refl _ _).alloc (Nat.le_refl _) _
  have hyz : y1.heap.size = w.heap.size + 1 := by rw [← hy1]; simp
  clear hy1
  rw [← hyz]
  have hyz1 : w.heap.size < y1.heap.size := by omega
  clear hyz
  have hby2 : Below w.heap.size w (y1.alloc (.cells #[.slice a0 key.length c0] 28)) := hby1.alloc (by omega) _
  refine (sha_any _ _ _ _ (one_psl (hk.below hby1 (Nat.le_refl _))) (by simp) (by simp; omega) (HK.out.below hby2 h3) (HS.out.below hby2 h3) (mid_lt h3 hby2)).mono ?_
  rintro e y3 ⟨rfl, hby3⟩
  obtain ⟨ky, hky⟩ : ∃ ky, ky = shaB [key].flatten := ⟨_, rfl⟩
  rw [← hky]
  have hkyl : ky.length = 32 := by rw [hky]; exact shaB_length _
  have HKY := Lib.hid hky
  clear hky
  have HI24k : Hid ((Tryd.prog.info? 130).map (·.size) = some (c8 ky).size) := by rw [c8_size, hkyl]; exact info24
  have HQk : Hid ((c8 (List.replicate 32 0)).size = (c8 ky).size) := by rw [c8_size, c8_size, hkyl]; simp [Hid]
  have HKL := Lib.hid hkyl
  clear hkyl
  go_wp2_with (first | (refine wpList_store_row rfl 130 (.tmp 5) (.tmp 12) rfl y3.heap.size (c8 ky) rfl rfl 130 _ (row_new8 y3) HI24k.out HQk.out (c8_one _) ?_))
  generalize hw1 : (y3.alloc _).setRow y3.heap.size (c8 ky) = w1
  have hb31 : Below y3.heap.size y3 w1 := by rw [← hw1]; exact below_setRow (alloc_below _) (Nat.le_refl _) _
  have HGK : Hid (w1.heap[y3.heap.size]? = some (.cells (c8 ky) 130 (0, 0))) := by rw [← hw1]; exact setRow_heap _ _ _ _ _ _ (row_new8 y3)
  clear hw1
  have hby3s := hby3.size
  simp only [World.size_alloc] at hby3s
  have hb1 : Below w.heap.size w w1 := hby2.trans ((hby3.mono (by simp; omega)).trans (hb31.mono (by omega)))
  have HZ1 : Hid (w.heap.size < w1.heap.size) := by have := hb31.size; show _ < _; omega
  have HR1 : Hid (w1.heap[w.heap.size]? = some (.cells (c8 (List.replicate 32 0)) 130 (0, 0))) := by
    show _ = _
    rw [hb31.block _ (by omega), hby3.block _ (by simp; omega), Below.heap_alloc _ _ _ hyz1]
    exact HR0.out
  have hk1 : BSl w1 (.slice (some ⟨y3.heap.size, 0, none⟩) 32 32) ky := BSl.of_row (T := 130) HGK.out (by have := HKL.out; omega) 32 HKL.out.symm
  have hk64 : ky.length ≤ 64 := by have := HKL.out; omega
  refine (clone_any pv vs ps w1 (hP.below hb1 (Nat.le_refl _)) (by omega)).mono ?_
  rintro e w2 ⟨v2, rfl, hown2, hb2⟩
  have hz2 := hb2.size
  have hbw2 : Below w.heap.size w w2 := hb1.trans (hb2.mono (by have := HZ1.out; omega))
  go_wp2_with fail
  refine (changed_k (some ⟨y3.heap.size, 0, none⟩) 32 32 ky 54 54 rfl w2 HKL.out.symm (hk1.below hb2 (Nat.le_refl _)) hk64).mono ?_
  rintro e w3 ⟨rfl, hG3, hb3⟩
  have HG3 := Lib.hid hG3
  clear hG3
  have hz3 := hb3.size
  have hz3' : w2.heap.size < w3.heap.size := (Array.getElem?_eq_some_iff.1 HG3.out).1
  go_wp2_with fail
  have hb3' : Below w2.heap.size w2 (w3.alloc (.cells #[.slice (some ⟨w2.heap.size, 0, none⟩) 64 64] 28)) := hb3.alloc hz3 _
  refine (insert_any w1.heap.size w3.heap.size ps.length v2 (.slice (some ⟨w2.heap.size, 0, none⟩) 64 64) vs _ (owns_below hown2 hb3' (Nat.le_refl _)) (by simp; omega) (by omega) (by simp) rfl ?_ (by simp) (fun g hg => by have := owns_lt hown2 hg; omega) ⟨_, row_new _ _ _⟩).mono ?_
  · intro u hu
    obtain ⟨j, hj, rfl⟩ := List.getElem_of_mem hu
    have := (hP.each j (by rw [← hP.len]; exact hj)).one
    simpa [atV, hj] using this
  rintro e w4 ⟨v4, rfl, hown4, hg4⟩
  have hb4 : Below w1.heap.size w1 w4 := (hb2.trans (hb3'.mono hz2)).grown hg4 (by simp; omega) (fun g hg => owns_block hown2 hg)
  have hbw4 : Below w.heap.size w w4 := hb1.trans (hb4.mono (by have := HZ1.out; omega))
  have HG4 : Hid (w4.heap[w2.heap.size]? = some (.cells (c8 (chg ky 54)) 5 (0, 0))) := by
    show _ = _
    rw [hg4.block _ (by simp; omega) (fun e => by have := owns_lt hown2 e.symm; omega), Below.heap_alloc _ _ _ hz3']
    exact HG3.out
  have hP4 : PSl w4 v4 (.slice (some ⟨w2.heap.size, 0, none⟩) 64 64 :: vs) (chg ky 54 :: ps) := by
    refine PSl.of_owns hown4 (by simp [hP.len]) (fun j hj => ?_)
    cases j with
    | zero =>
      rw [atV_cons_zero, atP_cons_zero]
      have hl := chg_length ky 54 hk64
      exact BSl.of_row HG4.out (by rw [hl]; exact Nat.le_refl _) 64 hl.symm
    | succ j =>
      rw [atV_cons_succ, atP_cons_succ]
      exact (hP.each j (by simpa using hj)).below hbw4 (Nat.le_refl _)
  have hz4 := hb4.size
  go_wp2_with fail
  refine (sha_any v4 _ (chg ky 54 :: ps) w4 hP4 (by simp; omega) (by rw [List.flatten_cons, List.length_append, chg_length _ _ hk64]; omega) (HK.out.below hbw4 h3) (HS.out.below hbw4 h3) (by have := hbw4.size; omega)).mono ?_
  rintro e w5 ⟨rfl, hb5⟩
  have hbw5 : Below w.heap.size w w5 := hbw4.trans (hb5.mono hbw4.size)
  obtain ⟨hm, hhm⟩ : ∃ hm, hm = shaB (chg ky 54 :: ps).flatten := ⟨_, rfl⟩
  rw [← hhm]
  have hml : hm.length = 32 := by rw [hhm]; exact shaB_length _
  have HHM := Lib.hid hhm
  clear hhm
  have HI24 : Hid ((Tryd.prog.info? 130).map (·.size) = some (c8 hm).size) := by rw [c8_size, hml]; exact info24
  have HQ : Hid ((c8 (List.replicate 32 0)).size = (c8 hm).size) := by rw [c8_size, c8_size, hml]; simp [Hid]
  have HML := Lib.hid hml
  clear hml
  go_wp2_with (refine wpList_store_row rfl 130 (.tmp 6) (.tmp 20) rfl w5.heap.size (c8 hm) rfl rfl 130 _ (row_new8 w5) HI24.out HQ.out (c8_one _) ?_)
  go_frame
  generalize hw6 : (w5.alloc _).setRow w5.heap.size (c8 hm) = w6
  have hb6 : Below w5.heap.size w5 w6 := by rw [← hw6]; exact below_setRow ((Below.refl _ _).alloc (Nat.le_refl _) _) (Nat.le_refl _) _
  have HG6 : Hid (w6.heap[w5.heap.size]? = some (.cells (c8 hm) 130 (0, 0))) := by rw [← hw6]; exact setRow_heap _ _ _ _ _ _ (row_new8 w5)
  clear hw6
  have hz6 : w5.heap.size < w6.heap.size := (Array.getElem?_eq_some_iff.1 HG6.out).1
  have hbw6 : Below w.heap.size w w6 := hbw5.trans (hb6.mono hbw5.size)
  have HR6 : Hid (w6.heap[w.heap.size]? = some (.cells (c8 (List.replicate 32 0)) 130 (0, 0))) := by
    show _ = _
    rw [hb6.block _ (by have := HZ1.out; have := hb5.size; omega), hb5.block _ (by have := HZ1.out; omega), hb4.block _ (by have := HZ1.out; omega)]
    exact HR1.out
  have hT6 : w6.there w.heap.size 0 32 := by have := there_of_row HR6.out; rwa [List.length_replicate] at this
  obtain ⟨X, hX⟩ : ∃ X, X = shaB [chg ky 92, hm].flatten := ⟨_, rfl⟩
  have hXl : X.length = 32 := by rw [hX]; exact shaB_length _
  have hXc : (c8l X).length = 32 := by rw [c8l_length]; exact hXl
  have hX1 : ∀ v ∈ c8l X, v.oneCell' = true := c8l_one X
  have hi24 := info24
  have HX := Lib.hid hX
  clear hX hXl
  have hk6 := hk1.below (hb4.trans ((hb5.mono hb4.size).trans (hb6.mono (Nat.le_trans hb4.size hb5.size)))) (Nat.le_refl _)
  have hRz6 : w.heap.size < w6.heap.size := by have := HZ1.out; have := hb5.size; omega
  go_region_held3 (fun W => W.there w.heap.size 0 32) (first | exact hT6 | exact hT7 | exact there_below hT7 (alloc_below w7) (mid_lt2 hRz6 hb7) | exact hT8 | exact World.there_setCells hT8 _ _ _)
    (first | (go_at_call 81; refine (changed_k (some ⟨y3.heap.size, 0, none⟩) 32 32 ky 92 92 rfl _ HKL.out.symm ?_ hk64).mono ?_; exact hk6.same rfl; rintro e w7 ⟨rfl, hG7, hb7⟩; have HG7 := Lib.hid hG7; clear hG7; have hT7 : w7.there w.heap.size 0 32 := there_below (w := w6.drew) hT6 hb7 hRz6) | (go_at_call 78; refine (sha_any _ _ _ _ (mid_psl hk64 HML.out hz6 HG6.out HG7.out hb7) (by simp) ?_ ?_ ?_ ?_).mono ?_; exact mid_len hk64 HML.out; exact HK.out.below (mid_below hbw6 hb7) h3; exact HS.out.below (mid_below hbw6 hb7) h3; exact mid_lt h3 (mid_below hbw6 hb7); (rw [← HX.out]); rintro e w8 ⟨rfl, hb8⟩; have hT8 : w8.there w.heap.size 0 32 := there_below (there_below hT7 (alloc_below w7) (mid_lt2 hRz6 hb7)) hb8 (mid_lt3 hRz6 hb7)))
  go_wp2
  have hrs : (w8.setCells w.heap.size 0 (c8l X)).rangeAt w.heap.size 0 (c8l X) := World.rangeAt_setCells_same _ _ _ _ (by rw [hXc]; exact hT8)
  have hfin : Below w.heap.size w (w8.setCells w.heap.size 0 (c8l X)) := below_cells (Nat.le_refl _) _ _ _ ((mid_below hbw6 hb7).trans (hb8.mono (mid_below hbw6 hb7).size))
  refine bodyPost_ret (v := .agg (c8 X)) (results_mid (p := 4) (ty := 130) rfl _ _ w.heap.size (c8l X) _ rfl hrs Tryd.underlying130 rfl (by rw [hXc]; exact info24)) rfl ⟨?_, hfin⟩
  rw [HX.out, HHM.out, HKY.out]
  simp [hmS]
/-- HMAC, whatever the key. -/
theorem hmac_any (kv pv : Value) (key : List UInt8) (vs : List Value) (ps : List (List UInt8)) (w : World) (hk : BSl w kv key) (hkl : key.length ≤ 10000000000) (hP : PSl w pv vs ps) (hc0 : ps.length ≤ 100000000) (ht : ps.flatten.length ≤ 10000000000)
    (hK : GlobK w) (hS : GlobS w) (h3 : 3 < w.heap.size) :
    Calls Tryd.prog 69 #[kv, pv] w fun e w' => e = .returned (.agg (c8 (hmB key ps.flatten))) ∧ Below w.heap.size w w' := by
  unfold hmB
  by_cases h : key.length > 64
  · rw [if_pos h]; exact hmac_long kv pv key vs ps w hk h hkl hP hc0 ht hK hS h3
  · rw [if_neg h]; exact hmac_short kv pv key vs ps w hk (by omega) hP hc0 ht hK hS h3
end Go.Proofs.YtljmigbpmcacnaaDoor
namespace Go.Proofs.YtljmigbpmcacnaaDoor
open Go
def bI (l : List UInt8) : List Int := l.map N8
def wI (l : List UInt32) : List Int := l.map N32
theorem wI_length (l : List UInt32) : (wI l).length = l.length := by simp [wI]
theorem bI_getD (l : List UInt8) (k : Nat) : (bI l).getD k 0 = N8 (at8 l k) := by
  rw [bI, at8, List.getD_eq_getElem?_getD, List.getElem?_map, List.getD_eq_getElem?_getD]
  cases l[k]? <;> rfl
theorem wI_getD (l : List UInt32) (k : Nat) : (wI l).getD k 0 = N32 (at32 l k) := by
  rw [wI, at32, List.getD_eq_getElem?_getD, List.getElem?_map, List.getD_eq_getElem?_getD]
  cases l[k]? <;> rfl
def toBs (l : List Int) : List UInt8 := l.map fun n => UInt8.ofNat n.toNat
theorem bI_toBs (l : List Int) (h : ∀ n ∈ l, 0 ≤ n ∧ n ≤ 255) : bI (toBs l) = l := by
  unfold bI toBs
  rw [List.map_map]
  conv => rhs; rw [← List.map_id l]
  refine List.map_congr_left fun n hn => ?_
  have := h n hn
  simp only [Function.comp_apply, id_eq, N8, UInt8.toNat_ofNat']
  omega
theorem toBs_length (l : List Int) : (toBs l).length = l.length := by simp [toBs]
theorem toBs_bI (l : List UInt8) : toBs (bI l) = l := by
  unfold toBs bI
  rw [List.map_map]
  conv => rhs; rw [← List.map_id l]
  refine List.map_congr_left fun n _ => ?_
  simp [N8]
end Go.Proofs.YtljmigbpmcacnaaDoor
namespace Go.Proofs.YtljmigbpmcacnaaDoor.V2
open Go
open Go.RowKit
theorem HR.below {ρ : Ren} {σ : AH} {W W' : World} (h : HR ρ σ W) (hb : Below W.heap.size W W') : HR ρ σ W' :=
  ⟨h.small, h.none_, fun b c d hρ => by
    obtain ⟨h1, h2, o, h3, h4⟩ := h.dom b c d hρ
    refine ⟨h1, Nat.lt_of_lt_of_le h2 hb.size, o, h3, ?_⟩
    rw [hb.block c h2]; exact h4, h.inj⟩
theorem Stp.below {N : Nat} {ρ : Ren} {σ : AH} {W W' : World} (hN : N ≤ σ.next) (hb : Below W.heap.size W W') : Stp N ρ σ W ρ σ W' :=
  ⟨fun _ _ => rfl, fun b _c d h => .inl ⟨b, d, h⟩, hN, fun _ _ _ _ h _ => h, fun c hc _ => hb.block c hc, hb.tape, hb.os, hb.output, hb.size, fun _ c _ _ _ _ hc h _ => ⟨h, hb.block c hc⟩⟩
/-- What is read of a slice of bytes. -/
def rowB : Row → Option (List Int)
  | .ints k l => match k with
    | .u8 => some l
    | _ => none
  | .cells l => match l with
    | [] => some []
    | _ => none
def byI (l : List Int) : Bool := l.all fun n => decide (0 ≤ n) && decide (n ≤ 255)
theorem byI_iff {l : List Int} (h : byI l = true) : ∀ n ∈ l, 0 ≤ n ∧ n ≤ 255 := fun n hn => by
  have := List.all_eq_true.1 h n hn
  simpa using this
/-- A slice of bytes, and what it holds. -/
noncomputable def bytesA (A : Ar) (By : List Int → Bool) (σ : AH) (v : AV) : Bool × List Int := match rowA A false 1 σ v with
  | (ok, _, r) => match rowB r with
    | some l => (ok && By l, l)
    | none => (false, [])
theorem bytes_of {ρ : Ren} {σ : AH} {W : World} (hr : HR ρ σ W) {s : AV} {v : Value} (hv : VR ρ s v) (hok : (bytesA std byI σ s).1 = true) : BSl W v (toBs (bytesA std byI σ s).2) ∧ bI (toBs (bytesA std byI σ s).2) = (bytesA std byI σ s).2 := by
  unfold bytesA at hok ⊢
  generalize hrow : rowA std false 1 σ s = row at hok ⊢
  obtain ⟨ok, n, r⟩ := row
  simp only at hok ⊢
  cases hB : rowB r with
  | none => rw [hB] at hok; cases hok
  | some l =>
    rw [hB] at hok
    simp only [Bool.and_eq_true] at hok ⊢
    obtain ⟨hok, hby⟩ := hok
    have hby := byI_iff hby
    refine ⟨?_, bI_toBs l hby⟩
    cases s
    case nilsl =>
      simp only [VR] at hv
      simp only [rowA, Prod.mk.injEq] at hrow
      obtain ⟨_, _, rfl⟩ := hrow
      simp only [rowB, Option.some.injEq] at hB
      subst hB; subst hv
      exact .inl ⟨rfl, rfl⟩
    case sl b o n' k e z =>
      rcases vr_sl hv with ⟨c, d, o', k', hb, rfl, ho, hnk, hk, _, _⟩ | ⟨rfl, rfl, rfl, _, pp, rfl⟩
      rotate_left
      · refine .inr (.inr ⟨pp, rfl, ?_⟩)
        have hl : l = [] := by
          simp only [rowA] at hrow
          cases hob : σ.get b with
          | none => rw [hob] at hrow; cases hrow; cases hok
          | some ob =>
            rw [hob] at hrow
            cases ob with
            | map m => cases hrow; cases hok
            | dead => cases hrow; cases hB; rfl
            | cells m e2 t =>
              simp only [Prod.mk.injEq] at hrow
              obtain ⟨_, _, rfl⟩ := hrow
              rw [Nat.zero_mul, List.take_zero] at hB
              cases hB; rfl
            | ints ik m e2 t =>
              simp only [Prod.mk.injEq] at hrow
              obtain ⟨_, _, rfl⟩ := hrow
              have hik : ik = .u8 := by cases ik <;> first | rfl | (simp [rowB] at hB)
              subst hik
              simp only [std, rowB, Option.some.injEq] at hB
              rw [← hB]; simp
        rw [hl]; rfl
      have hc := (hr.dom _ _ _ hb).2.1
      simp only [rowA] at hrow
      have hempty : n' = 0 → l = [] → BSl W (.slice (some ⟨c, o', none⟩) n' k') (toBs l) := fun h1 h2 => by
        subst h1; subst h2
        exact .inr (.inl ⟨c, o', k', rfl, Nat.zero_le _, hc, fun j hj => by cases hj⟩)
      cases hob : σ.get b with
      | none => rw [hob] at hrow; cases hrow; cases hok
      | some ob =>
        rw [hob] at hrow
        cases ob with
        | map m => cases hrow; cases hok
        | dead =>
          simp only [Prod.mk.injEq] at hrow
          obtain ⟨h1, _, rfl⟩ := hrow
          simp only [rowB, Option.some.injEq] at hB
          rw [← h1, Bool.and_eq_true, Nat.beq_eq] at hok
          exact hempty hok.2 hB.symm
        | cells m e2 t =>
          simp only [Prod.mk.injEq] at hrow
          obtain ⟨h1, _, rfl⟩ := hrow
          rw [← h1] at hok
          simp only [Bool.and_eq_true, Nat.ble_eq] at hok
          cases hm : (m.drop o).take (n' * 1) with
          | nil =>
            have h0 : ((m.drop o).take (n' * 1)).length = 0 := by rw [hm]; rfl
            rw [List.length_take, List.length_drop] at h0
            rw [hm] at hB
            simp only [rowB, Option.some.injEq] at hB
            exact hempty (by omega) hB.symm
          | cons x y => rw [hm] at hB; cases hB
        | ints ik m e2 t =>
          simp only [Prod.mk.injEq] at hrow
          obtain ⟨h1, _, rfl⟩ := hrow
          rw [← h1] at hok
          simp only [std, Bool.and_eq_true, Nat.ble_eq] at hok
          have hik : ik = .u8 := by cases ik <;> first | rfl | (simp [rowB] at hB)
          subst hik
          simp only [std, rowB, Option.some.injEq] at hB
          have hln : l.length = n' := by rw [← hB, List.length_take, List.length_drop]; omega
          by_cases hn : n' = 0
          · exact hempty hn (List.length_eq_zero_iff.1 (by rw [hln, hn]))
          · have ho := ho (by omega)
            subst ho
            refine .inr (.inl ⟨c, o + d.1, k', by rw [toBs_length, hln], by rw [toBs_length, hln]; omega, hc, fun j hj => ?_⟩)
            rw [toBs_length, hln] at hj
            have hjm : o + j < m.length := by omega
            obtain ⟨u, hu, hvr⟩ := hr.load (i := o + j) (a := .int .u8 m[o + j]) hb hob (by simp only [AObj.at]; rw [List.getElem?_eq_getElem hjm]; rfl)
            simp only [VR] at hvr
            subst hvr
            rw [show o + d.1 + j = o + j + d.1 by omega, hu]
            have hlj : l[j]? = some m[o + j] := by rw [← hB, List.getElem?_take, if_pos (by omega), List.getElem?_drop, List.getElem?_eq_getElem hjm]
            have : (bI (toBs l)).getD j 0 = m[o + j] := by rw [bI_toBs l hby, List.getD_eq_getElem?_getD, hlj]; rfl
            rw [bI_getD] at this
            rw [this]
    all_goals (simp only [rowA, Prod.mk.injEq] at hrow; obtain ⟨h1, _⟩ := hrow; rw [← h1] at hok; cases hok)
/-- A slice of slices of bytes. -/
noncomputable def partsA (A : Ar) (By : List Int → Bool) (σ : AH) : List AV → Bool × List (List Int)
  | [] => (true, [])
  | v :: l => match bytesA A By σ v with
    | (ok, b) => match partsA A By σ l with
      | (ok', m) => (ok && ok', b :: m)
noncomputable def listA (A : Ar) (By : List Int → Bool) (σ : AH) (v : AV) : Bool × List (List Int) := match rowA A false 1 σ v with
  | (ok, _, r) => match r with
    | .cells l => match partsA A By σ l with
      | (ok', m) => (ok && ok' && v.sure, m)
    | _ => (false, [])
end Go.Proofs.YtljmigbpmcacnaaDoor.V2
namespace Go.Proofs.YtljmigbpmcacnaaDoor.V2
open Go
open Go.RowKit
theorem atV_get {vs : List Value} {j : Nat} {v : Value} (h : vs[j]? = some v) : atV vs j = v := by
  unfold atV; rw [List.getD_eq_getElem?_getD, h]; rfl
theorem parts_of {ρ : Ren} {σ : AH} {W : World} (hr : HR ρ σ W) : ∀ {l : List AV} {vs : List Value}, VRs ρ l vs → (partsA std byI σ l).1 = true → vs.length = ((partsA std byI σ l).2.map toBs).length ∧ ∀ j, j < vs.length → BSl W (atV vs j) (atP ((partsA std byI σ l).2.map toBs) j)
  | [], _, h, _ => by rw [show _ = [] from h]; exact ⟨rfl, fun j hj => by simp at hj⟩
  | a :: l, _, ⟨v, m, e, hv, hm⟩, hok => by
    subst e
    unfold partsA at hok ⊢
    have hB := fun h => bytes_of hr hv h
    have hL := fun h => parts_of hr hm h
    generalize bytesA std byI σ a = b at hok hB ⊢
    generalize partsA std byI σ l = q at hok hL ⊢
    obtain ⟨ok, b⟩ := b
    obtain ⟨ok', q⟩ := q
    simp only [Bool.and_eq_true] at hok hB hL ⊢
    obtain ⟨h1, h2⟩ := hL hok.2
    refine ⟨by simp [h1], fun j hj => ?_⟩
    cases j with
    | zero => exact (hB hok.1).1
    | succ j =>
      have := h2 j (by simpa using hj)
      simpa [atV, atP] using this
theorem list_of {ρ : Ren} {σ : AH} {W : World} (hr : HR ρ σ W) {s : AV} {v : Value} (hv : VR ρ s v) (hok : (listA std byI σ s).1 = true) : ∃ vs, PSl W v vs ((listA std byI σ s).2.map toBs) := by
  unfold listA at hok ⊢
  generalize hrow : rowA std false 1 σ s = row at hok ⊢
  obtain ⟨ok, n, r⟩ := row
  simp only at hok ⊢
  cases r with
  | ints k l => cases hok
  | cells l =>
    simp only at hok ⊢
    have hp := fun vs (h : VRs ρ l vs) => parts_of hr h
    generalize hpa : partsA std byI σ l = q at hok hp ⊢
    obtain ⟨ok', m⟩ := q
    simp only [Bool.and_eq_true] at hok hp ⊢
    obtain ⟨⟨hok, hok'⟩, hsu⟩ := hok
    cases s
    case nilsl =>
      simp only [VR] at hv
      simp only [rowA, Prod.mk.injEq, Row.cells.injEq] at hrow
      obtain ⟨_, _, rfl⟩ := hrow
      cases hpa
      subst hv
      exact ⟨[], ⟨rfl, .inl ⟨rfl, rfl⟩, fun j hj => by simp at hj⟩⟩
    case sl b o n' k e z =>
      obtain ⟨c, d, o', k', hb, rfl, ho, hnk, hk, _, _⟩ := (vr_sl hv).resolve_right (fun h => by obtain ⟨_, rfl, rfl, _⟩ := h; cases hsu)
      have hc := (hr.dom _ _ _ hb).2.1
      simp only [rowA] at hrow
      cases hob : σ.get b with
      | none => rw [hob] at hrow; cases hrow; cases hok
      | some ob =>
        rw [hob] at hrow
        cases ob with
        | map m => cases hrow; cases hok
        | ints ik m e2 t => simp at hrow
        | dead =>
          simp only [Prod.mk.injEq, Row.cells.injEq] at hrow
          obtain ⟨h1, _, rfl⟩ := hrow
          cases hpa
          rw [← h1, Bool.and_eq_true, Nat.beq_eq] at hok
          obtain rfl := hok.2
          exact ⟨[], ⟨rfl, .inr ⟨c, o', k', rfl, Nat.zero_le _, hc, fun j hj => by simp at hj⟩, fun j hj => by simp at hj⟩⟩
        | cells q e2 t =>
          simp only [Prod.mk.injEq, Row.cells.injEq] at hrow
          obtain ⟨h1, _, h2⟩ := hrow
          rw [← h1] at hok
          simp only [Bool.and_eq_true, Nat.ble_eq, Nat.mul_one] at hok h2
          by_cases hn : n' = 0
          · subst hn
            rw [List.take_zero] at h2
            subst h2
            cases hpa
            exact ⟨[], ⟨rfl, .inr ⟨c, o', k', rfl, Nat.zero_le _, hc, fun j hj => by simp at hj⟩, fun j hj => by simp at hj⟩⟩
          have ho := ho (by omega)
          subst ho
          have hll : l.length = n' := by rw [← h2, List.length_take, List.length_drop]; omega
          -- the values of the row
          have hex : ∀ j, j < n' → ∃ u, W.cell? ⟨c, o + d.1 + j, none⟩ = some u ∧ ∀ a, l[j]? = some a → VR ρ a u := fun j hj => by
            have hq : o + j < q.length := by omega
            obtain ⟨u, hu, hur⟩ := hr.load (i := o + j) (a := q[o + j]) hb hob (by simp only [AObj.at]; exact List.getElem?_eq_getElem hq)
            refine ⟨u, by rw [show o + d.1 + j = o + j + d.1 by omega]; exact hu, fun a ha => ?_⟩
            rw [← h2, List.getElem?_take, if_pos hj, List.getElem?_drop, List.getElem?_eq_getElem hq] at ha
            cases ha; exact hur
          obtain ⟨vs, hvl, hvs⟩ : ∃ vs : List Value, vs.length = n' ∧ ∀ j, j < n' → W.cell? ⟨c, o + d.1 + j, none⟩ = some (atV vs j) ∧ ∀ a, l[j]? = some a → VR ρ a (atV vs j) := by
            refine ⟨(List.range n').map fun j => (W.cell? ⟨c, o + d.1 + j, none⟩).getD undef, by simp, fun j hj => ?_⟩
            obtain ⟨u, hu, hua⟩ := hex j hj
            have : atV ((List.range n').map fun j => (W.cell? ⟨c, o + d.1 + j, none⟩).getD undef) j = u := atV_get (by simp [hj, hu])
            rw [this]; exact ⟨hu, hua⟩
          have hV : VRs ρ l vs := VRs.of l vs (by rw [hvl, hll]) fun j a ha => by
            have hj : j < n' := by rw [← hll]; exact (List.getElem?_eq_some_iff.1 ha).1
            refine ⟨atV vs j, ?_, (hvs j hj).2 a ha⟩
            unfold atV
            rw [List.getD_eq_getElem?_getD, List.getElem?_eq_getElem (by omega)]; rfl
          obtain ⟨p1, p2⟩ := hp vs hV hok'
          have hpl : (m.map toBs).length = n' := by rw [← p1, hvl]
          exact ⟨vs, ⟨p1, .inr ⟨c, o + d.1, k', by rw [hpl], by rw [hpl]; omega, hc, fun j hj => (hvs j (by rw [hpl] at hj; exact hj)).1⟩, fun j hj => p2 j (by rw [hpl] at hj; rw [hvl]; exact hj)⟩⟩
    all_goals (simp only [rowA, Prod.mk.injEq] at hrow; obtain ⟨h1, _⟩ := hrow; rw [← h1] at hok; cases hok)
end Go.Proofs.YtljmigbpmcacnaaDoor.V2
namespace Go.Proofs.YtljmigbpmcacnaaDoor.V2
open Go
open Go.RowKit
noncomputable def globA (σ : AH) (g : Nat) (t : List Int → Bool) : Bool := match σ.get g with
  | some ob => match ob with
    | .ints k l _ _ => match k with
      | .u32 => t l
      | _ => false
    | _ => false
  | none => false
theorem glob_of {ρ : Ren} {σ : AH} {W : World} (hr : HR ρ σ W) {g n : Nat} {T : List UInt32} {t : List Int → Bool} (ht : ∀ l, t l = true → l = wI T) (hn : T.length = n) (hg : ∃ s, ρ g = some (g, (0, s))) (h : globA σ g t = true) : ∀ i, i < n → W.cell? ⟨g, i, none⟩ = some (.int .u32 (N32 (at32 T i))) := by
  unfold globA at h
  split at h
  case h_2 => cases h
  rename_i ob hob
  split at h
  case h_2 => cases h
  rename_i k l e tl
  split at h
  case h_2 => cases h
  have hl := ht _ h
  subst hl
  obtain ⟨s, hs⟩ := hg
  intro i hi
  have hi2 : i < (wI T).length := by rw [wI_length, hn]; exact hi
  obtain ⟨u, hu, hur⟩ := hr.load (i := i) (a := .int .u32 (wI T)[i]) hs hob (by simp only [AObj.at]; rw [List.getElem?_eq_getElem hi2]; rfl)
  simp only [VR] at hur
  subst hur
  have hu : W.cell? ⟨g, i, none⟩ = _ := hu
  rw [hu]
  have := wI_getD T i
  rw [List.getD_eq_getElem?_getD, List.getElem?_eq_getElem hi2] at this
  rw [← this]; rfl
def isS (l : List Int) : Bool := decide (l = wI S0)
def isK (l : List Int) : Bool := decide (l = wI KK)
def hmI (k l : List Int) : List Int := bI (hmB (toBs k) (toBs l))
def catI (A : Ar) : List (List Int) → List Int
  | [] => []
  | [l] => l
  | l :: m => A.app l (catI A m)
theorem flatten_toBs (ps : List (List Int)) : (ps.map toBs).flatten = toBs ps.flatten := by
  unfold toBs
  induction ps with
  | nil => rfl
  | cons p ps ih => rw [List.map_cons, List.flatten_cons, List.flatten_cons, List.map_append, ih]
theorem vr_bytes {ρ : Ren} (l : List UInt8) : VR ρ (.ints .u8 (bI l)) (.agg (c8 l)) := by
  unfold VR bI c8 c8l
  rw [List.map_map]; rfl
theorem vrs_two {ρ : Ren} {a b : AV} {vs : List Value} (h : VRs ρ [a, b] vs) : ∃ v u, vs = [v, u] ∧ VR ρ a v ∧ VR ρ b u := by
  obtain ⟨v, m, rfl, hv, u, m', rfl, hu, hm⟩ := h
  have hm : m' = [] := hm
  subst hm; exact ⟨v, u, rfl, hv, hu⟩
def hk0 : List UInt8 := [115, 101, 99, 114, 101, 116]
def hk1 : List UInt8 := [210, 252, 13, 157, 203, 250, 190, 114, 126, 45, 185, 163, 178, 251, 56, 18, 167, 172, 187, 78, 57, 63, 249, 231, 140, 3, 74, 226, 124, 52, 37, 140]
def hk2 : List UInt8 := [206, 51, 121, 254, 194, 226, 11, 65, 230, 1, 124, 65, 192, 211, 217, 210, 102, 192, 175, 42, 184, 72, 150, 245, 146, 92, 42, 175, 38, 179, 94, 57]
def hm0 : List UInt8 := [0, 5, 104, 101, 108, 108, 111]
set_option maxRecDepth 100000 in
theorem hmac_0 : hmB hk0 hm0 = [210, 252, 13, 157, 203, 250, 190, 114, 126, 45, 185, 163, 178, 251, 56, 18, 167, 172, 187, 78, 57, 63, 249, 231, 140, 3, 74, 226, 124, 52, 37, 140] := by decide +kernel
def hm1 : List UInt8 := [1, 0, 0, 0, 0, 0, 0, 0, 0, 0, 0, 0, 0, 0, 0, 0, 0, 0, 0, 0, 0, 0, 21, 0, 0, 0, 0, 0, 0, 0, 1, 0, 0, 0, 0, 0, 0, 0, 0, 0, 0, 0, 1, 0]
set_option maxRecDepth 100000 in
theorem hmac_1 : hmB hk1 hm1 = [100, 68, 137, 14, 254, 247, 242, 219, 58, 8, 226, 36, 30, 23, 46, 25, 196, 239, 234, 87, 209, 199, 154, 204, 161, 49, 160, 57, 116, 3, 125, 200] := by decide +kernel
def hm2 : List UInt8 := [5, 0, 0, 0, 0, 0, 0, 0, 0, 0, 0, 0, 0, 0, 0, 0, 0, 0, 0, 0, 0, 0, 8, 0, 0, 0, 0, 0, 0, 0, 1]
set_option maxRecDepth 100000 in
theorem hmac_2 : hmB hk1 hm2 = [239, 233, 249, 54, 45, 245, 78, 205, 13, 120, 101, 121, 204, 162, 72, 108, 105, 159, 132, 63, 249, 45, 202, 1, 187, 22, 170, 108, 244, 46, 227, 41] := by decide +kernel
def hm3 : List UInt8 := [1, 0, 0, 0, 0, 0, 0, 0, 0, 0, 0, 0, 0, 0, 0, 0, 0, 0, 0, 0, 0, 0, 21, 0, 0, 0, 0, 0, 0, 0, 2, 0, 0, 0, 0, 0, 0, 0, 0, 0, 0, 0, 1, 0]
set_option maxRecDepth 100000 in
theorem hmac_3 : hmB hk1 hm3 = [177, 249, 212, 143, 80, 172, 7, 185, 30, 181, 174, 159, 23, 217, 188, 138, 36, 130, 195, 60, 129, 190, 181, 22, 188, 116, 156, 231, 255, 29, 28, 116] := by decide +kernel
def hm4 : List UInt8 := [0, 5, 116, 111, 107, 101, 110]
set_option maxRecDepth 100000 in
theorem hmac_4 : hmB hk0 hm4 = [206, 51, 121, 254, 194, 226, 11, 65, 230, 1, 124, 65, 192, 211, 217, 210, 102, 192, 175, 42, 184, 72, 150, 245, 146, 92, 42, 175, 38, 179, 94, 57] := by decide +kernel
def hm5 : List UInt8 := [0, 0, 0, 5, 0, 0, 0, 1]
set_option maxRecDepth 100000 in
theorem hmac_5 : hmB hk2 hm5 = [104, 25, 250, 135, 93, 173, 149, 160, 86, 194, 94, 112, 96, 218, 101, 209, 45, 12, 19, 234, 122, 254, 189, 136, 144, 124, 97, 13, 26, 212, 247, 10] := by decide +kernel
def hm6 : List UInt8 := [2, 0, 0, 0, 5, 0, 0, 0, 1, 0, 0, 0, 0, 0, 0, 0, 0, 0, 0, 0, 0, 0, 28, 0, 0, 0, 0, 0, 0, 0, 2, 0, 0, 0, 0, 0, 0, 0, 7, 104, 25, 250, 135, 93, 173, 149, 160, 0, 0, 0, 0]
set_option maxRecDepth 100000 in
theorem hmac_6 : hmB hk1 hm6 = [111, 166, 183, 30, 106, 12, 204, 204, 3, 251, 228, 221, 233, 88, 212, 170, 122, 240, 134, 49, 191, 105, 83, 119, 110, 149, 98, 181, 15, 193, 3, 198] := by decide +kernel
def hm7 : List UInt8 := [0, 3, 119, 97, 121, 0, 0, 0, 1, 0, 0, 0, 0, 4, 0, 0, 0, 5, 0, 0, 0, 4, 0, 0, 0, 1, 0, 0, 0, 8, 0, 0, 0, 0, 0, 0, 0, 2, 0, 0, 0, 8, 0, 0, 0, 0, 0, 0, 0, 7]
set_option maxRecDepth 100000 in
theorem hmac_7 : hmB hk0 hm7 = [94, 97, 61, 16, 23, 239, 30, 211, 30, 103, 194, 201, 190, 181, 217, 176, 5, 42, 142, 225, 27, 33, 44, 171, 185, 158, 161, 76, 174, 64, 38, 125] := by decide +kernel
def hm8 : List UInt8 := [0, 3, 119, 97, 121, 0, 0, 0, 1, 1, 0, 0, 0, 4, 0, 0, 0, 5, 0, 0, 0, 4, 0, 0, 0, 1, 0, 0, 0, 8, 0, 0, 0, 0, 0, 0, 0, 2, 0, 0, 0, 8, 0, 0, 0, 0, 0, 0, 0, 7]
set_option maxRecDepth 100000 in
theorem hmac_8 : hmB hk0 hm8 = [85, 166, 20, 117, 95, 76, 113, 104, 176, 180, 113, 190, 181, 122, 118, 183, 52, 249, 19, 115, 145, 35, 189, 176, 250, 220, 8, 125, 63, 33, 249, 202] := by decide +kernel
def hm9 : List UInt8 := [5, 0, 0, 0, 0, 0, 0, 0, 0, 0, 0, 0, 0, 0, 0, 0, 0, 0, 0, 0, 0, 0, 8, 0, 0, 0, 0, 0, 0, 0, 2]
set_option maxRecDepth 100000 in
theorem hmac_9 : hmB hk1 hm9 = [51, 84, 130, 219, 145, 237, 25, 39, 222, 56, 145, 198, 253, 112, 151, 194, 99, 48, 154, 198, 68, 36, 213, 164, 47, 12, 218, 113, 169, 197, 88, 98] := by decide +kernel
def hm10 : List UInt8 := [2, 0, 0, 0, 5, 0, 0, 0, 1, 0, 0, 0, 0, 0, 0, 0, 0, 0, 0, 0, 0, 0, 28, 0, 0, 0, 0, 0, 0, 0, 1, 0, 0, 0, 0, 0, 0, 0, 2, 104, 25, 250, 135, 93, 173, 149, 160, 0, 0, 0, 0]
set_option maxRecDepth 100000 in
theorem hmac_10 : hmB hk1 hm10 = [234, 101, 110, 134, 246, 80, 199, 83, 244, 146, 38, 251, 92, 13, 58, 146, 66, 170, 179, 40, 238, 170, 149, 141, 209, 170, 84, 236, 93, 139, 226, 77] := by decide +kernel
def hm11 : List UInt8 := [0, 3, 119, 97, 121, 0, 0, 0, 1, 0, 0, 0, 0, 4, 0, 0, 0, 5, 0, 0, 0, 4, 0, 0, 0, 1, 0, 0, 0, 8, 0, 0, 0, 0, 0, 0, 0, 1, 0, 0, 0, 8, 0, 0, 0, 0, 0, 0, 0, 2]
set_option maxRecDepth 100000 in
theorem hmac_11 : hmB hk0 hm11 = [71, 69, 7, 227, 221, 138, 232, 178, 10, 162, 63, 30, 36, 106, 247, 223, 182, 44, 31, 116, 112, 94, 190, 197, 130, 251, 1, 208, 153, 108, 54, 201] := by decide +kernel
def hm12 : List UInt8 := [0, 3, 119, 97, 121, 0, 0, 0, 1, 1, 0, 0, 0, 4, 0, 0, 0, 5, 0, 0, 0, 4, 0, 0, 0, 1, 0, 0, 0, 8, 0, 0, 0, 0, 0, 0, 0, 1, 0, 0, 0, 8, 0, 0, 0, 0, 0, 0, 0, 2]
set_option maxRecDepth 100000 in
theorem hmac_12 : hmB hk0 hm12 = [19, 71, 233, 209, 199, 150, 33, 185, 84, 33, 137, 47, 120, 194, 234, 73, 36, 97, 113, 219, 161, 112, 74, 35, 51, 125, 85, 134, 110, 15, 78, 226] := by decide +kernel
def hmT (k l : List Int) : List Int := bif decide (l = bI hm0) && decide (k = bI hk0) then bI ([210, 252, 13, 157, 203, 250, 190, 114, 126, 45, 185, 163, 178, 251, 56, 18, 167, 172, 187, 78, 57, 63, 249, 231, 140, 3, 74, 226, 124, 52, 37, 140]) else bif decide (l = bI hm1) && decide (k = bI hk1) then bI ([100, 68, 137, 14, 254, 247, 242, 219, 58, 8, 226, 36, 30, 23, 46, 25, 196, 239, 234, 87, 209, 199, 154, 204, 161, 49, 160, 57, 116, 3, 125, 200]) else bif decide (l = bI hm2) && decide (k = bI hk1) then bI ([239, 233, 249, 54, 45, 245, 78, 205, 13, 120, 101, 121, 204, 162, 72, 108, 105, 159, 132, 63, 249, 45, 202, 1, 187, 22, 170, 108, 244, 46, 227, 41]) else bif decide (l = bI hm3) && decide (k = bI hk1) then bI ([177, 249, 212, 143, 80, 172, 7, 185, 30, 181, 174, 159, 23, 217, 188, 138, 36, 130, 195, 60, 129, 190, 181, 22, 188, 116, 156, 231, 255, 29, 28, 116]) else bif decide (l = bI hm4) && decide (k = bI hk0) then bI ([206, 51, 121, 254, 194, 226, 11, 65, 230, 1, 124, 65, 192, 211, 217, 210, 102, 192, 175, 42, 184, 72, 150, 245, 146, 92, 42, 175, 38, 179, 94, 57]) else bif decide (l = bI hm5) && decide (k = bI hk2) then bI ([104, 25, 250, 135, 93, 173, 149, 160, 86, 194, 94, 112, 96, 218, 101, 209, 45, 12, 19, 234, 122, 254, 189, 136, 144, 124, 97, 13, 26, 212, 247, 10]) else bif decide (l = bI hm6) && decide (k = bI hk1) then bI ([111, 166, 183, 30, 106, 12, 204, 204, 3, 251, 228, 221, 233, 88, 212, 170, 122, 240, 134, 49, 191, 105, 83, 119, 110, 149, 98, 181, 15, 193, 3, 198]) else bif decide (l = bI hm7) && decide (k = bI hk0) then bI ([94, 97, 61, 16, 23, 239, 30, 211, 30, 103, 194, 201, 190, 181, 217, 176, 5, 42, 142, 225, 27, 33, 44, 171, 185, 158, 161, 76, 174, 64, 38, 125]) else bif decide (l = bI hm8) && decide (k = bI hk0) then bI ([85, 166, 20, 117, 95, 76, 113, 104, 176, 180, 113, 190, 181, 122, 118, 183, 52, 249, 19, 115, 145, 35, 189, 176, 250, 220, 8, 125, 63, 33, 249, 202]) else bif decide (l = bI hm9) && decide (k = bI hk1) then bI ([51, 84, 130, 219, 145, 237, 25, 39, 222, 56, 145, 198, 253, 112, 151, 194, 99, 48, 154, 198, 68, 36, 213, 164, 47, 12, 218, 113, 169, 197, 88, 98]) else bif decide (l = bI hm10) && decide (k = bI hk1) then bI ([234, 101, 110, 134, 246, 80, 199, 83, 244, 146, 38, 251, 92, 13, 58, 146, 66, 170, 179, 40, 238, 170, 149, 141, 209, 170, 84, 236, 93, 139, 226, 77]) else bif decide (l = bI hm11) && decide (k = bI hk0) then bI ([71, 69, 7, 227, 221, 138, 232, 178, 10, 162, 63, 30, 36, 106, 247, 223, 182, 44, 31, 116, 112, 94, 190, 197, 130, 251, 1, 208, 153, 108, 54, 201]) else bif decide (l = bI hm12) && decide (k = bI hk0) then bI ([19, 71, 233, 209, 199, 150, 33, 185, 84, 33, 137, 47, 120, 194, 234, 73, 36, 97, 113, 219, 161, 112, 74, 35, 51, 125, 85, 134, 110, 15, 78, 226]) else []
theorem hmT_ok {k l : List Int} (h : hmT k l ≠ []) : hmT k l = hmI k l := by
  unfold hmT at h ⊢
  unfold hmI
  by_cases h0 : l = bI hm0 ∧ k = bI hk0
  · rw [decide_eq_true h0.1, decide_eq_true h0.2, Bool.and_true, cond_true, h0.1, h0.2, toBs_bI, toBs_bI, hmac_0]
  · have e0 : (decide (l = bI hm0) && decide (k = bI hk0)) = false := by rw [Bool.and_eq_false_iff, decide_eq_false_iff_not, decide_eq_false_iff_not]; exact Decidable.not_and_iff_or_not.1 h0
    rw [e0, cond_false] at h ⊢
    by_cases h1 : l = bI hm1 ∧ k = bI hk1
    · rw [decide_eq_true h1.1, decide_eq_true h1.2, Bool.and_true, cond_true, h1.1, h1.2, toBs_bI, toBs_bI, hmac_1]
    · have e1 : (decide (l = bI hm1) && decide (k = bI hk1)) = false := by rw [Bool.and_eq_false_iff, decide_eq_false_iff_not, decide_eq_false_iff_not]; exact Decidable.not_and_iff_or_not.1 h1
      rw [e1, cond_false] at h ⊢
      by_cases h2 : l = bI hm2 ∧ k = bI hk1
      · rw [decide_eq_true h2.1, decide_eq_true h2.2, Bool.and_true, cond_true, h2.1, h2.2, toBs_bI, toBs_bI, hmac_2]
      · have e2 : (decide (l = bI hm2) && decide (k = bI hk1)) = false := by rw [Bool.and_eq_false_iff, decide_eq_false_iff_not, decide_eq_false_iff_not]; exact Decidable.not_and_iff_or_not.1 h2
        rw [e2, cond_false] at h ⊢
        by_cases h3 : l = bI hm3 ∧ k = bI hk1
        · rw [decide_eq_true h3.1, decide_eq_true h3.2, Bool.and_true, cond_true, h3.1, h3.2, toBs_bI, toBs_bI, hmac_3]
        · have e3 : (decide (l = bI hm3) && decide (k = bI hk1)) = false := by rw [Bool.and_eq_false_iff, decide_eq_false_iff_not, decide_eq_false_iff_not]; exact Decidable.not_and_iff_or_not.1 h3
          rw [e3, cond_false] at h ⊢
          by_cases h4 : l = bI hm4 ∧ k = bI hk0
          · rw [decide_eq_true h4.1, decide_eq_true h4.2, Bool.and_true, cond_true, h4.1, h4.2, toBs_bI, toBs_bI, hmac_4]
          · have e4 : (decide (l = bI hm4) && decide (k = bI hk0)) = false := by rw [Bool.and_eq_false_iff, decide_eq_false_iff_not, decide_eq_false_iff_not]; exact Decidable.not_and_iff_or_not.1 h4
            rw [e4, cond_false] at h ⊢
            by_cases h5 : l = bI hm5 ∧ k = bI hk2
            · rw [decide_eq_true h5.1, decide_eq_true h5.2, Bool.and_true, cond_true, h5.1, h5.2, toBs_bI, toBs_bI, hmac_5]
            · have e5 : (decide (l = bI hm5) && decide (k = bI hk2)) = false := by rw [Bool.and_eq_false_iff, decide_eq_false_iff_not, decide_eq_false_iff_not]; exact Decidable.not_and_iff_or_not.1 h5
              rw [e5, cond_false] at h ⊢
              by_cases h6 : l = bI hm6 ∧ k = bI hk1
              · rw [decide_eq_true h6.1, decide_eq_true h6.2, Bool.and_true, cond_true, h6.1, h6.2, toBs_bI, toBs_bI, hmac_6]
              · have e6 : (decide (l = bI hm6) && decide (k = bI hk1)) = false := by rw [Bool.and_eq_false_iff, decide_eq_false_iff_not, decide_eq_false_iff_not]; exact Decidable.not_and_iff_or_not.1 h6
                rw [e6, cond_false] at h ⊢
                by_cases h7 : l = bI hm7 ∧ k = bI hk0
                · rw [decide_eq_true h7.1, decide_eq_true h7.2, Bool.and_true, cond_true, h7.1, h7.2, toBs_bI, toBs_bI, hmac_7]
                · have e7 : (decide (l = bI hm7) && decide (k = bI hk0)) = false := by rw [Bool.and_eq_false_iff, decide_eq_false_iff_not, decide_eq_false_iff_not]; exact Decidable.not_and_iff_or_not.1 h7
                  rw [e7, cond_false] at h ⊢
                  by_cases h8 : l = bI hm8 ∧ k = bI hk0
                  · rw [decide_eq_true h8.1, decide_eq_true h8.2, Bool.and_true, cond_true, h8.1, h8.2, toBs_bI, toBs_bI, hmac_8]
                  · have e8 : (decide (l = bI hm8) && decide (k = bI hk0)) = false := by rw [Bool.and_eq_false_iff, decide_eq_false_iff_not, decide_eq_false_iff_not]; exact Decidable.not_and_iff_or_not.1 h8
                    rw [e8, cond_false] at h ⊢
                    by_cases h9 : l = bI hm9 ∧ k = bI hk1
                    · rw [decide_eq_true h9.1, decide_eq_true h9.2, Bool.and_true, cond_true, h9.1, h9.2, toBs_bI, toBs_bI, hmac_9]
                    · have e9 : (decide (l = bI hm9) && decide (k = bI hk1)) = false := by rw [Bool.and_eq_false_iff, decide_eq_false_iff_not, decide_eq_false_iff_not]; exact Decidable.not_and_iff_or_not.1 h9
                      rw [e9, cond_false] at h ⊢
                      by_cases h10 : l = bI hm10 ∧ k = bI hk1
                      · rw [decide_eq_true h10.1, decide_eq_true h10.2, Bool.and_true, cond_true, h10.1, h10.2, toBs_bI, toBs_bI, hmac_10]
                      · have e10 : (decide (l = bI hm10) && decide (k = bI hk1)) = false := by rw [Bool.and_eq_false_iff, decide_eq_false_iff_not, decide_eq_false_iff_not]; exact Decidable.not_and_iff_or_not.1 h10
                        rw [e10, cond_false] at h ⊢
                        by_cases h11 : l = bI hm11 ∧ k = bI hk0
                        · rw [decide_eq_true h11.1, decide_eq_true h11.2, Bool.and_true, cond_true, h11.1, h11.2, toBs_bI, toBs_bI, hmac_11]
                        · have e11 : (decide (l = bI hm11) && decide (k = bI hk0)) = false := by rw [Bool.and_eq_false_iff, decide_eq_false_iff_not, decide_eq_false_iff_not]; exact Decidable.not_and_iff_or_not.1 h11
                          rw [e11, cond_false] at h ⊢
                          by_cases h12 : l = bI hm12 ∧ k = bI hk0
                          · rw [decide_eq_true h12.1, decide_eq_true h12.2, Bool.and_true, cond_true, h12.1, h12.2, toBs_bI, toBs_bI, hmac_12]
                          · have e12 : (decide (l = bI hm12) && decide (k = bI hk0)) = false := by rw [Bool.and_eq_false_iff, decide_eq_false_iff_not, decide_eq_false_iff_not]; exact Decidable.not_and_iff_or_not.1 h12
                            rw [e12, cond_false] at h ⊢
                            exact absurd rfl h
/-- The contract of Hmac. -/
noncomputable def Γh : Gam := fun f args σ =>
  bif Nat.beq f 69 then (match args with
    | [k, s] => match bytesA std byI σ k with
      | (ok1, kl) => match listA std byI σ s with
        | (ok, ps) => (ok1 && ok && Nat.ble kl.length 10000000000 && Nat.ble ps.length 1000000 && Nat.ble ps.flatten.length 10000000000 && globA σ 2 isS && globA σ 3 isK && !(hmT kl ps.flatten).isEmpty, .ints .u8 (hmT kl ps.flatten), σ)
    | _ => bad σ)
  else bad σ
theorem gamh_ok : GamOk Tryd.prog 4 Γh := by
  have isS' : ∀ l, isS l = true → l = wI S0 := fun l h => by simpa [isS] using h
  have isK' : ∀ l, isK l = true → l = wI KK := fun l h => by simpa [isK] using h
  intro f args σ h
  unfold Γh at h ⊢
  cases h14 : Nat.beq f 69
  case false => rw [h14] at h; cases h
  rw [h14] at h
  have e := Nat.eq_of_beq_eq_true h14
  subst e
  simp only [cond_true] at h ⊢
  split at h
  case h_2 => cases h
  rename_i k s
  refine ⟨⟨_, Tryd.func69, by kernel_rfl, by kernel_rfl⟩, fun ρ W vs hG hr hvs => ?_⟩
  obtain ⟨u, v, rfl, hu, hv⟩ := vrs_two hvs
  have hB := fun h => bytes_of hr hu h
  have hL := fun h => list_of hr hv h
  dsimp only at h ⊢
  generalize bytesA std byI σ k = q1 at h hB ⊢
  generalize listA std byI σ s = q at h hL ⊢
  obtain ⟨ok1, kl⟩ := q1
  obtain ⟨ok, ps⟩ := q
  simp only [Bool.and_eq_true, Nat.ble_eq] at h hB hL ⊢
  obtain ⟨⟨⟨⟨⟨⟨⟨h0, h1⟩, h2⟩, h2'⟩, h3⟩, h4⟩, h5⟩, h6⟩ := h
  obtain ⟨us, hP⟩ := hL h1
  have h7 : hmT kl ps.flatten ≠ [] := by
    intro e
    rw [e] at h6
    cases h6
  rw [hmT_ok h7]
  obtain ⟨s3, hs3⟩ := hG 3 (by decide)
  refine (hmac_any u v (toBs kl) us _ W (hB h0).1 (by rw [toBs_length]; exact h2) hP (by rw [List.length_map]; omega) (by rw [flatten_toBs, toBs_length]; omega) (glob_of hr isK' rfl (hG 3 (by decide)) h5) (glob_of hr isS' rfl (hG 2 (by decide)) h4) (hr.dom _ _ _ hs3).2.1).mono fun e W' ⟨e1, e2⟩ => ?_
  subst e1
  rw [flatten_toBs]
  exact ⟨_, ρ, rfl, hr.below e2, Stp.below (Nat.le_refl _) e2, vr_bytes _⟩
end Go.Proofs.YtljmigbpmcacnaaDoor.V2
namespace Go.Proofs.YtljmigbpmcacnaaDoor.V2
open Go
open Go.RowKit
theorem cell_row {w : World} {b i : Nat} {v : Value} (h : w.cell? ⟨b, i, none⟩ = some v) : ∃ c e fr, w.heap[b]? = some (.cells c e fr) ∧ c[i]? = some v := by
  unfold World.cell? at h
  split at h
  · rename_i c e fr hh
    exact ⟨c, e, fr, hh, by simpa using h⟩
  · cases h
noncomputable def memL : List AObj → Nat → T AObj → T AObj
  | [], _, t => t
  | a :: l, i, t => memL l (i + 1) (t.put i a)
theorem memL_get : ∀ (l : List AObj) (i : Nat) (t : T AObj) (m : Nat), i + l.length ≤ 1048576 → (memL l i t).get m = if i ≤ m ∧ m < i + l.length then l[m - i]? else t.get m
  | [], i, t, m, _ => by rw [if_neg (by intro h; simp at h; omega)]; rfl
  | a :: l, i, t, m, h => by
    simp only [List.length_cons] at h
    show (memL l (i + 1) (t.put i a)).get m = _
    rw [memL_get l (i + 1) _ m (by omega), T.get_put _ _ _ _ (by omega)]
    by_cases h1 : i + 1 ≤ m ∧ m < i + 1 + l.length
    · rw [if_pos h1, if_pos (by simp; omega), show m - i = (m - (i + 1)) + 1 by omega, List.getElem?_cons_succ]
    · rw [if_neg h1]
      by_cases hm : m = i
      · subst hm; rw [if_pos rfl, if_pos (by simp)]; simp
      · rw [if_neg hm, if_neg (by simp; omega)]
noncomputable def hL (l : List AObj) : AH := ⟨l.length, memL l 0 .leaf⟩
theorem hL_get {l : List AObj} (h : l.length ≤ 1000000) (b : Nat) : (hL l).get b = l[b]? := by
  show (memL l 0 .leaf).get b = _
  rw [memL_get _ _ _ _ (by omega), T.get_leaf]
  by_cases hb : b < l.length
  · rw [if_pos (by omega)]; simp
  · rw [if_neg (by omega), List.getElem?_eq_none (by omega)]
def rL (l : List (Option (Nat × (Nat × Nat)))) : Ren := fun b => (l[b]?).getD none
theorem hr_ro {w : World} {l : List AObj} {r : List (Option (Nat × (Nat × Nat)))} (hl : l.length ≤ 1000000) (hlr : r.length = l.length) (hro : ∀ o ∈ l, o.isRo = true)
    (h : ∀ (b c : Nat) (d : Nat × Nat) (o : AObj), r[b]? = some (some (c, d)) → l[b]? = some o → c < w.heap.size ∧ OR (rL r) d o w.heap[c]?) : HR (rL r) (hL l) w := by
  have hlt : ∀ {b x}, rL r b = some x → b < l.length := fun {b x} hb => by
    unfold rL at hb
    rw [← hlr]
    cases hq : r[b]? with
    | none => rw [hq] at hb; cases hb
    | some y => exact (List.getElem?_eq_some_iff.1 hq).1
  refine ⟨hl, fun b hb => ?_, fun b c d hb => ?_, fun b b' c d d' h1 h2 hne => ?_⟩
  · rw [hL_get hl, List.getElem?_eq_none hb]
  · have hbl := hlt hb
    have hb2 : r[b]? = some (some (c, d)) := by
      unfold rL at hb
      cases hq : r[b]? with
      | none => rw [hq] at hb; cases hb
      | some y => rw [hq] at hb; exact congrArg some hb
    obtain ⟨e1, e2⟩ := h b c d l[b] hb2 (List.getElem?_eq_getElem hbl)
    exact ⟨hbl, e1, _, (hL_get hl b).trans (List.getElem?_eq_getElem hbl), e2⟩
  · have k1 := hlt h1
    have k2 := hlt h2
    exact .inr (.inr ⟨l[b], l[b'], (hL_get hl b).trans (List.getElem?_eq_getElem k1), (hL_get hl b').trans (List.getElem?_eq_getElem k2), hro _ (List.getElem_mem k1), hro _ (List.getElem_mem k2)⟩)
theorem or_ro {ρ : Ren} {w : World} {b off D : Nat} {k : IntKind} {l : List Int} {e : TypeId} (hD : l.length + off ≤ D) (h : ∀ i, i < l.length → w.cell? ⟨b, off + i, none⟩ = some (.int k (l.getD i 0))) : OR ρ (off, D) (.ints k l e .ro) w.heap[b]? := ⟨fun _ => by
  refine ⟨hD, fun hl => ?_⟩
  have hl : 0 < l.length := hl rfl
  obtain ⟨c, t, fr, hb, _⟩ := cell_row (h 0 hl)
  have hat : ∀ i, i < l.length → c[i + off]? = some (.int k (l.getD i 0)) := fun i hi => by
    obtain ⟨c', t', fr', hb', hc⟩ := cell_row (h i hi)
    rw [hb] at hb'; cases hb'
    rw [Nat.add_comm]; exact hc
  refine ⟨c, t, fr, hb, (fun hh => by cases hh), ?_, hD, fun i a hi => ?_⟩
  · have := (Array.getElem?_eq_some_iff.1 (hat (l.length - 1) (by omega))).1
    show l.length + off ≤ c.size
    omega
  · simp only [AObj.at, Option.map_eq_some_iff] at hi
    obtain ⟨m, hm, rfl⟩ := hi
    have hil := (List.getElem?_eq_some_iff.1 hm).1
    refine ⟨_, hat i hil, ?_⟩
    show Value.int k (l.getD i 0) = Value.int k m
    rw [List.getD_eq_getElem?_getD, hm]; rfl, fun l e => by cases e⟩
theorem Below.ofStp {ρ' : Ren} {l : List AObj} {r : List (Option (Nat × (Nat × Nat)))} {w W' : World} {σ' : AH} (hl : l.length ≤ 1000000) (hr : HR (rL r) (hL l) w) (hro : ∀ o ∈ l, o.isRo = true) (h : Stp (hL l).next (rL r) (hL l) w ρ' σ' W') : Below w.heap.size w W' := by
  refine ⟨h.os, h.tape, h.output, h.size, fun c hc => ?_⟩
  by_cases hm : ∃ b d, rL r b = some (c, d)
  · obtain ⟨b, d, hm⟩ := hm
    obtain ⟨k1, k2, o, k3, k4⟩ := hr.dom b c d hm
    have k5 : l[b]? = some o := by rw [← hL_get hl]; exact k3
    exact (h.ro b c d o k1 hm hc k3 (hro o (List.mem_of_getElem? k5))).2
  · exact h.frame c hc fun b d h => hm ⟨b, d, h⟩
def RR.kind : RR → Nat
  | .bad => 0
  | .ok e _ _ => match e with
    | .normal => 1
    | .ret => 2
    | .exit _ => 3
noncomputable def RR.env : RR → T AV
  | .bad => .leaf
  | .ok _ e _ => e
noncomputable def RR.mem : RR → AH
  | .bad => ⟨0, .leaf⟩
  | .ok _ _ σ => σ
theorem RR.normal {r : RR} (h : r.kind = 1) : r = .ok .normal r.env r.mem := by
  cases r with
  | bad => cases h
  | ok e env σ => cases e <;> first | rfl | cases h
theorem RR.ret {r : RR} (h : r.kind = 2) : r = .ok .ret r.env r.mem := by
  cases r with
  | bad => cases h
  | ok e env σ => cases e <;> first | rfl | cases h
section
variable {P : Program} {Γ : Gam} {G nt N : Nat} {ρ : Ren} {σ : AH} {W : World} {env : T AV} {a : Act} {K : AK}
theorem calls_of_aq {f : FuncId} {fn : Func} {c : Code} {xs : List ARes} {vs : List Value} {K : AV → AH → Prop} (hf : P.funcs[f]? = some fn) (hb : fn.body = some c) (hres : compR P fn.results.toList = some xs)
    (h : c.wp P (AQ G fn.ntmps σ.next W.heap.size ρ σ W (fun e env σ' => (match e with | .normal => True | .ret => True | _ => False) ∧ (resL std env σ' xs).1 = true ∧ K (retV (resL std env σ' xs).2) σ')) { tmps := vs.toArray ++ Array.replicate (fn.ntmps - vs.toArray.size) undef, defers := [] } W) :
    Calls P f vs.toArray W fun e W' => ∃ v av σ' ρ', e = .returned v ∧ K av σ' ∧ HR ρ' σ' W' ∧ Stp σ.next ρ σ W ρ' σ' W' ∧ VR ρ' av v := by
  refine callsIn_wide.1 (callsIn_of_wp_marks (n := 0) hf hb trivial (wpIn_wide.2 (wp_mono h fun e a W' ⟨ρ', env', σ', ⟨h1, h2, h3⟩, h4, h5, h6, h7, h8⟩ => ?_)))
  have key := leaves_marks (P := P) (R := fun e W' => ∃ v av σ' ρ', e = .returned v ∧ K av σ' ∧ HR ρ' σ' W' ∧ Stp σ.next ρ σ W ρ' σ' W' ∧ VR ρ' av v) (fn := fn) (tmps := a.tmps) (fun W2 k1 k2 => by
    obtain ⟨v, e1, e2⟩ := results_run (P := P) k1 h5 hres h2
    exact ⟨v, e1, v, _, σ', ρ', rfl, h3, k1, k2, e2⟩) a.defers W' h7 h8 h4 h6
  cases e
  case normal => exact key
  case ret => exact key
  all_goals exact h1.elim
end
/-- So many statements of a code, what stands behind them. -/
def cdD : Nat → Code → Code
  | 0, .seq _ b => b
  | n + 1, .seq _ b => cdD n b
  | _, c => c
def aT : Nat → ACode → ACode
  | 0, .seq a _ => a
  | n + 1, .seq a b => .seq a (aT n b)
  | _, _ => .bad
def aD : Nat → ACode → ACode
  | 0, .seq _ b => b
  | n + 1, .seq _ b => aD n b
  | _, _ => .bad
/-- What a code does in every world that a memory and an environment tell of. -/
def Good (P : Program) (G nt N B : Nat) (ρ0 : Ren) (σ0 : AH) (W0 : World) (Q : Exit → Act → World → Prop) (env : T AV) (σ : AH) (c : Code) : Prop :=
  ∀ ρ W a, HR ρ σ W → ER G nt ρ env a → Stp N ρ0 σ0 W0 ρ σ W → (Mks ρ W a.defers ∧ ∀ r, dmark r ∈ a.defers → B ≤ r) → c.wp P Q a W
theorem Good.wk {P : Program} {G nt N B : Nat} {ρ0 : Ren} {σ0 : AH} {W0 : World} {Q : Exit → Act → World → Prop} {env env' : T AV} {σ σ' : AH} {c : Code} (h : Wk G nt N env σ env' σ') (g : Good P G nt N B ρ0 σ0 W0 Q env' σ' c) : Good P G nt N B ρ0 σ0 W0 Q env σ c := fun ρ W a hr he hs hd => by
  obtain ⟨ρ', h1, h2, h3, h4, h5, h6⟩ := h ρ W hr
  exact g ρ' W a h1 (h2 a he) (hs.weak h3 h4 h5 h6) ⟨hd.1.weak h4, hd.2⟩
theorem RR.next_nm {r : RR} {f : T AV → AH → RR} {env : T AV} {σ : AH} (h : r.next f = .ok .normal env σ) : ∃ e1 s1, r = .ok .normal e1 s1 ∧ f e1 s1 = .ok .normal env σ := by
  cases r with
  | bad => cases h
  | ok e e1 s1 => cases e <;> first | exact ⟨e1, s1, rfl, h⟩ | cases h
section
variable {P : Program} {Γ : Gam} {pu : FuncId → Bool} {G nt N B fuel : Nat} {ρ0 : Ren} {σ0 : AH} {W0 : World} {Q : Exit → Act → World → Prop}
theorem compC_seq {c : Code} {x' y' : ACode} (h : compC P G nt pu c = some (.seq x' y')) : ∃ x y, c = .seq x y ∧ compC P G nt pu x = some x' ∧ compC P G nt pu y = some y' := by
  unfold compC at h
  split at h
  case h_4 x y =>
    split at h
    · cases h
    · rename_i a ha
      split at h
      · cases h
      · rename_i b hb
        cases h
        exact ⟨x, y, rfl, ha, hb⟩
  all_goals first | (cases h; done) | (split at h <;> first | (cases h; done) | (split at h <;> cases h; done))
theorem Good.one (hB0 : B ≤ W0.heap.size) (hm : P.follows .mixedOrders = true) (hΓ : GamOk P G Γ) (hpu : PuOk Γ pu) {x y : Code} {x' : ACode} {env env1 : T AV} {σ σ1 : AH} (hx : compC P G nt pu x = some x') (hrun : run std Γ N fuel x' env σ = .ok .normal env1 σ1)
    (g : Good P G nt N B ρ0 σ0 W0 Q env1 σ1 y) : Good P G nt N B ρ0 σ0 W0 Q env σ (.seq x y) := fun ρ W a hr he hs hd =>
  wp_seq (wp_mono (avc_sound hB0 hm hΓ hpu x x' hx (fun e e' s' => e = .normal ∧ e' = env1 ∧ s' = σ1) env σ ρ W a (run_avc x' _ _ _ .normal env1 σ1 hrun ⟨rfl, rfl, rfl⟩) hr he hs hd) fun e a1 W1 ⟨ρ1, env2, σ2, ⟨q1, q2, q3⟩, p1, p2, p3, p4⟩ => by
    subst q1 q2 q3
    exact g ρ1 W1 a1 p1 p2 p3 p4)
theorem Good.cut (hB0 : B ≤ W0.heap.size) (hm : P.follows .mixedOrders = true) (hΓ : GamOk P G Γ) (hpu : PuOk Γ pu) : ∀ (m : Nat) (c : Code) (c' : ACode) (env env1 : T AV) (σ σ1 : AH), compC P G nt pu c = some c' → run std Γ N fuel (aT m c') env σ = .ok .normal env1 σ1 →
    (compC P G nt pu (cdD m c) = some (aD m c') → Good P G nt N B ρ0 σ0 W0 Q env1 σ1 (cdD m c)) → Good P G nt N B ρ0 σ0 W0 Q env σ c
  | 0, c, c', env, env1, σ, σ1, hc, hrun, g => by
    cases c' with
    | seq x' y' =>
      obtain ⟨x, y, rfl, hx, hy⟩ := compC_seq hc
      exact Good.one hB0 hm hΓ hpu hx hrun (g hy)
    | _ => cases hrun
  | m + 1, c, c', env, env1, σ, σ1, hc, hrun, g => by
    cases c' with
    | seq x' y' =>
      obtain ⟨x, y, rfl, hx, hy⟩ := compC_seq hc
      obtain ⟨e2, s2, h1, h2⟩ := RR.next_nm (show (run std Γ N fuel x' env σ).next (run std Γ N fuel (aT m y')) = _ from hrun)
      exact Good.one hB0 hm hΓ hpu hx h1 (Good.cut hB0 hm hΓ hpu m y y' e2 env1 s2 σ1 hy h2 g)
    | _ => cases hrun
theorem Good.end (hB0 : B ≤ W0.heap.size) (hm : P.follows .mixedOrders = true) (hΓ : GamOk P G Γ) (hpu : PuOk Γ pu) {c : Code} {c' : ACode} {K : AK} {env env1 : T AV} {σ σ1 : AH} (hc : compC P G nt pu c = some c') (hrun : run std Γ N fuel c' env σ = .ok .ret env1 σ1) (hK : K .ret env1 σ1) :
    Good P G nt N B ρ0 σ0 W0 (AQ G nt N B ρ0 σ0 W0 K) env σ c := fun ρ W a hr he hs hd => avc_sound hB0 hm hΓ hpu c c' hc K env σ ρ W a (run_avc c' _ _ _ .ret env1 σ1 hrun hK) hr he hs hd
end
/-- The old number of a new block. -/
def rn (old : List Nat) (b : Nat) : Nat := (old[b]?).getD 0
/-- What is asked of a run's end: how it ends, the slots that are read later, the blocks that these reach, the first four blocks. -/
noncomputable def told (r : RR) (old : List Nat) (l : List (Nat × AV)) (L : List (Nat × AObj)) : Nat × List (Option AV) × List (Option AObj) × List (Option AObj) :=
  (r.kind, l.map fun p => r.env.get p.1, L.map fun p => r.mem.get (rn old p.1), [0, 1, 2, 3].map fun b => r.mem.get b)
noncomputable def want (old : List Nat) (l : List (Nat × AV)) (L : List (Nat × AObj)) : Nat × List (Option AV) × List (Option AObj) × List (Option AObj) :=
  (1, l.map fun p => some (mapV (rn old) p.2), L.map fun p => some (mapO (rn old) p.2), [0, 1, 2, 3].map fun b => (ofM L).get b)
/-- What is asked of the numbers. -/
def okN (old : List Nat) (n : Nat) (l : List (Nat × AV)) (L : List (Nat × AObj)) : Bool :=
  Nat.ble n 1000000 && Nat.ble 4 n && keepN (rn old) (L.map (·.1)) 4 && injR (rn old) (L.map (·.1)) && (List.range n).all (L.map (·.1)).contains && (l.all fun p => below n p.2) && (L.all fun p => belowO n p.2) && (l.all fun p => Nat.blt p.1 1048576) && (L.all fun p => Nat.blt p.1 n)
theorem has_of {env : T AV} {r : Nat → Nat} : ∀ {l : List (Nat × AV)}, (l.all fun p => Nat.blt p.1 1048576) = true → (l.map fun p => env.get p.1) = (l.map fun p => some (mapV r p.2)) → Has env (l.map fun p => (p.1, mapV r p.2))
  | [], _, _ => trivial
  | p :: l, h1, h2 => by
    rw [List.all_cons, Bool.and_eq_true] at h1
    simp only [List.map_cons, List.cons.injEq] at h2
    exact ⟨⟨h2.1, h1.1⟩, has_of h1.2 h2.2⟩
theorem had_of {σ : AH} {r : Nat → Nat} {n : Nat} : ∀ {L : List (Nat × AObj)}, (L.all fun p => Nat.blt p.1 n) = true → (L.map fun p => σ.get (r p.1)) = (L.map fun p => some (mapO r p.2)) → Had r σ n L
  | [], _, _ => trivial
  | p :: l, h1, h2 => by
    rw [List.all_cons, Bool.and_eq_true] at h1
    simp only [List.map_cons, List.cons.injEq] at h2
    exact ⟨⟨h1.1, h2.1⟩, had_of h1.2 h2.2⟩
theorem lay_of {nt : Nat} {r : RR} {old : List Nat} {n : Nat} {l : List (Nat × AV)} {L : List (Nat × AObj)} (h1 : okN old n l L = true) (h2 : told r old l L = want old l L) : r = .ok .normal r.env r.mem ∧ Wk 4 nt 4 r.env r.mem (ofL l) ⟨n, ofM L⟩ := by
  unfold okN at h1
  simp only [Bool.and_eq_true] at h1
  obtain ⟨⟨⟨⟨⟨⟨⟨⟨a1, a2⟩, a3⟩, a4⟩, a5⟩, a6⟩, a7⟩, a8⟩, a9⟩ := h1
  unfold told want at h2
  simp only [Prod.mk.injEq, List.map_cons, List.map_nil, List.cons.injEq] at h2
  obtain ⟨b1, b2, b3, c0, c1, c2, c3, _⟩ := h2
  exact ⟨RR.normal b1, Wk.lay (rn old) a1 a2 (by decide) a3 a4 (had_of a9 b3) (fun b hb => by
    match b, hb with
    | 0, _ => exact c0.symm
    | 1, _ => exact c1.symm
    | 2, _ => exact c2.symm
    | 3, _ => exact c3.symm) a5 a6 a7 (has_of a8 b2)⟩
/-- A piece, and what is kept of its end. -/
theorem Good.piece {P : Program} {Γ : Gam} {pu : FuncId → Bool} {nt B fuel : Nat} {ρ0 : Ren} {σ0 : AH} {W0 : World} {Q : Exit → Act → World → Prop} (hB0 : B ≤ W0.heap.size) (hm : P.follows .mixedOrders = true) (hΓ : GamOk P 4 Γ) (hpu : PuOk Γ pu) {m : Nat} {c : Code} {c' : ACode} {env : T AV} {σ : AH} {r : RR} {old : List Nat} {n : Nat} {l : List (Nat × AV)} {L : List (Nat × AObj)}
    (hc : compC P 4 nt pu c = some c') (hr : run std Γ 4 fuel (aT m c') env σ = r) (h1 : okN old n l L = true) (h2 : told r old l L = want old l L) (g : compC P 4 nt pu (cdD m c) = some (aD m c') → Good P 4 nt 4 B ρ0 σ0 W0 Q (ofL l) ⟨n, ofM L⟩ (cdD m c)) : Good P 4 nt 4 B ρ0 σ0 W0 Q env σ c := by
  obtain ⟨e1, e2⟩ := lay_of (nt := nt) h1 h2
  exact Good.cut hB0 hm hΓ hpu m c c' env r.env σ r.mem hc (hr.trans e1) fun hc1 => (g hc1).wk e2
end Go.Proofs.YtljmigbpmcacnaaDoor.V2
