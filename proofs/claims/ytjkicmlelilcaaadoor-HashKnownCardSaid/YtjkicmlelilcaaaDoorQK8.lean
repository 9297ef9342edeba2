/- Part 8 of the proof: texts of the proof. -/
import Derived.Test.YtjkicmlelilcaaaDoorQK7
import Derived.WalkSpells
import Derived.WalkLawsBesides
import Derived.Lib.Hide
import Derived.Laws.CopyOwn
import Derived.Lib.AppendZerosOnto
import Derived.Lib.Overlaps
import Derived.Deep.RegionLaw
import Derived.Deep.MidRow
import Derived.StillTailTactics
import Derived.Deep.RegionHeld3
import Derived.Lib.SlBytesConst
import Derived.ChangeKeysEq
import Derived.Laws.StructEq
import Derived.Lib.ConvBytes
namespace Go.Proofs.YtjkicmlelilcaaaDoor
open Go.RowKit
theorem info22 : (Tryd.prog.info? 22).map (fun i => (i.zero, i.size, i.bytes)) = some (some (.slice none 0 0), 1, 24) := by kernel_rfl
def OwnedV (w : World) (n : Nat) (xs : List Value) (e : Ending) (w' : World) : Prop :=
  ∃ v, e = .returned v ∧ w'.ownsRow w.heap.size 22 1 v n xs ∧ Below w.heap.size w w'
set_option maxHeartbeats 400000 in
theorem clone_nil (w : World) : Calls Tryd.prog 53 #[.slice none 0 0] w (OwnedV w 0 []) := by
  have he := fun w : World => Lib.run_eql_slice_nil (P := Tryd.prog) w 31 22 none 0 0 0 0 Tryd.underlying31
  go_enter Tryd.func53, Tryd.ntmps53
  go_wp2
  go_ret
  exact ⟨_, rfl, ⟨rfl, .inl ⟨rfl, rfl⟩⟩, Below.refl _ _⟩
set_option maxHeartbeats 400000 in
theorem clone_some (b off c : Nat) (vs : List Value) (w : World) (hlt : b < w.heap.size) (hn : vs.length ≤ 1000000000)
    (hcell : ∀ j u, vs[j]? = some u → w.cell? ((⟨b, off, none⟩ : Addr).add j) = some u) (h1 : ∀ u ∈ vs, u.oneCell' = true) :
    Calls Tryd.prog 53 #[.slice (some ⟨b, off, none⟩) vs.length c] w (OwnedV w vs.length vs) := by
  obtain ⟨i0, hi, hz0, hz1, hz2⟩ := info_parts info22
  have HI := Lib.hid hi
  have HZ := Lib.hid hz0
  have H1 := Lib.hid hz1
  have H2 := Lib.hid hz2
  clear hi hz0 hz1 hz2
  have he := fun w : World => Lib.run_eql_slice_nil (P := Tryd.prog) w 31 22 (some ⟨b, off, none⟩) vs.length c 0 0 Tryd.underlying31
  have hb0 : Below w.heap.size w (w.alloc (.cells #[] 22)) := (Below.refl _ _).alloc (Nat.le_refl _) _
  have hown : (w.alloc (.cells #[] 22)).ownsRow w.heap.size 22 1 (.slice (some ⟨w.heap.size, 0, none⟩) 0 0) 0 [] := ⟨rfl, .inr ⟨w.heap.size, 0, #[], rfl, Nat.le_refl _, row_new _ _ _, Nat.le_refl _, by unfold maxLen; omega, rfl, rfl⟩⟩
  have HC : Hid (∀ j u, vs[j]? = some u → (w.alloc (.cells #[] 22)).cell? ((⟨b, off, none⟩ : Addr).add j) = some u) := fun j u hu => by
    have := hcell j u hu
    rw [Addr.add_mid] at this ⊢
    rw [hb0.cell (p := ⟨b, off + j, none⟩) hlt]; exact this
  clear hcell
  go_enter Tryd.func53, Tryd.ntmps53
  go_wp2_with (at_builtin; refine wpList_append_own _ rfl (.tmp 5) (.tmp 6) 31 rfl w.heap.size 22 i0 (.slice none 0 0) 1 24 Tryd.underlying31 HI.out HZ.out H1.out H2.out rfl (by decide) _ _ _ rfl hown ⟨b, off, none⟩ vs.length c vs rfl (by omega) HC.out h1 (by unfold maxLen; omega) (by omega) (by simp) ?_)
  intro v' w2 hown2 hg2 _
  have hb2 : Below w.heap.size w w2 := hb0.grown hg2 (by simp) (fun g hg => owns_block hown hg)
  go_wp2
  go_ret
  exact ⟨_, rfl, hown2, hb2⟩
/-- What a slice of slices, with one put ahead, is. -/
def InsP (base : Nat) (row : Option Nat) (w : World) (cv : Value) (n : Nat) (vs : List Value) (e : Ending) (w' : World) : Prop :=
  ∃ v, e = .returned v ∧ w'.ownsRow base 22 1 v (n + 1) (cv :: vs) ∧ w.grownBy w' row
theorem grown_of_below {w w' : World} (h : Below w.heap.size w w') (row : Option Nat) : w.grownBy w' row := ⟨h.os, h.tape, h.output, h.size, fun k hk _ => h.block k hk⟩
set_option maxHeartbeats 400000 in
theorem insert_empty (base vb : Nat) (sv cv : Value) (w : World) (hown : w.ownsRow base 22 1 sv 0 []) (hbase : base ≤ w.heap.size) (hcell : w.cell? ⟨vb, 0, none⟩ = some cv) (h1 : cv.oneCell' = true) :
    Calls Tryd.prog 52 #[sv, .int .i64 0, .slice (some ⟨vb, 0, none⟩) 1 1] w (InsP base sv.ownBlock w cv 0 []) := by
  obtain ⟨i0, hi, hz0, hz1, hz2⟩ := info_parts info22
  have HI := Lib.hid hi
  have HZ := Lib.hid hz0
  have H1 := Lib.hid hz1
  have H2 := Lib.hid hz2
  clear hi hz0 hz1 hz2
  have HC : Hid (∀ j u, [cv][j]? = some u → w.cell? ((⟨vb, 0, none⟩ : Addr).add j) = some u) := fun j u hu => by
    have hj : j = 0 := by have := (List.getElem?_eq_some_iff.1 hu).1; simpa using this
    subst hj
    rw [Addr.add_mid, hcell, ← hu]; rfl
  clear hcell
  rcases hown.2 with ⟨rfl, _⟩ | ⟨g, cap, cur, rfl, hg, hh, _⟩
  all_goals
    go_enter Tryd.func52, Tryd.ntmps52
    go_wp2_with (at_builtin; refine wpList_append_own _ rfl (.tmp 23) (.tmp 24) 31 rfl base 22 i0 (.slice none 0 0) 1 24 Tryd.underlying31 HI.out HZ.out H1.out H2.out rfl (by decide) _ _ _ rfl hown ⟨vb, 0, none⟩ 1 1 [cv] rfl rfl HC.out (by simpa using h1) (by unfold maxLen; omega) (by omega) hbase ?_)
    intro v' w2 hown2 hg2 _
    go_wp2
    go_ret
    exact ⟨_, rfl, hown2, hg2⟩
theorem zeroCells_nil (k : Nat) : Builtin.zeroCells (Value.slice none 0 0).cells k = (List.replicate k (Value.slice none 0 0)).toArray := by
  apply Array.ext'
  simp only [Builtin.zeroCells, Value.cells]
  apply List.ext_getElem
  · simp
  · intro i h1 h2
    simp [Nat.mod_one]
theorem info22s : (Tryd.prog.info? 22).map (·.size) = some 1 := by kernel_rfl
theorem one_pos {w : World} {g b off : Nat} {cv : Value} (hcell : w.cell? ⟨b, 0, none⟩ = some cv) :
    0 < [cv].length → (some ⟨g, off, none⟩ : Option Addr) = some ⟨g, off, none⟩ ∧ ∃ ad, (some ⟨b, 0, none⟩ : Option Addr) = some ad ∧ ∀ j v, [cv][j]? = some v → w.cell? (ad.add j) = some v := by
  refine fun _ => ⟨rfl, _, rfl, fun j v hv => ?_⟩
  have hj : j = 0 := by have := (List.getElem?_eq_some_iff.1 hv).1; simpa using this
  subst hj
  rw [Addr.add_mid, hcell, ← hv]; rfl
theorem one_src {w : World} {b : Nat} {cv : Value} (hcell : w.cell? ⟨b, 0, none⟩ = some cv) : ∀ j v, [cv][j]? = some v → w.cell? ((⟨b, 0, none⟩ : Addr).add j) = some v := by
  intro j v hv
  have hj : j = 0 := by have := (List.getElem?_eq_some_iff.1 hv).1; simpa using this
  subst hj
  rw [Addr.add_mid, hcell, ← hv]; rfl
theorem row_pos {w : World} {g b off : Nat} {vs : List Value} (h : ∀ j v, vs[j]? = some v → w.cell? ((⟨b, 0, none⟩ : Addr).add j) = some v) :
    0 < vs.length → (some ⟨g, off, none⟩ : Option Addr) = some ⟨g, off, none⟩ ∧ ∃ ad, (some ⟨b, 0, none⟩ : Option Addr) = some ad ∧ ∀ j v, vs[j]? = some v → w.cell? (ad.add j) = some v :=
  fun _ => ⟨rfl, _, rfl, h⟩
theorem spl_a (nc : Nat) (cv : Value) (vs : List Value) (h : vs.length + 1 ≤ nc) :
    (splice (splice (List.replicate nc (Value.slice none 0 0)) 0 [cv]) 1 vs).length = nc ∧ (splice (splice (List.replicate nc (Value.slice none 0 0)) 0 [cv]) 1 vs).take (vs.length + 1) = cv :: vs := by
  have hl : (splice (List.replicate nc (Value.slice none 0 0)) 0 [cv]).length = nc := by rw [length_splice _ _ _ (by simp; omega)]; simp
  refine ⟨by rw [length_splice _ _ _ (by rw [hl]; omega), hl], ?_⟩
  have e : splice (List.replicate nc (Value.slice none 0 0)) 0 [cv] = cv :: List.replicate (nc - 1) (Value.slice none 0 0) := by simp [splice]
  rw [e]
  simp [splice]
theorem spl_b (cur : List Value) (cv : Value) (vs : List Value) (h : vs.length + 1 ≤ cur.length) :
    (splice (splice cur 1 vs) 0 [cv]).length = cur.length ∧ (splice (splice cur 1 vs) 0 [cv]).take (vs.length + 1) = cv :: vs := by
  have hl : (splice cur 1 vs).length = cur.length := length_splice _ _ _ (by omega)
  refine ⟨by rw [length_splice _ _ _ (by rw [hl]; simp; omega), hl], ?_⟩
  cases cur with
  | nil => simp at h
  | cons x xs => simp [splice]
set_option maxRecDepth 100000 in
set_option maxHeartbeats 400000 in
theorem insert_grow (base vb g n cap : Nat) (cv : Value) (vs : List Value) (w : World) (hown : w.ownsRow base 22 1 (.slice (some ⟨g, 0, none⟩) n cap) n vs) (hbase : base ≤ w.heap.size) (hn : 0 < n) (hn2 : n ≤ 1000000000)
    (hcap : cap < n + 1) (hcell : w.cell? ⟨vb, 0, none⟩ = some cv) (h1 : cv.oneCell' = true) (h2 : ∀ u ∈ vs, u.oneCell' = true) (hvb : vb < w.heap.size) (hgw : g < w.heap.size) :
    Calls Tryd.prog 52 #[.slice (some ⟨g, 0, none⟩) n cap, .int .i64 0, .slice (some ⟨vb, 0, none⟩) 1 1] w (InsP base (some g) w cv n vs) := by
  obtain ⟨i0, hi, hz0, hz1, hz2⟩ := info_parts info22
  have hvl : vs.length = n := by have := hown.1; omega
  have hnc : n ≤ cap := by
    rcases hown.2 with ⟨e, _⟩ | ⟨g', cap', cur', e, _, _, h, _⟩
    · cases e
    · cases e; exact h
  have hvs : ∀ j u, vs[j]? = some u → w.cell? ((⟨g, 0, none⟩ : Addr).add j) = some u := hown.cells (g := g) rfl
  have hold := run_firstCells_some (P := Tryd.prog) w.drew i0.size 0 ⟨g, 0, none⟩ 0 cap [] (by simp) (fun j u hu => by simp at hu)
  have hr := Lib.run_append_grow_zeros (P := Tryd.prog) w 31 3 31 22 i0 (.slice none 0 0) .i64 .i64 Tryd.underlying31 Tryd.underlying3 hi hz0 (some ⟨g, 0, none⟩) 0 cap [] hold (n + 1) (by omega) (by rw [hz1]; decide) (by omega) (by omega) (by rw [hz2]; omega) (growslice_fits (by omega) (by rw [hz2]; omega))
  rw [Nat.zero_add, zeroCells_nil, zeroCells_nil] at hr
  obtain ⟨nc, hnc2⟩ : ∃ nc, nc = grownCap w (n + 1) cap 22 := ⟨_, rfl⟩
  have hge := grownCap_ge w (n + 1) cap 22
  have hle := grownCap_le_maxLen w (n + 1) cap 22 (by unfold maxLen; omega)
  rw [← hnc2] at hr hge hle
  clear hnc2
  have hcat : ([] : List Value).toArray ++ (List.replicate (n + 1) (Value.slice none 0 0)).toArray ++ (List.replicate (nc - (n + 1)) (Value.slice none 0 0)).toArray = (List.replicate nc (Value.slice none 0 0)).toArray := by
    apply Array.ext'; simp; omega
  rw [hcat] at hr
  have HR := Lib.hid hr
  clear hr hcat hold hi hz0 hz1 hz2
  obtain ⟨w1, hw1⟩ : ∃ w1, w1 = w.drew.alloc (.cells (List.replicate nc (Value.slice none 0 0)).toArray 22) := ⟨_, rfl⟩
  rw [← hw1] at HR
  have hb1 : Below w.heap.size w w1 := by rw [hw1]; exact (Below.refl _ _).drew.alloc (by simp) _
  have HG1 : Hid (w1.heap[w.heap.size]? = some (.cells (List.replicate nc (Value.slice none 0 0)).toArray 22 (0, 0))) := by rw [hw1]; exact row_new w.drew _ _
  clear hw1
  have c1 : w1.cell? ⟨vb, 0, none⟩ = some cv := (hb1.cell (p := ⟨vb, 0, none⟩) hvb).trans hcell
  have dn : (((n : Int)) == 0) = false := by simp; omega
  have dn' : ((0 : Int) == (n : Int)) = false := by simp; omega
  have dc : decide ((cap : Int) < (n : Int) + 1) = true := decide_eq_true (by omega)
  have z1 : (0 : Int) ≤ (n : Int) := by omega
  go_enter Tryd.func52, Tryd.ntmps52
  go_wp2_with (first | (at_builtin; refine Lib.wpList_append_run w rfl (.tmp 34) (.tmp 39) 31 3 rfl (.slice (some ⟨g, 0, none⟩) 0 cap) (.int .i64 ((n + 1 : Nat) : Int)) rfl rfl _ _ HR.out ?_) | (refine wpList_copy_splice rfl (.tmp 43) (.tmp 44) 31 31 rfl 22 Tryd.underlying31 info22s (some ⟨w.heap.size, 0, none⟩) (some ⟨vb, 0, none⟩) (n + 1) nc 1 1 rfl rfl w.heap.size 0 _ 22 HG1.out [cv] (by simp) (one_pos c1) (by simp; omega) (by simpa using h1) w.heap.size w hb1 (Nat.le_refl _) ?_; intro w2 HG2 hb2))
  go_frame
  have hz2 := hb2.size
  have HV2 : Hid (∀ j u, vs[j]? = some u → w2.drew.cell? ((⟨g, 0, none⟩ : Addr).add j) = some u) := fun j u hu => by
    have := hvs j u hu
    rw [Addr.add_mid] at this ⊢
    rw [hb2.drew.cell (p := ⟨g, 0 + j, none⟩) hgw]; exact this
  clear hvs
  have HG2d : Hid (w2.drew.heap[w.heap.size]? = some (.cells (splice (List.replicate nc (Value.slice none 0 0)) 0 [cv]).toArray 22 (0, 0))) := HG2.out
  have e1 : IntKind.i64.wrap 1 = 1 := by decide
  have ne1 : ¬ nc = 1 := by omega
  have q1 : (1 : Int) ≤ (n : Int) + 1 := by omega
  have q2 : (1 : Int) ≤ (nc : Int) := by omega
  have q3 : (1 : Int) < (nc : Int) := by omega
  go_still_tail 8, (by kernel_rfl)
  change wpList _ _ _ _ _ w2.drew
  refine wpList_copy_splice rfl (.tmp 50) (.tmp 53) 31 31 rfl 22 Tryd.underlying31 info22s (some ⟨w.heap.size, 1, none⟩) (some ⟨g, 0, none⟩) n (nc - 1) n cap rfl rfl w.heap.size 1 _ 22 HG2d.out vs (by simp; omega) (row_pos HV2.out) (by rw [length_splice _ _ _ (by simp; omega)]; simp; omega) h2 w.heap.size w hb2.drew (Nat.le_refl _) ?_
  intro w3 HG3 hb3
  go_wp2
  go_ret
  obtain ⟨t1, t2⟩ := spl_a nc cv vs (by omega)
  exact ⟨_, rfl, ⟨by simp [hvl], .inr ⟨w.heap.size, nc, _, rfl, hbase, HG3.out, hge, hle, by simp [t1], by simp only [Nat.mul_one]; rw [← hvl]; exact t2⟩⟩, grown_of_below hb3 _⟩
theorem size22 (w : World) : (Go.sizeOf 22).run Tryd.prog w = .ok 1 w := by
  obtain ⟨i0, hi, hz0, hz1, hz2⟩ := info_parts info22
  simp [sizeOf, typeInfo, hi, hz1]
set_option maxRecDepth 100000 in
set_option maxHeartbeats 400000 in
theorem insert_room (base vb g n cap : Nat) (cv : Value) (vs : List Value) (w : World) (hown : w.ownsRow base 22 1 (.slice (some ⟨g, 0, none⟩) n cap) n vs) (_hbase : base ≤ w.heap.size) (hn : 0 < n) (hn2 : n ≤ 1000000000)
    (hcap : n + 1 ≤ cap) (hcell : w.cell? ⟨vb, 0, none⟩ = some cv) (h1 : cv.oneCell' = true) (h2 : ∀ u ∈ vs, u.oneCell' = true) (hvg : vb ≠ g) (hvr : ∃ C, w.heap[vb]? = some (.cells C 22 (0, 0))) :
    Calls Tryd.prog 52 #[.slice (some ⟨g, 0, none⟩) n cap, .int .i64 0, .slice (some ⟨vb, 0, none⟩) 1 1] w (InsP base (some g) w cv n vs) := by
  have hvl : vs.length = n := by have := hown.1; omega
  have hvs : ∀ j u, vs[j]? = some u → w.drew.cell? ((⟨g, 0, none⟩ : Addr).add j) = some u := hown.cells (g := g) rfl
  obtain ⟨cur, hbg, hg, hcm, hcs, htake⟩ : ∃ cur : Array Value, base ≤ g ∧ w.heap[g]? = some (.cells cur 22 (0, 0)) ∧ cap ≤ maxLen ∧ cur.size = cap ∧ cur.toList.take n = vs := by
    rcases hown.2 with ⟨e, _⟩ | ⟨g', cap', cur', e, h1, h2, _, h3, h4, h5⟩
    · cases e
    · cases e; exact ⟨cur', h1, h2, h3, by simpa using h4, by simpa using h5⟩
  have HG := Lib.hid hg
  have HV := Lib.hid hvs
  clear hg hvs
  have hcmx : cap ≤ 9223372036854775807 := hcm
  have dn : (((n : Int)) == 0) = false := by simp; omega
  have dn' : ((0 : Int) == (n : Int)) = false := by simp; omega
  have dc : decide ((cap : Int) < (n : Int) + 1) = false := decide_eq_false (by omega)
  have z1 : (0 : Int) ≤ (n : Int) := by omega
  have e1 : IntKind.i64.wrap 1 = 1 := by decide
  have ne1 : ¬ cap = 1 := by omega
  have hov : (callFunc 76 #[.slice (some ⟨vb, 0, none⟩) 1 1, .slice (some ⟨g, 1, none⟩) n (cap - 1)]).run Tryd.prog w = .ok (.value (.bool false)) w := by
    obtain ⟨C, hC⟩ := hvr
    rw [run_callFunc_extern Tryd.func76 (by kernel_rfl) (by kernel_rfl) (by kernel_rfl) (e := Extern.SlicesOverlaps.overlaps #[31, 31] #[4]) (by kernel_rfl),
      Lib.run_overlaps_apart w 31 4 22 Tryd.underlying31 1 size22 ⟨vb, 0, none⟩ ⟨g, 1, none⟩ 1 1 n (cap - 1) hvg 22 22 C.size cur.size (by simp [World.shape?, hC]) (by have := HG.out; simp [World.shape?, this]) (by omega) (row_free hC 0) (row_free hC C.size)]
    rfl
  have HGd : Hid (w.drew.heap[g]? = some (.cells cur.toList.toArray 22 (0, 0))) := by rw [Array.toArray_toList]; exact HG.out
  have q1 : (1 : Int) ≤ (n : Int) + 1 := by omega
  have q2 : (1 : Int) ≤ (cap : Int) := by omega
  have q3 : (1 : Int) < (cap : Int) := by omega
  have z2 : (0 : Int) ≤ (n : Int) + 1 := by omega
  have ne0 : ¬ cap = 0 := by omega
  go_enter Tryd.func52, Tryd.ntmps52
  go_wp2
  go_still_tail 8, (by kernel_rfl)
  change wpList _ _ _ _ _ w.drew
  refine wpList_copy_own rfl (.tmp 73) (.tmp 76) 31 31 rfl 22 Tryd.underlying31 info22s g 1 n (cap - 1) ⟨g, 0, none⟩ (n + 1) cap rfl rfl cur.toList.toArray 22 HGd.out vs (by simp; omega) (fun j v hv => HV.out j v hv) (by simp; omega) h2 ?_
  have HG3 : Hid ((w.drew.setRow g (splice cur.toList 1 vs).toArray).heap[g]? = some (.cells (splice cur.toList 1 vs).toArray 22 (0, 0))) := setRow_heap _ _ _ _ _ _ HGd.out
  have hg3 : w.grownBy (w.drew.setRow g (splice cur.toList 1 vs).toArray) (some g) := ⟨rfl, rfl, rfl, by simp, fun k hk hne => setRow_other _ _ _ _ (fun e => hne (by rw [e]))⟩
  have c3 : (w.drew.setRow g (splice cur.toList 1 vs).toArray).cell? ⟨vb, 0, none⟩ = some cv := (World.cell?_of_block (setRow_other _ _ _ _ hvg)).trans hcell
  change wpList _ _ _ _ _ (w.drew.setRow g (splice cur.toList 1 vs).toArray)
  generalize w.drew.setRow g (splice cur.toList 1 vs).toArray = w3 at *
  go_wp2_with (refine wpList_copy_own rfl (.tmp 80) (.tmp 81) 31 31 rfl 22 Tryd.underlying31 info22s g 0 (n + 1) cap ⟨vb, 0, none⟩ 1 1 rfl rfl (splice cur.toList 1 vs).toArray 22 HG3.out [cv] (by simp) (one_src c3) (by simp; rw [length_splice _ _ _ (by simp; omega)]; simp; omega) (by simpa using h1) ?_)
  have e4 : splice (splice cur.toList 1 vs) 0 [cv] = cv :: (splice cur.toList 1 vs).tail := by
    have : ∀ L : List Value, splice L 0 [cv] = cv :: L.tail := fun L => by simp [splice]
    exact this _
  obtain ⟨t1, t2⟩ := spl_b cur.toList cv vs (by simp; omega)
  rw [e4] at t1 t2
  go_ret
  exact ⟨_, rfl, ⟨by simp [hvl], .inr ⟨g, cap, _, rfl, hbg, setRow_heap _ _ _ _ _ _ HG3.out, hcap, hcm, by rw [List.size_toArray, t1]; simp [hcs], by simp only [Nat.mul_one]; rw [← hvl]; exact t2⟩⟩,
    ⟨hg3.os, hg3.tape, hg3.output, by simpa using hg3.size, fun k hk hne => (setRow_other _ _ _ _ (fun e => hne (by rw [e]))).trans (hg3.block k hk hne)⟩⟩
end Go.Proofs.YtjkicmlelilcaaaDoor
namespace Go.Proofs.YtjkicmlelilcaaaDoor
open Go.RowKit
theorem BSl.one {w : World} {v : Value} {bs : List UInt8} (h : BSl w v bs) : v.oneCell' = true := by
  rcases h with ⟨rfl, _⟩ | ⟨b, off, c, rfl, _⟩ | ⟨a, rfl, _⟩ <;> rfl
/-- slices.Clone of a slice of slices of bytes. -/
theorem clone_any (pv : Value) (vs : List Value) (ps : List (List UInt8)) (w : World) (h : PSl w pv vs ps) (hc0 : ps.length ≤ 1000000000) :
    Calls Tryd.prog 53 #[pv] w (OwnedV w ps.length vs) := by
  rcases h.lies with ⟨rfl, rfl⟩ | ⟨b, off, c, rfl, hc, hlt, hcell⟩
  · obtain rfl : vs = [] := List.eq_nil_of_length_eq_zero h.len
    exact clone_nil w
  · rw [← h.len]
    refine clone_some b off c vs w hlt (by rw [h.len]; exact hc0) (fun j u hu => ?_) (fun u hu => ?_)
    · have hj : j < vs.length := (List.getElem?_eq_some_iff.1 hu).1
      rw [Addr.add_mid, hcell j (by rw [← h.len]; exact hj)]
      simp [atV, hu]
    · obtain ⟨j, hj, rfl⟩ := List.getElem_of_mem hu
      have := (h.each j (by rw [← h.len]; exact hj)).one
      simpa [atV, hj] using this
/-- slices.Insert of one slice ahead of all. -/
theorem insert_any (base vb n : Nat) (sv cv : Value) (vs : List Value) (w : World) (hown : w.ownsRow base 22 1 sv n vs) (hbase : base ≤ w.heap.size) (hn2 : n ≤ 1000000000)
    (hcell : w.cell? ⟨vb, 0, none⟩ = some cv) (h1 : cv.oneCell' = true) (h2 : ∀ u ∈ vs, u.oneCell' = true) (hvb : vb < w.heap.size) (hvg : ∀ g, sv.ownBlock = some g → vb ≠ g) (hvr : ∃ C, w.heap[vb]? = some (.cells C 22 (0, 0))) :
    Calls Tryd.prog 52 #[sv, .int .i64 0, .slice (some ⟨vb, 0, none⟩) 1 1] w (InsP base sv.ownBlock w cv n vs) := by
  by_cases h0 : n = 0
  · subst h0
    obtain rfl : vs = [] := List.eq_nil_of_length_eq_zero (by simpa using hown.1)
    exact insert_empty base vb sv cv w hown hbase hcell h1
  · rcases hown.2 with ⟨rfl, h⟩ | ⟨g, cap, cur, rfl, hbg, hg, hnc, _⟩
    · omega
    · by_cases hc : n + 1 ≤ cap
      · exact insert_room base vb g n cap cv vs w hown hbase (by omega) hn2 hc hcell h1 h2 (hvg g rfl) hvr
      · exact insert_grow base vb g n cap cv vs w hown hbase (by omega) hn2 (by omega) hcell h1 h2 hvb (Array.getElem?_eq_some_iff.1 hg).1
theorem owns_below {w w' : World} {base e size B n : Nat} {v : Value} {xs : List Value} (h : w.ownsRow base e size v n xs) (hb : Below B w w') (hB : w.heap.size ≤ B) : w'.ownsRow base e size v n xs := by
  refine ⟨h.1, ?_⟩
  rcases h.2 with h | ⟨g, cap, cur, e1, h1, hh, h2⟩
  · exact .inl h
  · exact .inr ⟨g, cap, cur, e1, h1, (hb.block g (Nat.lt_of_lt_of_le (Array.getElem?_eq_some_iff.1 hh).1 hB)).trans hh, h2⟩
theorem owns_lt {w : World} {base e size n : Nat} {v : Value} {xs : List Value} (h : w.ownsRow base e size v n xs) {g : Nat} (hg : v.ownBlock = some g) : g < w.heap.size := by
  rcases h.2 with ⟨rfl, _⟩ | ⟨g', cap, cur, rfl, _, hh, _⟩
  · cases hg
  · cases hg; exact (Array.getElem?_eq_some_iff.1 hh).1
theorem PSl.of_owns {w : World} {base n : Nat} {v : Value} {vs : List Value} {ps : List (List UInt8)} (h : w.ownsRow base 22 1 v n vs) (hl : vs.length = ps.length) (he : ∀ j, j < ps.length → BSl w (atV vs j) (atP ps j)) : PSl w v vs ps := by
  have hn : n = ps.length := by have := h.1; omega
  subst hn
  refine ⟨hl, ?_, he⟩
  rcases h.2 with ⟨rfl, h0⟩ | ⟨g, cap, cur, rfl, hg, hh, hc, hm, hs, ht⟩
  · exact .inl ⟨rfl, List.eq_nil_of_length_eq_zero h0⟩
  · refine .inr ⟨g, 0, cap, rfl, hc, (Array.getElem?_eq_some_iff.1 hh).1, fun j hj => ?_⟩
    rw [Nat.zero_add, cell_of_row w g j cur 22 (0, 0) hh]
    have : vs[j]? = some (atV vs j) := by simp [atV, show j < vs.length by omega]
    rw [← this, ← ht, List.getElem?_take, if_pos (by omega)]
    simp
theorem BSl.of_row {w : World} {g T c : Nat} {bs : List UInt8} (h : w.heap[g]? = some (.cells (c8 bs) T (0, 0))) (hc : bs.length ≤ c) (n : Nat) (hn : n = bs.length) : BSl w (.slice (some ⟨g, 0, none⟩) n c) bs := by
  subst hn
  exact .inr (.inl ⟨g, 0, c, rfl, hc, (Array.getElem?_eq_some_iff.1 h).1, fun j hj => by rw [Nat.zero_add]; exact row8_cell h j hj⟩)
theorem atV_cons_zero (x : Value) (vs : List Value) : atV (x :: vs) 0 = x := rfl
theorem atV_cons_succ (x : Value) (vs : List Value) (j : Nat) : atV (x :: vs) (j + 1) = atV vs j := rfl
theorem atP_cons_zero (x : List UInt8) (ps : List (List UInt8)) : atP (x :: ps) 0 = x := rfl
theorem atP_cons_succ (x : List UInt8) (ps : List (List UInt8)) (j : Nat) : atP (x :: ps) (j + 1) = atP ps j := rfl
theorem GlobK.below {w w' : World} (h : GlobK w) (hb : Below w.heap.size w w') (h3 : 3 < w.heap.size) : GlobK w' := fun i hi => (hb.cell (p := ⟨3, i, none⟩) h3).trans (h i hi)
theorem GlobS.below {w w' : World} (h : GlobS w) (hb : Below w.heap.size w w') (h3 : 3 < w.heap.size) : GlobS w' := fun i hi => (hb.cell (p := ⟨0, i, none⟩) (by simp; omega)).trans (h i hi)
theorem changed_k (a : Option Addr) (n cp : Nat) (key : List UInt8) (k : Int) (c : UInt8) (hc : N8 c = k) (w : World) (hn : n = key.length) (h : BSl w (.slice a n cp) key) (hl : key.length ≤ 64) :
    Calls Tryd.prog 54 #[.slice a n cp, .int .u8 k] w (ChgP key c w) := by
  subst hc; exact changed_at a n cp key c w hn h hl
theorem BSl.same {w w' : World} {v : Value} {bs : List UInt8} (h : BSl w v bs) (e : w'.heap = w.heap) : BSl w' v bs := by
  rcases h with h | ⟨b, off, c, e1, hc, hlt, hcell⟩ | h
  · exact .inl h
  · exact .inr (.inl ⟨b, off, c, e1, hc, by rw [e]; exact hlt, fun j hj => by rw [← hcell j hj]; unfold World.cell?; rw [e]⟩)
  · exact .inr (.inr h)
theorem two_psl {w : World} {x y : Value} {p q : List UInt8} (hx : BSl w x p) (hy : BSl w y q) : PSl (w.alloc (.cells #[x, y] 22)) (.slice (some ⟨w.heap.size, 0, none⟩) 2 2) [x, y] [p, q] := by
  have hb : Below w.heap.size w (w.alloc (.cells #[x, y] 22)) := (Below.refl _ _).alloc (Nat.le_refl _) _
  refine ⟨rfl, .inr ⟨w.heap.size, 0, 2, rfl, Nat.le_refl _, by simp, fun j hj => ?_⟩, fun j hj => ?_⟩
  · rw [Nat.zero_add, cell_of_row _ _ j _ 22 (0, 0) (row_new _ _ _)]
    match j, hj with
    | 0, _ => rfl
    | 1, _ => rfl
  · match j, hj with
    | 0, _ => exact hx.below hb (Nat.le_refl _)
    | 1, _ => exact hy.below hb (Nat.le_refl _)
theorem mid_psl {w5 w6 w7 : World} {key hm : List UInt8} (hk64 : key.length ≤ 64) (hml : hm.length = 32) (hz : w5.heap.size < w6.heap.size) (hG6 : w6.heap[w5.heap.size]? = some (.cells (c8 hm) 24 (0, 0)))
    (hG7 : w7.heap[w6.drew.heap.size]? = some (.cells (c8 (chg key 92)) 5 (0, 0))) (hb7 : Below w6.drew.heap.size w6.drew w7) :
    PSl (w7.alloc (.cells #[.slice (some ⟨w6.heap.size, 0, none⟩) 64 64, .slice (some ⟨w5.heap.size, 0, none⟩) 32 32] 22)) (.slice (some ⟨w7.heap.size, 0, none⟩) 2 2) [.slice (some ⟨w6.heap.size, 0, none⟩) 64 64, .slice (some ⟨w5.heap.size, 0, none⟩) 32 32] [chg key 92, hm] := by
  have hl := chg_length key 92 hk64
  refine two_psl (BSl.of_row (T := 5) (c := 64) hG7 (by omega) 64 hl.symm) (BSl.of_row (T := 24) (c := 32) ?_ (by omega) 32 hml.symm)
  exact (hb7.block _ hz).trans hG6
theorem results_mid {P : Program} {fn : Func} {p : Tmp} {ty : TypeId} (h : fn.results = #[.cell p ty]) (tmps : Array Value) (w : World) (b : Nat) (cs : List Value) (d : TypeDesc)
    (hp : tmps.getD p undef = .pointer (some ⟨b, 0, none⟩)) (hc : w.rangeAt b 0 cs) (hu : P.underlying ty = some d) (hd : d.isRow = true) (hi : (P.info? ty).map (·.size) = some cs.length) :
    (results fn tmps).run P w = .ok (.agg cs.toArray) w := by
  have hp' : tmps[p]?.getD undef = .pointer (some ⟨b, 0, none⟩) := by simpa using hp
  simp [results, h, hp', asAddr, run_loadVar_mid w b 0 ty cs d hc hu hd hi]
theorem there_of_row {w : World} {b T : Nat} {l : List UInt8} (h : w.heap[b]? = some (.cells (c8 l) T (0, 0))) : w.there b 0 l.length := fun j hj => by
  rw [Nat.zero_add]
  exact ⟨by rw [row8_cell h j hj]; rfl, row_free h j⟩
theorem there_below {B : Nat} {w w' : World} {b o n : Nat} (h : w.there b o n) (hb : Below B w w') (hB : b < B) : w'.there b o n := fun j hj => by
  rw [hb.cell (p := ⟨b, o + j, none⟩) hB, hb.frozen (p := ⟨b, o + j, none⟩) hB]; exact h j hj
/-- HMAC of bytes, of a key of at most 64; of any. -/
def hmS (key msg : List UInt8) : List UInt8 := shaB (chg key 92 ++ shaB (chg key 54 ++ msg))
def hmB (key msg : List UInt8) : List UInt8 := hmS (if key.length > 64 then shaB key else key) msg
attribute [local irreducible] chg shaB
theorem below_cells {B b : Nat} {a : World} (hb : B ≤ b) : ∀ (vs : List Value) (o : Nat) (w : World), Below B a w → Below B a (w.setCells b o vs)
  | [], _, _, h => h
  | _ :: r, o, _, h => below_cells hb r (o + 1) _ (h.setCell hb _)
theorem mid_len {key hm : List UInt8} (hk64 : key.length ≤ 64) (hml : hm.length = 32) : ([chg key 92, hm].flatten).length ≤ 100000000000 := by
  have hl := chg_length key 92 hk64
  simp [hl, hml]
theorem alloc_below {o : Obj} (w : World) : Below w.heap.size w (w.alloc o) := (Below.refl _ _).alloc (Nat.le_refl _) _
theorem mid_below {w w6 w7 : World} {o : Obj} (h6 : Below w.heap.size w w6) (h7 : Below w6.drew.heap.size w6.drew w7) : Below w.heap.size w (w7.alloc o) :=
  (h6.drew.trans (h7.mono h6.size)).alloc (Nat.le_trans h6.size h7.size) _
theorem mid_lt {w w' : World} (h3 : 3 < w.heap.size) (h : Below w.heap.size w w') : 3 < w'.heap.size := Nat.lt_of_lt_of_le h3 h.size
theorem mid_lt2 {n : Nat} {w6 w7 : World} (h : n < w6.heap.size) (h7 : Below w6.drew.heap.size w6.drew w7) : n < w7.heap.size := Nat.lt_of_lt_of_le h h7.size
theorem mid_lt3 {n : Nat} {w6 w7 : World} {o : Obj} (h : n < w6.heap.size) (h7 : Below w6.drew.heap.size w6.drew w7) : n < (w7.alloc o).heap.size := by
  have := mid_lt2 h h7; simp; omega
set_option maxRecDepth 100000 in
set_option maxHeartbeats 1000000 in
theorem hmac_short (kv pv : Value) (key : List UInt8) (vs : List Value) (ps : List (List UInt8)) (w : World) (hk : BSl w kv key) (hk64 : key.length ≤ 64) (hP : PSl w pv vs ps) (hc0 : ps.length ≤ 100000000) (ht : ps.flatten.length ≤ 10000000000)
    (hK : GlobK w) (hS : GlobS w) (h3 : 3 < w.heap.size) :
    Calls Tryd.prog 14 #[kv, pv] w fun e w' => e = .returned (.agg (c8 (hmS key ps.flatten))) ∧ Below w.heap.size w w' := by
  have HK : Hid (GlobK w) := hK
  have HS : Hid (GlobS w) := hS
  clear hK hS
  obtain ⟨a0, c0, hkv⟩ := hk.len
  subst hkv
  have d64 : decide ((64 : Int) < (key.length : Int)) = false := decide_eq_false (by omega)
  have HR1 := Lib.hid (row_new8 w)
  go_enter Tryd.func14, Tryd.ntmps14
  go_wp2_with fail
  generalize hw1 : w.alloc _ = w1 at HR1 ⊢
  have hb1 : Below w.heap.size w w1 := by rw [← hw1]; exact (Below.refl _ _).alloc (Nat.le_refl _) _
  have HZ1 : Hid (w.heap.size < w1.heap.size) := by rw [← hw1]; simp [Hid]
  clear hw1
  have hk1 := hk.below hb1 (Nat.le_refl _)
  refine (clone_any pv vs ps w1 (hP.below hb1 (Nat.le_refl _)) (by omega)).mono ?_
  rintro e w2 ⟨v2, rfl, hown2, hb2⟩
  have hz2 := hb2.size
  have hbw2 : Below w.heap.size w w2 := hb1.trans (hb2.mono (by have := HZ1.out; omega))
  go_wp2_with fail
  refine (changed_k a0 key.length c0 key 54 54 rfl w2 rfl (hk1.below hb2 (Nat.le_refl _)) hk64).mono ?_
  rintro e w3 ⟨rfl, hG3, hb3⟩
  have HG3 := Lib.hid hG3
  clear hG3
  have hz3 := hb3.size
  have hz3' : w2.heap.size < w3.heap.size := (Array.getElem?_eq_some_iff.1 HG3.out).1
  go_wp2_with fail
  have hb3' : Below w2.heap.size w2 (w3.alloc (.cells #[.slice (some ⟨w2.heap.size, 0, none⟩) 64 64] 22)) := hb3.alloc hz3 _
  refine (insert_any w1.heap.size w3.heap.size ps.length v2 (.slice (some ⟨w2.heap.size, 0, none⟩) 64 64) vs _ (owns_below hown2 hb3' (Nat.le_refl _)) (by simp; omega) (by omega) (by simp) rfl ?_ (by simp) (fun g hg => by have := owns_lt hown2 hg; omega) ⟨_, row_new _ _ _⟩).mono ?_
  · intro u hu
    obtain ⟨j, hj, rfl⟩ := List.getElem_of_mem hu
    have := (hP.each j (by rw [← hP.len]; exact hj)).one
    simpa [atV, hj] using this
  rintro e w4 ⟨v4, rfl, hown4, hg4⟩
  have hb4 : Below w1.heap.size w1 w4 := (hb2.trans (hb3'.mono hz2)).grown hg4 (by simp; omega) (fun g hg => owns_block hown2 hg)
  have hbw4 : Below w.heap.size w w4 := hb1.trans (hb4.mono (by have := HZ1.out; omega))
  have HG4 : Hid (w4.heap[w2.heap.size]? = some (.cells (c8 (chg key 54)) 5 (0, 0))) := by
    show _ = _
    rw [hg4.block _ (by simp; omega) (fun e => by have := owns_lt hown2 e.symm; omega), Below.heap_alloc _ _ _ hz3']
    exact HG3.out
  have hP4 : PSl w4 v4 (.slice (some ⟨w2.heap.size, 0, none⟩) 64 64 :: vs) (chg key 54 :: ps) := by
    refine PSl.of_owns hown4 (by simp [hP.len]) (fun j hj => ?_)
    cases j with
    | zero =>
      rw [atV_cons_zero, atP_cons_zero]
      have hl := chg_length key 54 hk64
      exact BSl.of_row HG4.out (by rw [hl]; exact Nat.le_refl _) 64 hl.symm
    | succ j =>
      rw [atV_cons_succ, atP_cons_succ]
      exact (hP.each j (by simpa using hj)).below hbw4 (Nat.le_refl _)
  have hz4 := hb4.size
  go_wp2_with fail
  refine (sha_any v4 _ (chg key 54 :: ps) w4 hP4 (by simp; omega) (by rw [List.flatten_cons, List.length_append, chg_length _ _ hk64]; omega) (HK.out.below hbw4 h3) (HS.out.below hbw4 h3) (by have := hbw4.size; omega)).mono ?_
  rintro e w5 ⟨rfl, hb5⟩
  have hbw5 : Below w.heap.size w w5 := hbw4.trans (hb5.mono hbw4.size)
  obtain ⟨hm, hhm⟩ : ∃ hm, hm = shaB (chg key 54 :: ps).flatten := ⟨_, rfl⟩
  rw [← hhm]
  have hml : hm.length = 32 := by rw [hhm]; exact shaB_length _
  have HHM := Lib.hid hhm
  clear hhm
  have HI24 : Hid ((Tryd.prog.info? 24).map (·.size) = some (c8 hm).size) := by rw [c8_size, hml]; exact info24
  have HQ : Hid ((c8 (List.replicate 32 0)).size = (c8 hm).size) := by rw [c8_size, c8_size, hml]; simp [Hid]
  have HML := Lib.hid hml
  clear hml
  go_wp2_with (refine wpList_store_row rfl 24 (.tmp 6) (.tmp 20) rfl w5.heap.size (c8 hm) rfl rfl 24 _ (row_new8 w5) HI24.out HQ.out (c8_one _) ?_)
  go_frame
  generalize hw6 : (w5.alloc _).setRow w5.heap.size (c8 hm) = w6
  have hb6 : Below w5.heap.size w5 w6 := by rw [← hw6]; exact below_setRow ((Below.refl _ _).alloc (Nat.le_refl _) _) (Nat.le_refl _) _
  have HG6 : Hid (w6.heap[w5.heap.size]? = some (.cells (c8 hm) 24 (0, 0))) := by rw [← hw6]; exact setRow_heap _ _ _ _ _ _ (row_new8 w5)
  clear hw6
  have hz6 : w5.heap.size < w6.heap.size := (Array.getElem?_eq_some_iff.1 HG6.out).1
  have hbw6 : Below w.heap.size w w6 := hbw5.trans (hb6.mono hbw5.size)
  have HR6 : Hid (w6.heap[w.heap.size]? = some (.cells (c8 (List.replicate 32 0)) 24 (0, 0))) := by
    show _ = _
    rw [hb6.block _ (by have := HZ1.out; have := hb5.size; omega), hb5.block _ (by have := HZ1.out; omega), hb4.block _ (by have := HZ1.out; omega)]
    exact HR1.out
  have hT6 : w6.there w.heap.size 0 32 := by have := there_of_row HR6.out; rwa [List.length_replicate] at this
  obtain ⟨X, hX⟩ : ∃ X, X = shaB [chg key 92, hm].flatten := ⟨_, rfl⟩
  have hXl : X.length = 32 := by rw [hX]; exact shaB_length _
  have hXc : (c8l X).length = 32 := by rw [c8l_length]; exact hXl
  have hX1 : ∀ v ∈ c8l X, v.oneCell' = true := c8l_one X
  have hi24 := info24
  have HX := Lib.hid hX
  clear hX hXl
  have hk6 := hk1.below (hb4.trans ((hb5.mono hb4.size).trans (hb6.mono (Nat.le_trans hb4.size hb5.size)))) (Nat.le_refl _)
  have hRz6 : w.heap.size < w6.heap.size := by have := HZ1.out; have := hb5.size; omega
  go_region_held3 (fun W => W.there w.heap.size 0 32) (first | exact hT6 | exact hT7 | exact there_below hT7 (alloc_below w7) (mid_lt2 hRz6 hb7) | exact hT8 | exact World.there_setCells hT8 _ _ _)
    (first | (go_at_call 54; refine (changed_k a0 key.length c0 key 92 92 rfl _ rfl ?_ hk64).mono ?_; exact hk6.same rfl; rintro e w7 ⟨rfl, hG7, hb7⟩; have HG7 := Lib.hid hG7; clear hG7; have hT7 : w7.there w.heap.size 0 32 := there_below (w := w6.drew) hT6 hb7 hRz6) | (go_at_call 12; refine (sha_any _ _ _ _ (mid_psl hk64 HML.out hz6 HG6.out HG7.out hb7) (by simp) ?_ ?_ ?_ ?_).mono ?_; exact mid_len hk64 HML.out; exact HK.out.below (mid_below hbw6 hb7) h3; exact HS.out.below (mid_below hbw6 hb7) h3; exact mid_lt h3 (mid_below hbw6 hb7); (rw [← HX.out]); rintro e w8 ⟨rfl, hb8⟩; have hT8 : w8.there w.heap.size 0 32 := there_below (there_below hT7 (alloc_below w7) (mid_lt2 hRz6 hb7)) hb8 (mid_lt3 hRz6 hb7)))
  go_wp2
  have hrs : (w8.setCells w.heap.size 0 (c8l X)).rangeAt w.heap.size 0 (c8l X) := World.rangeAt_setCells_same _ _ _ _ (by rw [hXc]; exact hT8)
  have hfin : Below w.heap.size w (w8.setCells w.heap.size 0 (c8l X)) := below_cells (Nat.le_refl _) _ _ _ ((mid_below hbw6 hb7).trans (hb8.mono (mid_below hbw6 hb7).size))
  refine bodyPost_ret (v := .agg (c8 X)) (results_mid (p := 4) (ty := 24) rfl _ _ w.heap.size (c8l X) _ rfl hrs Tryd.underlying24 rfl (by rw [hXc]; exact info24)) rfl ⟨?_, hfin⟩
  rw [HX.out, HHM.out]
  simp [hmS]
theorem one_psl {w : World} {x : Value} {p : List UInt8} (hx : BSl w x p) : PSl (w.alloc (.cells #[x] 22)) (.slice (some ⟨w.heap.size, 0, none⟩) 1 1) [x] [p] := by
  have hb : Below w.heap.size w (w.alloc (.cells #[x] 22)) := (Below.refl _ _).alloc (Nat.le_refl _) _
  refine ⟨rfl, .inr ⟨w.heap.size, 0, 1, rfl, Nat.le_refl _, by simp, fun j hj => ?_⟩, fun j hj => ?_⟩
  · rw [Nat.zero_add, cell_of_row _ _ j _ 22 (0, 0) (row_new _ _ _)]
    match j, hj with
    | 0, _ => rfl
  · match j, hj with
    | 0, _ => exact hx.below hb (Nat.le_refl _)
set_option maxRecDepth 100000 in
set_option maxHeartbeats 1000000 in
theorem hmac_long (kv pv : Value) (key : List UInt8) (vs : List Value) (ps : List (List UInt8)) (w : World) (hk : BSl w kv key) (hlong : 64 < key.length) (hkl : key.length ≤ 10000000000) (hP : PSl w pv vs ps) (hc0 : ps.length ≤ 100000000) (ht : ps.flatten.length ≤ 10000000000)
    (hK : GlobK w) (hS : GlobS w) (h3 : 3 < w.heap.size) :
    Calls Tryd.prog 14 #[kv, pv] w fun e w' => e = .returned (.agg (c8 (hmS (shaB key) ps.flatten))) ∧ Below w.heap.size w w' := by
  have HK : Hid (GlobK w) := hK
  have HS : Hid (GlobS w) := hS
  clear hK hS
  obtain ⟨a0, c0, hkv⟩ := hk.len
  subst hkv
  have d64 : decide ((64 : Int) < (key.length : Int)) = true := decide_eq_true (by omega)
  have HR0 := Lib.hid (row_new8 w)
  go_enter Tryd.func14, Tryd.ntmps14
  go_wp2_with fail
  generalize hy1 : w.alloc _ = y1 at HR0 ⊢
  have hby1 : Below w.heap.size w y1 := by rw [← hy1]; exact (Below.refl _ _).alloc (Nat.le_refl _) _
  have hyz : y1.heap.size = w.heap.size + 1 := by rw [← hy1]; simp
  clear hy1
  rw [← hyz]
  have hyz1 : w.heap.size < y1.heap.size := by omega
  clear hyz
  have hby2 : Below w.heap.size w (y1.alloc (.cells #[.slice a0 key.length c0] 22)) := hby1.alloc (by omega) _
  refine (sha_any _ _ _ _ (one_psl (hk.below hby1 (Nat.le_refl _))) (by simp) (by simp; omega) (HK.out.below hby2 h3) (HS.out.below hby2 h3) (mid_lt h3 hby2)).mono ?_
  rintro e y3 ⟨rfl, hby3⟩
  obtain ⟨ky, hky⟩ : ∃ ky, ky = shaB [key].flatten := ⟨_, rfl⟩
  rw [← hky]
  have hkyl : ky.length = 32 := by rw [hky]; exact shaB_length _
  have HKY := Lib.hid hky
  clear hky
  have HI24k : Hid ((Tryd.prog.info? 24).map (·.size) = some (c8 ky).size) := by rw [c8_size, hkyl]; exact info24
  have HQk : Hid ((c8 (List.replicate 32 0)).size = (c8 ky).size) := by rw [c8_size, c8_size, hkyl]; simp [Hid]
  have HKL := Lib.hid hkyl
  clear hkyl
  go_wp2_with (first | (refine wpList_store_row rfl 24 (.tmp 5) (.tmp 12) rfl y3.heap.size (c8 ky) rfl rfl 24 _ (row_new8 y3) HI24k.out HQk.out (c8_one _) ?_))
  generalize hw1 : (y3.alloc _).setRow y3.heap.size (c8 ky) = w1
  have hb31 : Below y3.heap.size y3 w1 := by rw [← hw1]; exact below_setRow (alloc_below _) (Nat.le_refl _) _
  have HGK : Hid (w1.heap[y3.heap.size]? = some (.cells (c8 ky) 24 (0, 0))) := by rw [← hw1]; exact setRow_heap _ _ _ _ _ _ (row_new8 y3)
  clear hw1
  have hby3s := hby3.size
  simp only [World.size_alloc] at hby3s
  have hb1 : Below w.heap.size w w1 := hby2.trans ((hby3.mono (by simp; omega)).trans (hb31.mono (by omega)))
  have HZ1 : Hid (w.heap.size < w1.heap.size) := by have := hb31.size; show _ < _; omega
  have HR1 : Hid (w1.heap[w.heap.size]? = some (.cells (c8 (List.replicate 32 0)) 24 (0, 0))) := by
    show _ = _
    rw [hb31.block _ (by omega), hby3.block _ (by simp; omega), Below.heap_alloc _ _ _ hyz1]
    exact HR0.out
  have hk1 : BSl w1 (.slice (some ⟨y3.heap.size, 0, none⟩) 32 32) ky := BSl.of_row (T := 24) HGK.out (by have := HKL.out; omega) 32 HKL.out.symm
  have hk64 : ky.length ≤ 64 := by have := HKL.out; omega
  refine (clone_any pv vs ps w1 (hP.below hb1 (Nat.le_refl _)) (by omega)).mono ?_
  rintro e w2 ⟨v2, rfl, hown2, hb2⟩
  have hz2 := hb2.size
  have hbw2 : Below w.heap.size w w2 := hb1.trans (hb2.mono (by have := HZ1.out; omega))
  go_wp2_with fail
  refine (changed_k (some ⟨y3.heap.size, 0, none⟩) 32 32 ky 54 54 rfl w2 HKL.out.symm (hk1.below hb2 (Nat.le_refl _)) hk64).mono ?_
  rintro e w3 ⟨rfl, hG3, hb3⟩
  have HG3 := Lib.hid hG3
  clear hG3
  have hz3 := hb3.size
  have hz3' : w2.heap.size < w3.heap.size := (Array.getElem?_eq_some_iff.1 HG3.out).1
  go_wp2_with fail
  have hb3' : Below w2.heap.size w2 (w3.alloc (.cells #[.slice (some ⟨w2.heap.size, 0, none⟩) 64 64] 22)) := hb3.alloc hz3 _
  refine (insert_any w1.heap.size w3.heap.size ps.length v2 (.slice (some ⟨w2.heap.size, 0, none⟩) 64 64) vs _ (owns_below hown2 hb3' (Nat.le_refl _)) (by simp; omega) (by omega) (by simp) rfl ?_ (by simp) (fun g hg => by have := owns_lt hown2 hg; omega) ⟨_, row_new _ _ _⟩).mono ?_
  · intro u hu
    obtain ⟨j, hj, rfl⟩ := List.getElem_of_mem hu
    have := (hP.each j (by rw [← hP.len]; exact hj)).one
    simpa [atV, hj] using this
  rintro e w4 ⟨v4, rfl, hown4, hg4⟩
  have hb4 : Below w1.heap.size w1 w4 := (hb2.trans (hb3'.mono hz2)).grown hg4 (by simp; omega) (fun g hg => owns_block hown2 hg)
  have hbw4 : Below w.heap.size w w4 := hb1.trans (hb4.mono (by have := HZ1.out; omega))
  have HG4 : Hid (w4.heap[w2.heap.size]? = some (.cells (c8 (chg ky 54)) 5 (0, 0))) := by
    show _ = _
    rw [hg4.block _ (by simp; omega) (fun e => by have := owns_lt hown2 e.symm; omega), Below.heap_alloc _ _ _ hz3']
    exact HG3.out
  have hP4 : PSl w4 v4 (.slice (some ⟨w2.heap.size, 0, none⟩) 64 64 :: vs) (chg ky 54 :: ps) := by
    refine PSl.of_owns hown4 (by simp [hP.len]) (fun j hj => ?_)
    cases j with
    | zero =>
      rw [atV_cons_zero, atP_cons_zero]
      have hl := chg_length ky 54 hk64
      exact BSl.of_row HG4.out (by rw [hl]; exact Nat.le_refl _) 64 hl.symm
    | succ j =>
      rw [atV_cons_succ, atP_cons_succ]
      exact (hP.each j (by simpa using hj)).below hbw4 (Nat.le_refl _)
  have hz4 := hb4.size
  go_wp2_with fail
  refine (sha_any v4 _ (chg ky 54 :: ps) w4 hP4 (by simp; omega) (by rw [List.flatten_cons, List.length_append, chg_length _ _ hk64]; omega) (HK.out.below hbw4 h3) (HS.out.below hbw4 h3) (by have := hbw4.size; omega)).mono ?_
  rintro e w5 ⟨rfl, hb5⟩
  have hbw5 : Below w.heap.size w w5 := hbw4.trans (hb5.mono hbw4.size)
  obtain ⟨hm, hhm⟩ : ∃ hm, hm = shaB (chg ky 54 :: ps).flatten := ⟨_, rfl⟩
  rw [← hhm]
  have hml : hm.length = 32 := by rw [hhm]; exact shaB_length _
  have HHM := Lib.hid hhm
  clear hhm
  have HI24 : Hid ((Tryd.prog.info? 24).map (·.size) = some (c8 hm).size) := by rw [c8_size, hml]; exact info24
  have HQ : Hid ((c8 (List.replicate 32 0)).size = (c8 hm).size) := by rw [c8_size, c8_size, hml]; simp [Hid]
  have HML := Lib.hid hml
  clear hml
  go_wp2_with (refine wpList_store_row rfl 24 (.tmp 6) (.tmp 20) rfl w5.heap.size (c8 hm) rfl rfl 24 _ (row_new8 w5) HI24.out HQ.out (c8_one _) ?_)
  go_frame
  generalize hw6 : (w5.alloc _).setRow w5.heap.size (c8 hm) = w6
  have hb6 : Below w5.heap.size w5 w6 := by rw [← hw6]; exact below_setRow ((Below.refl _ _).alloc (Nat.le_refl _) _) (Nat.le_refl _) _
  have HG6 : Hid (w6.heap[w5.heap.size]? = some (.cells (c8 hm) 24 (0, 0))) := by rw [← hw6]; exact setRow_heap _ _ _ _ _ _ (row_new8 w5)
  clear hw6
  have hz6 : w5.heap.size < w6.heap.size := (Array.getElem?_eq_some_iff.1 HG6.out).1
  have hbw6 : Below w.heap.size w w6 := hbw5.trans (hb6.mono hbw5.size)
  have HR6 : Hid (w6.heap[w.heap.size]? = some (.cells (c8 (List.replicate 32 0)) 24 (0, 0))) := by
    show _ = _
    rw [hb6.block _ (by have := HZ1.out; have := hb5.size; omega), hb5.block _ (by have := HZ1.out; omega), hb4.block _ (by have := HZ1.out; omega)]
    exact HR1.out
  have hT6 : w6.there w.heap.size 0 32 := by have := there_of_row HR6.out; rwa [List.length_replicate] at this
  obtain ⟨X, hX⟩ : ∃ X, X = shaB [chg ky 92, hm].flatten := ⟨_, rfl⟩
  have hXl : X.length = 32 := by rw [hX]; exact shaB_length _
  have hXc : (c8l X).length = 32 := by rw [c8l_length]; exact hXl
  have hX1 : ∀ v ∈ c8l X, v.oneCell' = true := c8l_one X
  have hi24 := info24
  have HX := Lib.hid hX
  clear hX hXl
  have hk6 := hk1.below (hb4.trans ((hb5.mono hb4.size).trans (hb6.mono (Nat.le_trans hb4.size hb5.size)))) (Nat.le_refl _)
  have hRz6 : w.heap.size < w6.heap.size := by have := HZ1.out; have := hb5.size; omega
  go_region_held3 (fun W => W.there w.heap.size 0 32) (first | exact hT6 | exact hT7 | exact there_below hT7 (alloc_below w7) (mid_lt2 hRz6 hb7) | exact hT8 | exact World.there_setCells hT8 _ _ _)
    (first | (go_at_call 54; refine (changed_k (some ⟨y3.heap.size, 0, none⟩) 32 32 ky 92 92 rfl _ HKL.out.symm ?_ hk64).mono ?_; exact hk6.same rfl; rintro e w7 ⟨rfl, hG7, hb7⟩; have HG7 := Lib.hid hG7; clear hG7; have hT7 : w7.there w.heap.size 0 32 := there_below (w := w6.drew) hT6 hb7 hRz6) | (go_at_call 12; refine (sha_any _ _ _ _ (mid_psl hk64 HML.out hz6 HG6.out HG7.out hb7) (by simp) ?_ ?_ ?_ ?_).mono ?_; exact mid_len hk64 HML.out; exact HK.out.below (mid_below hbw6 hb7) h3; exact HS.out.below (mid_below hbw6 hb7) h3; exact mid_lt h3 (mid_below hbw6 hb7); (rw [← HX.out]); rintro e w8 ⟨rfl, hb8⟩; have hT8 : w8.there w.heap.size 0 32 := there_below (there_below hT7 (alloc_below w7) (mid_lt2 hRz6 hb7)) hb8 (mid_lt3 hRz6 hb7)))
  go_wp2
  have hrs : (w8.setCells w.heap.size 0 (c8l X)).rangeAt w.heap.size 0 (c8l X) := World.rangeAt_setCells_same _ _ _ _ (by rw [hXc]; exact hT8)
  have hfin : Below w.heap.size w (w8.setCells w.heap.size 0 (c8l X)) := below_cells (Nat.le_refl _) _ _ _ ((mid_below hbw6 hb7).trans (hb8.mono (mid_below hbw6 hb7).size))
  refine bodyPost_ret (v := .agg (c8 X)) (results_mid (p := 4) (ty := 24) rfl _ _ w.heap.size (c8l X) _ rfl hrs Tryd.underlying24 rfl (by rw [hXc]; exact info24)) rfl ⟨?_, hfin⟩
  rw [HX.out, HHM.out, HKY.out]
  simp [hmS]
/-- HMAC, whatever the key. -/
theorem hmac_any (kv pv : Value) (key : List UInt8) (vs : List Value) (ps : List (List UInt8)) (w : World) (hk : BSl w kv key) (hkl : key.length ≤ 10000000000) (hP : PSl w pv vs ps) (hc0 : ps.length ≤ 100000000) (ht : ps.flatten.length ≤ 10000000000)
    (hK : GlobK w) (hS : GlobS w) (h3 : 3 < w.heap.size) :
    Calls Tryd.prog 14 #[kv, pv] w fun e w' => e = .returned (.agg (c8 (hmB key ps.flatten))) ∧ Below w.heap.size w w' := by
  unfold hmB
  by_cases h : key.length > 64
  · rw [if_pos h]; exact hmac_long kv pv key vs ps w hk h hkl hP hc0 ht hK hS h3
  · rw [if_neg h]; exact hmac_short kv pv key vs ps w hk (by omega) hP hc0 ht hK hS h3
end Go.Proofs.YtjkicmlelilcaaaDoor
namespace Go.Proofs.YtjkicmlelilcaaaDoor
set_option maxRecDepth 100000 in
theorem sha_abc : shaB [97, 98, 99] = [186, 120, 22, 191, 143, 1, 207, 234, 65, 65, 64, 222, 93, 174, 34, 35, 176, 3, 97, 163, 150, 23, 122, 156, 180, 16, 255, 97, 242, 0, 21, 173] := by decide +kernel
def jefe : List UInt8 := [74, 101, 102, 101]
def whatA : List UInt8 := [119, 104, 97, 116, 32, 100, 111, 32, 121, 97, 32, 119, 97, 110, 116, 32]
def whatB : List UInt8 := [102, 111, 114, 32, 110, 111, 116, 104, 105, 110, 103, 63]
set_option maxRecDepth 100000 in
theorem hm_jefe : hmB jefe (whatA ++ whatB) = [0x5b, 0xdc, 0xc1, 0x46, 0xbf, 0x60, 0x75, 0x4e, 0x6a, 0x04, 0x24, 0x26, 0x08, 0x95, 0x75, 0xc7, 0x5a, 0x00, 0x3f, 0x08, 0x9d, 0x27, 0x39, 0x83, 0x9d, 0xec, 0x58, 0xb9, 0x64, 0xec, 0x38, 0x43] := by decide +kernel
end Go.Proofs.YtjkicmlelilcaaaDoor
namespace Go.Proofs.YtjkicmlelilcaaaDoor
open Go.RowKit
theorem fold_push : ∀ (bs : List UInt8) (s : ByteArray), (bs.map N8).foldl (fun r n => r.push (UInt8.ofNat n.toNat)) s = ⟨s.data ++ bs.toArray⟩
  | [], s => by simp
  | c :: bs, s => by
    rw [List.map_cons, List.foldl_cons, fold_push bs]
    have : UInt8.ofNat (N8 c).toNat = c := by unfold N8; simp
    rw [this]
    congr 1
    apply Array.ext'
    simp [ByteArray.push]
/-- A slice of bytes as a string. -/
theorem conv_str {w : World} {v : Value} {bs : List UInt8} (h : BSl w v bs) : (convert 22 9 v).run Tryd.prog w = .ok (.string ⟨bs.toArray⟩) w := by
  rcases h with ⟨rfl, rfl⟩ | ⟨b, off, c, rfl, _, _, hcell⟩ | ⟨a, rfl, rfl⟩
  rotate_right
  · rw [run_convert_bytes_string w 22 9 5 _ _ 0 Tryd.underlying22 Tryd.underlying5 Tryd.underlying9]
    have hl : (loadCells a (c8l []).length).run Tryd.prog w = .ok (c8l []).toArray w := run_loadCells_list (P := Tryd.prog) w a (c8l []) (fun j u hu => by simp [c8l] at hu)
    exact run_bytesToString w a 0 0 [] hl
  · rw [run_convert_bytes_string w 22 9 5 none 0 0 Tryd.underlying22 Tryd.underlying5 Tryd.underlying9]
    rfl
  · rw [run_convert_bytes_string w 22 9 5 _ _ c Tryd.underlying22 Tryd.underlying5 Tryd.underlying9]
    have hl : (loadCells ⟨b, off, none⟩ (c8l bs).length).run Tryd.prog w = .ok (c8l bs).toArray w := run_loadCells_list (P := Tryd.prog) w ⟨b, off, none⟩ (c8l bs) (news_of hcell)
    rw [c8l_length] at hl
    have e : (c8l bs) = (bs.map N8).map (Value.int .u8) := by simp [c8l]
    rw [e] at hl
    rw [run_bytesToString w ⟨b, off, none⟩ bs.length c (bs.map N8) hl, fold_push]
    have : (ByteArray.empty.data ++ bs.toArray) = bs.toArray := by apply Array.ext'; simp
    rw [this]
theorem BSl.lit {w : World} {bs : List UInt8} {n c : Nat} {fr : Nat × Nat} (hn : n = bs.length) (hc : n ≤ c) : BSl (w.alloc (.cells (c8 bs) 5 fr)) (.slice (some ⟨w.heap.size, 0, none⟩) n c) bs := by
  subst hn
  refine .inr (.inl ⟨w.heap.size, 0, c, rfl, hc, by simp, fun j hj => ?_⟩)
  rw [Nat.zero_add, World.cell?_alloc_mark]
  exact c8_at bs j hj
/-- A hash laid into a variable that has just been made. -/
theorem wpList_store_new {w : World} {ops : Array Oper} {rest : List Oper} {o : Oper} {a : Act} {Q : Exit → Act → World → Prop} (hgd : o.guard = none) (x y : Operand) (ho : o.op = .store 24 x y) (l : List UInt8) (hl : l.length = 32)
    (hx : a.eval x = .pointer (some ⟨w.heap.size, 0, none⟩)) (hy : a.eval y = .agg (c8 l))
    (h : ∀ w', Below w.heap.size w w' → Hid (w'.heap[w.heap.size]? = some (.cells (c8 l) 24 (0, 0))) → Hid (w'.heap.size = w.heap.size + 1) → wpList Tryd.prog ops Q rest (a.put o.dst undef) w') :
    wpList Tryd.prog ops Q (o :: rest) a (w.alloc (.cells #[.int .u8 0, .int .u8 0, .int .u8 0, .int .u8 0, .int .u8 0, .int .u8 0, .int .u8 0, .int .u8 0, .int .u8 0, .int .u8 0, .int .u8 0, .int .u8 0, .int .u8 0, .int .u8 0, .int .u8 0, .int .u8 0, .int .u8 0, .int .u8 0, .int .u8 0, .int .u8 0, .int .u8 0, .int .u8 0, .int .u8 0, .int .u8 0, .int .u8 0, .int .u8 0, .int .u8 0, .int .u8 0, .int .u8 0, .int .u8 0, .int .u8 0, .int .u8 0] 24)) := by
  refine wpList_store_row hgd 24 x y ho w.heap.size (c8 l) hx hy 24 _ (row_new8 w) (by rw [c8_size, hl]; exact info24) (by rw [c8_size, c8_size, hl]; rfl) (c8_one _) ?_
  exact h _ (below_setRow (alloc_below w) (Nat.le_refl _) _) (setRow_heap _ _ _ _ _ _ (row_new8 w)) (by show _ = _; simp)
theorem str_at {w : World} {b T : Nat} {l : List UInt8} (h : w.heap[b]? = some (.cells (c8 l) T (0, 0))) (off n c : Nat) (hn : off + n ≤ l.length) (hc : n ≤ c := by decide) :
    (convert 22 9 (.slice (some ⟨b, off, none⟩) n c)).run Tryd.prog w = .ok (.string ⟨((l.drop off).take n).toArray⟩) w := by
  refine conv_str (.inr (.inl ⟨b, off, c, ?_, ?_, (Array.getElem?_eq_some_iff.1 h).1, fun j hj => ?_⟩))
  · simp; omega
  · simp; omega
  · have hj' : j < n := by simp at hj; omega
    rw [row8_cell h (off + j) (by omega)]
    unfold at8
    rw [List.getD_eq_getElem?_getD, List.getD_eq_getElem?_getD, List.getElem?_take, if_pos hj', List.getElem?_drop]
theorem kc0 (w : World) (C : Array Value) (n c : Nat) : (convert 22 22 (.slice (some ⟨w.heap.size, 0, none⟩) n c)).run Tryd.prog (w.alloc (.cells C 5)) = .ok (.slice (some ⟨w.heap.size, 0, none⟩) n c) (w.alloc (.cells C 5 (C.size, C.size + 1))) :=
  Lib.run_convert_bytes_const (P := Tryd.prog) w 22 5 C n c Tryd.underlying22 Tryd.underlying5
theorem kc1 (w : World) (o1 : Obj) (C : Array Value) (n c : Nat) : (convert 22 22 (.slice (some ⟨w.heap.size + 1, 0, none⟩) n c)).run Tryd.prog ((w.alloc o1).alloc (.cells C 5)) = .ok (.slice (some ⟨w.heap.size + 1, 0, none⟩) n c) ((w.alloc o1).alloc (.cells C 5 (C.size, C.size + 1))) := by
  have h := kc0 (w.alloc o1) C n c
  rwa [World.size_alloc] at h
theorem kc2 (w : World) (o1 o2 : Obj) (C : Array Value) (n c : Nat) : (convert 22 22 (.slice (some ⟨w.heap.size + 2, 0, none⟩) n c)).run Tryd.prog (((w.alloc o1).alloc o2).alloc (.cells C 5)) = .ok (.slice (some ⟨w.heap.size + 2, 0, none⟩) n c) (((w.alloc o1).alloc o2).alloc (.cells C 5 (C.size, C.size + 1))) := by
  have h := kc1 (w.alloc o1) o2 C n c
  rwa [World.size_alloc] at h
theorem jefe_w (w : World) : ∃ W, W = (((w.alloc (.cells #[.int .u8 74, .int .u8 101, .int .u8 102, .int .u8 101] 5 (4, 5))).alloc (.cells #[.int .u8 119, .int .u8 104, .int .u8 97, .int .u8 116, .int .u8 32, .int .u8 100, .int .u8 111, .int .u8 32, .int .u8 121, .int .u8 97, .int .u8 32, .int .u8 119, .int .u8 97, .int .u8 110, .int .u8 116, .int .u8 32] 5 (16, 17))).alloc (.cells #[.int .u8 102, .int .u8 111, .int .u8 114, .int .u8 32, .int .u8 110, .int .u8 111, .int .u8 116, .int .u8 104, .int .u8 105, .int .u8 110, .int .u8 103, .int .u8 63] 5 (12, 13))).alloc (.cells #[.slice (some ⟨w.heap.size + 1, 0, none⟩) 16 16, .slice (some ⟨w.heap.size + 2, 0, none⟩) 12 12] 22) ∧ Below w.heap.size w W ∧ BSl W (.slice (some ⟨w.heap.size, 0, none⟩) 4 4) jefe ∧
    PSl W (.slice (some ⟨w.heap.size + 1 + 1 + 1, 0, none⟩) 2 2) [.slice (some ⟨w.heap.size + 1, 0, none⟩) 16 16, .slice (some ⟨w.heap.size + 2, 0, none⟩) 12 12] [whatA, whatB] := by
  refine ⟨_, rfl, (((alloc_below w).alloc (by simp) _).alloc (by simp; omega) _).alloc (by simp; omega) _, ?_, ?_⟩
  · have h0 : BSl (w.alloc (.cells #[.int .u8 74, .int .u8 101, .int .u8 102, .int .u8 101] 5 (4, 5))) (.slice (some ⟨w.heap.size, 0, none⟩) 4 4) jefe := BSl.lit (w := w) (bs := jefe) rfl (Nat.le_refl _)
    exact ((h0.below (alloc_below _) (Nat.le_refl _)).below (alloc_below _) (Nat.le_refl _)).below (alloc_below _) (Nat.le_refl _)
  · have h1 : BSl ((w.alloc (.cells #[.int .u8 74, .int .u8 101, .int .u8 102, .int .u8 101] 5 (4, 5))).alloc (.cells #[.int .u8 119, .int .u8 104, .int .u8 97, .int .u8 116, .int .u8 32, .int .u8 100, .int .u8 111, .int .u8 32, .int .u8 121, .int .u8 97, .int .u8 32, .int .u8 119, .int .u8 97, .int .u8 110, .int .u8 116, .int .u8 32] 5 (16, 17))) (.slice (some ⟨(w.alloc (.cells #[.int .u8 74, .int .u8 101, .int .u8 102, .int .u8 101] 5 (4, 5))).heap.size, 0, none⟩) 16 16) whatA := BSl.lit (bs := whatA) rfl (Nat.le_refl _)
    have h2 : BSl (((w.alloc (.cells #[.int .u8 74, .int .u8 101, .int .u8 102, .int .u8 101] 5 (4, 5))).alloc (.cells #[.int .u8 119, .int .u8 104, .int .u8 97, .int .u8 116, .int .u8 32, .int .u8 100, .int .u8 111, .int .u8 32, .int .u8 121, .int .u8 97, .int .u8 32, .int .u8 119, .int .u8 97, .int .u8 110, .int .u8 116, .int .u8 32] 5 (16, 17))).alloc (.cells #[.int .u8 102, .int .u8 111, .int .u8 114, .int .u8 32, .int .u8 110, .int .u8 111, .int .u8 116, .int .u8 104, .int .u8 105, .int .u8 110, .int .u8 103, .int .u8 63] 5 (12, 13))) (.slice (some ⟨((w.alloc (.cells #[.int .u8 74, .int .u8 101, .int .u8 102, .int .u8 101] 5 (4, 5))).alloc (.cells #[.int .u8 119, .int .u8 104, .int .u8 97, .int .u8 116, .int .u8 32, .int .u8 100, .int .u8 111, .int .u8 32, .int .u8 121, .int .u8 97, .int .u8 32, .int .u8 119, .int .u8 97, .int .u8 110, .int .u8 116, .int .u8 32] 5 (16, 17))).heap.size, 0, none⟩) 12 12) whatB := BSl.lit (bs := whatB) rfl (Nat.le_refl _)
    have h := two_psl (h1.below (alloc_below _) (Nat.le_refl _)) h2
    simp only [World.size_alloc] at h
    exact h
attribute [local irreducible] chg shaB hmB
set_option maxRecDepth 100000 in
set_option maxHeartbeats 1000000 in
theorem tells_any (w : World) (hK : GlobK w) (hS : GlobS w) (h3 : 3 < w.heap.size) : Calls Tryd.prog 16 #[] w fun e w' => e = .returned (.bool true) ∧ Below w.heap.size w w' := by
  have HK : Hid (GlobK w) := hK
  have HS : Hid (GlobS w) := hS
  clear hK hS
  have k0 := kc0
  have k1 := kc1
  have k2 := kc2
  go_enter Tryd.func16, Tryd.ntmps16
  go_wp2_with fail
  have hp1 : PSl ((w.alloc (.cells #[.int .u8 97, .int .u8 98, .int .u8 99] 5 (3, 4))).alloc (.cells #[.slice (some ⟨w.heap.size, 0, none⟩) 3 3] 22)) (.slice (some ⟨w.heap.size + 1, 0, none⟩) 1 1) [.slice (some ⟨w.heap.size, 0, none⟩) 3 3] [[97, 98, 99]] := by
    have h := one_psl (BSl.lit (w := w) (bs := [97, 98, 99]) (n := 3) (c := 3) (fr := (3, 4)) rfl (Nat.le_refl _))
    rw [World.size_alloc] at h
    exact h
  have hb1 : Below w.heap.size w ((w.alloc (.cells #[.int .u8 97, .int .u8 98, .int .u8 99] 5 (3, 4))).alloc (.cells #[.slice (some ⟨w.heap.size, 0, none⟩) 3 3] 22)) := (alloc_below w).alloc (by simp) _
  refine (sha_any _ _ _ _ hp1 (by simp) (by simp) (HK.out.below hb1 h3) (HS.out.below hb1 h3) (mid_lt h3 hb1)).mono ?_
  rintro e w2 ⟨rfl, hb2⟩
  have hbw2 : Below w.heap.size w w2 := hb1.trans (hb2.mono (by simp; omega))
  rw [show ([[97, 98, 99]] : List (List UInt8)).flatten = [97, 98, 99] from rfl, sha_abc]
  obtain ⟨A, hA⟩ : ∃ A : List UInt8, A = [186, 120, 22, 191, 143, 1, 207, 234, 65, 65, 64, 222, 93, 174, 34, 35, 176, 3, 97, 163, 150, 23, 122, 156, 180, 16, 255, 97, 242, 0, 21, 173] := ⟨_, rfl⟩
  rw [← hA]
  have HA := Lib.hid hA
  clear hA hp1 hb1 hb2
  have HAL : Hid (A.length = 32) := by rw [HA.out]; rfl
  go_wp2_with (refine wpList_store_new (o := { dst := none, op := .store 24 (.tmp 1) (.tmp 6), type := _, pos := _, after := _, guard := none }) rfl (.tmp 1) (.tmp 6) rfl A HAL.out rfl rfl ?_; intro w3 hb3 HG3 HZ3)
  obtain ⟨W, hW, hbW, hJ, hPJ⟩ := jefe_w w3
  rw [← hW]
  clear hW k0 k1 k2
  have hbw3 : Below w.heap.size w w3 := hbw2.trans (hb3.mono hbw2.size)
  have hbwW : Below w.heap.size w W := hbw3.trans (hbW.mono hbw3.size)
  refine (hmac_any _ _ jefe _ [whatA, whatB] W hJ (by decide) hPJ (by simp) (by decide) (HK.out.below hbwW h3) (HS.out.below hbwW h3) (mid_lt h3 hbwW)).mono ?_
  rintro e w4 ⟨rfl, hb4⟩
  have hbw4 : Below w.heap.size w w4 := hbwW.trans (hb4.mono hbwW.size)
  rw [show ([whatA, whatB] : List (List UInt8)).flatten = whatA ++ whatB from rfl, hm_jefe]
  obtain ⟨Bh, hBh⟩ : ∃ Bh : List UInt8, Bh = [0x5b, 0xdc, 0xc1, 0x46, 0xbf, 0x60, 0x75, 0x4e, 0x6a, 0x04, 0x24, 0x26, 0x08, 0x95, 0x75, 0xc7, 0x5a, 0x00, 0x3f, 0x08, 0x9d, 0x27, 0x39, 0x83, 0x9d, 0xec, 0x58, 0xb9, 0x64, 0xec, 0x38, 0x43] := ⟨_, rfl⟩
  rw [← hBh]
  have HB := Lib.hid hBh
  clear hBh
  have HBL : Hid (Bh.length = 32) := by rw [HB.out]; rfl
  have HG4 : Hid (w4.heap[w2.heap.size]? = some (.cells (c8 A) 24 (0, 0))) := by
    show _ = _
    rw [hb4.block _ (by have := HZ3.out; have := hbW.size; omega), hbW.block _ (by have := HZ3.out; omega)]
    exact HG3.out
  have t1 : List.take 4 A = [186, 120, 22, 191] := by rw [HA.out]; rfl
  have t2 : List.take 4 (List.drop 28 A) = [242, 0, 21, 173] := by rw [HA.out]; rfl
  have t3 : List.take 4 Bh = [91, 220, 193, 70] := by rw [HB.out]; rfl
  have t4 : List.take 4 (List.drop 28 Bh) = [100, 236, 56, 67] := by rw [HB.out]; rfl
  have hz24 : w2.heap.size < w4.heap.size := (Array.getElem?_eq_some_iff.1 HG4.out).1
  go_wp2_with (refine wpList_store_new (o := { dst := none, op := .store 24 (.tmp 2) (.tmp 14), type := _, pos := _, after := _, guard := none }) rfl (.tmp 2) (.tmp 14) rfl Bh HBL.out rfl rfl ?_; intro w5 hb5 HG5 HZ5; have HG5' : Hid (w5.heap[w2.heap.size]? = some (.cells (c8 A) 24 (0, 0))) := (hb5.block _ hz24).trans HG4.out; have s1 := str_at HG5'.out 0 4 32 (by rw [HAL.out]; decide); have s2 := str_at HG5'.out 28 4 4 (by rw [HAL.out]; decide); have s3 := str_at HG5.out 0 4 32 (by rw [HBL.out]; decide); have s4 := str_at HG5.out 28 4 4 (by rw [HBL.out]; decide))
  go_ret
  exact ⟨rfl, hbw4.trans (hb5.mono hbw4.size)⟩
end Go.Proofs.YtjkicmlelilcaaaDoor
namespace Go.Proofs.YtjkicmlelilcaaaDoor
open Go.RowKit
/-- A word turned right by one, by k. -/
def r1 (m : UInt32) : UInt32 := UInt32.ofNat (m.toNat / 2 + m.toNat % 2 * 2147483648)
def rTo (n : UInt32) : Nat → UInt32
  | 0 => n
  | k + 1 => r1 (rTo n k)
theorem r1_nat (m : UInt32) : (r1 m).toNat = m.toNat / 2 + m.toNat % 2 * 2147483648 := by
  have := m.toNat_lt
  unfold r1; rw [UInt32.toNat_ofNat']; omega
theorem rTo_nat (n : UInt32) (k : Nat) (h : k ≤ 32) : (rTo n k).toNat = n.toNat / 2 ^ k + n.toNat % 2 ^ k * 2 ^ (32 - k) := by
  induction k with
  | zero => simp [rTo, Nat.mod_one]
  | succ k ih =>
    have ih := ih (by omega)
    rw [rTo, r1_nat, ih]
    have e1 : 2 ^ (32 - k) = 2 * 2 ^ (32 - (k + 1)) := by rw [show 32 - k = (32 - (k + 1)) + 1 by omega, Nat.pow_succ]; omega
    have e2 : 2 ^ k * 2 ^ (32 - (k + 1)) = 2147483648 := by rw [← Nat.pow_add, show k + (32 - (k + 1)) = 31 by omega]
    have e3 : n.toNat / 2 ^ (k + 1) = n.toNat / 2 ^ k / 2 := by rw [Nat.pow_succ, Nat.div_div_eq_div_mul]
    have e4 : n.toNat % 2 ^ (k + 1) = n.toNat % 2 ^ k + 2 ^ k * (n.toNat / 2 ^ k % 2) := by rw [Nat.pow_succ, Nat.mod_mul]
    rw [e3, e4, e1]
    generalize n.toNat / 2 ^ k = a
    generalize n.toNat % 2 ^ k = b
    generalize hp : 2 ^ (32 - (k + 1)) = p at *
    have e5 : (a + b * (2 * p)) = a + 2 * (b * p) := by rw [← Nat.mul_assoc, Nat.mul_comm b 2, Nat.mul_assoc]
    have e6 : (b + 2 ^ k * (a % 2)) * p = b * p + a % 2 * 2147483648 := by rw [Nat.add_mul, ← e2, Nat.mul_right_comm, Nat.mul_comm (2 ^ k * p) (a % 2)]
    rw [e5, e6]
    omega
theorem ror_rTo (n : UInt32) (x : Nat) (h : x < 32) : rTo n x = ror n x := by
  apply UInt32.toNat_inj.1
  rw [rTo_nat n x (by omega)]
  unfold ror
  rw [UInt32.toNat_or, UInt32.toNat_ofNat', UInt32.toNat_ofNat']
  have hn := n.toNat_lt
  have hp : 2 ^ x * 2 ^ (32 - x) = 2 ^ 32 := by rw [← Nat.pow_add, show x + (32 - x) = 32 by omega]
  have h1 : n.toNat / 2 ^ x < 2 ^ (32 - x) := by rw [Nat.div_lt_iff_lt_mul (Nat.two_pow_pos x), Nat.mul_comm, hp]; omega
  have h2 : n.toNat * 2 ^ (32 - x) % 2 ^ 32 = 2 ^ (32 - x) * (n.toNat % 2 ^ x) := by rw [← hp, Nat.mul_mod_mul_right, Nat.mul_comm]
  have h3 : n.toNat / 2 ^ x % 2 ^ 32 = n.toNat / 2 ^ x := Nat.mod_eq_of_lt (Nat.lt_of_le_of_lt (Nat.div_le_self _ _) hn)
  rw [h2, h3, ← Nat.two_pow_add_eq_or_of_lt h1, Nat.add_comm, Nat.mul_comm]
theorem sror_succ (n : UInt32) (k : Nat) : N32 (sror n k) / 2 = N32 (sror n (k + 1)) := by
  rw [← sror_eq, ← sror_eq, Int.ediv_ediv_of_nonneg (by exact Int.pow_nonneg (by decide)), Int.pow_succ]
theorem r1_int (m : UInt32) : N32 m / 2 + N32 m % 2 * 2147483648 = N32 (r1 m) := by
  unfold N32; rw [r1_nat]; omega
theorem sror_zero (n : UInt32) : sror n 0 = n := by unfold sror; simp
end Go.Proofs.YtjkicmlelilcaaaDoor
namespace Go.Proofs.YtjkicmlelilcaaaDoor
open Go
def c50 : ACode := (.seq (.reg [⟨(.aop (.mov (.lit (.int .u32 (0))))), (some 4), none⟩]) (.seq (.seq (.reg [⟨(.aop (.mov (.lit (.int .i64 (0))))), (some 5), none⟩]) (.block 0 (.loop (.seq (.seq (.reg [⟨(.aop (.mov (.slot 5))), (some 7), none⟩, ⟨(.aop (.mov (.slot 1))), (some 8), none⟩, ⟨(.aop (.bin .lss (.slot 7) (.slot 8))), (some 9), none⟩]) (.cond (.slot 9) .skip (.exit 0))) (.seq (.block 1 (.seq (.reg [⟨(.aop (.mov (.slot 0))), (some 12), none⟩, ⟨(.aop (.bin .rem (.slot 12) (.lit (.int .u32 (2))))), (some 13), none⟩, ⟨(.aop (.mov (.slot 13))), (some 6), none⟩]) (.reg [⟨(.aop (.mov (.slot 0))), (some 14), none⟩, ⟨(.aop (.bin .quo (.slot 14) (.lit (.int .u32 (2))))), (some 15), none⟩, ⟨(.aop (.mov (.slot 6))), (some 16), none⟩, ⟨(.aop (.bin .mul (.slot 16) (.lit (.int .u32 (2147483648))))), (some 17), none⟩, ⟨(.aop (.bin .add (.slot 15) (.slot 17))), (some 18), none⟩, ⟨(.aop (.mov (.slot 18))), (some 0), none⟩]))) (.reg [⟨(.aop (.mov (.slot 5))), (some 10), none⟩, ⟨(.aop (.bin .add (.slot 10) (.lit (.int .i64 (1))))), (some 11), none⟩, ⟨(.aop (.mov (.slot 11))), (some 5), none⟩])))))) (.seq (.reg [⟨(.aop (.mov (.slot 0))), (some 19), none⟩, ⟨(.aop (.mov (.slot 19))), (some 4), none⟩]) .ret)))
theorem comp50 : compC Tryd.prog 4 Tryd.f50.ntmps (fun _ => false) (Tryd.f50.body.getD .skip) = some c50 := by kernel_rfl
theorem right_avc (Γ : Gam) (n : UInt32) (x : Nat) (hx : x < 32) (nt N : Nat) (σ : AH) (hN : N ≤ σ.next) (K : AK) (hK : ∀ env, env.get 4 = some (.int .u32 (N32 (rTo n x))) → K .ret env σ) :
    avc std Γ 4 nt N c50 K (envOf [.int .u32 (N32 n), .int .i64 x] 0 .leaf) σ := by
  obtain ⟨A, hA⟩ : ∃ A, A = std := ⟨_, rfl⟩
  rw [← hA]
  unfold c50
  obtain ⟨n0, hn0⟩ : ∃ n0, n0 = N32 n := ⟨_, rfl⟩
  obtain ⟨x0, hx0⟩ : ∃ x0 : Int, x0 = (x : Int) := ⟨_, rfl⟩
  rw [← hn0, ← hx0]
  refine avc_seq_reg (by cbv) rfl (avc_seq_seq (avc_seq_reg (by cbv) rfl (avc_seq_block (avc_loop
    (fun env σ' => σ' = σ ∧ ∃ k : Nat, k ≤ x ∧ env = ofL [(0, .int .u32 (N32 (rTo n k))), (1, .int .i64 x0), (5, .int .i64 k)]) (fun env _ => match env.get 5 with | some (.int _ k) => x - k.toNat | _ => 0)
    (Wk.env (l := [(0, .int .u32 n0), (1, .int .i64 x0), (5, .int .i64 0)]) (by cbv) hN) ?_ ?_))))
  · exact ⟨rfl, 0, by omega, by rw [hn0]; rfl⟩
  · rintro env σ' ⟨rfl, k, hk, rfl⟩
    obtain ⟨r0, hr0⟩ : ∃ r0, r0 = N32 (rTo n k) := ⟨_, rfl⟩
    obtain ⟨k0, hk0⟩ : ∃ k0 : Int, k0 = (k : Int) := ⟨_, rfl⟩
    rw [← hr0, ← hk0]
    have hb := N32_bd (rTo n k)
    have HE := r1_int (rTo n k)
    refine avc_seq_seq (avc_seq_reg (by cbv) rfl (avc_seq_cond (t := A.lt k0 x0) (by cbv) (fun ht => ?_) (fun ht => ?_)))
    · refine avc_seq_skip (avc_seq_block (avc_seq_reg (by cbv) ?_ (avc_reg (by cbv) ?_ ?_)))
      · subst hA; simp [std]
      · subst hA; simp [std]
      · show avc A Γ 4 nt N _ _ _ _
        refine avc_reg (by cbv) rfl ?_
        obtain ⟨r1, hr1⟩ : ∃ r1, r1 = N32 (rTo n (k + 1)) := ⟨_, rfl⟩
        obtain ⟨k1, hk1⟩ : ∃ k1 : Int, k1 = ((k + 1 : Nat) : Int) := ⟨_, rfl⟩
        have HR1 : r0 / 2 + r0 % 2 * 2147483648 = r1 := by rw [hr1, hr0]; exact HE
        refine ⟨_, _, Wk.env (l := [(0, .int .u32 r1), (1, .int .i64 x0), (5, .int .i64 k1)]) ⟨⟨?_, rfl⟩, ⟨by cbv, rfl⟩, ⟨?_, rfl⟩, trivial⟩ hN, ⟨rfl, k + 1, ?_, by rw [hr1, hk1]⟩, ?_⟩
        · conv => lhs; cbv
          subst hA
          have e0 : r0.tdiv 2 = r0 / 2 := Int.tdiv_eq_ediv_of_nonneg (by omega)
          have e1 : r0.tmod 2 = r0 % 2 := Int.tmod_eq_emod_of_nonneg (by omega)
          simp only [std, wr, e0, e1]
          congr 2; omega
        · conv => lhs; cbv
          subst hA
          simp only [std, wr]
          congr 2; omega
        · have : k < x := by subst hA; simp only [std, decide_eq_true_eq] at ht; omega
          omega
        · have : k < x := by subst hA; simp only [std, decide_eq_true_eq] at ht; omega
          have e1 : (ofL [(0, .int .u32 r1), (1, .int .i64 x0), (5, .int .i64 k1)]).get 5 = some (.int .i64 k1) := by cbv
          have e0 : (ofL [(0, .int .u32 r0), (1, .int .i64 x0), (5, .int .i64 k0)]).get 5 = some (.int .i64 k0) := by cbv
          rw [e1, e0]
          show x - k1.toNat < x - k0.toNat
          omega
    · refine avc_seq_exit ?_
      show avc A Γ 4 nt N _ _ _ _
      refine avc_seq_reg (by cbv) rfl ?_
      refine hK _ ?_
      have : k = x := by subst hA; simp only [std, decide_eq_false_iff_not] at ht; omega
      rw [← this, ← hr0]
      cbv
def Γ0 : Gam := fun _ _ σ => bad σ
theorem gam0_ok : GamOk Tryd.prog 4 Γ0 := fun f args σ h => by cases h
theorem pu0_ok : PuOk Γ0 fun _ => false := fun f h => by cases h
theorem mixed : Tryd.prog.follows .mixedOrders = true := by kernel_rfl
theorem body50 : Tryd.f50.body = some (Tryd.f50.body.getD .skip) := by kernel_rfl
theorem c50_ok (n : UInt32) (x : Nat) (hx : x < 32) {ρ : Ren} {σ : AH} {W : World} (hr : HR ρ σ W) (hG : ∀ g, g < 4 → ∃ s, ρ g = some (g, (0, s))) {vs : List Value} (hvs : VRs ρ [.int .u32 (N32 n), .int .i64 x] vs) :
    Calls Tryd.prog 50 vs.toArray W fun e W' => ∃ v av σ' ρ', e = .returned v ∧ (av = .int .u32 (N32 (ror n x)) ∧ σ' = σ) ∧ HR ρ' σ' W' ∧ Stp σ.next ρ σ W ρ' σ' W' ∧ VR ρ' av v := by
  refine call_sound (xs := [.tmp 4]) mixed gam0_ok pu0_ok Tryd.func50 body50 comp50 (by kernel_rfl) (by kernel_rfl) (by kernel_rfl) (right_avc Γ0 n x hx _ _ σ (Nat.le_refl _) _ fun env he => ⟨trivial, rfl, ?_, rfl⟩) hG hr hvs
  rw [← ror_rTo n x hx]
  show evS env (.slot 4) = _
  simp only [evS, he]
end Go.Proofs.YtjkicmlelilcaaaDoor
namespace Go.Proofs.YtjkicmlelilcaaaDoor
open Go.RowKit
/-! The plain law. -/
theorem at8_set_self {l : List UInt8} {i : Nat} {x : UInt8} (h : i < l.length) : at8 (l.set i x) i = x := by
  unfold at8; rw [List.getD_eq_getElem?_getD, List.getElem?_set_self h]; rfl
theorem at8_set_ne {l : List UInt8} {i j : Nat} {x : UInt8} (h : i ≠ j) : at8 (l.set i x) j = at8 l j := by
  unfold at8; rw [List.getD_eq_getElem?_getD, List.getElem?_set_ne h, List.getD_eq_getElem?_getD]
theorem chgTo_at (key : List UInt8) (c : UInt8) (hk : key.length ≤ 64) (n i : Nat) (hi : i < 64) : at8 (chgTo key c n) i = if i < n then at8 (keyW key) i ^^^ c else at8 (keyW key) i := by
  induction n generalizing i with
  | zero => simp [chgTo]
  | succ n ih =>
    by_cases h : n = i
    · subst h; rw [chgTo, at8_set_self (by rw [chgTo_length _ _ _ hk]; exact hi), if_pos (by omega), ih n hi, if_neg (by omega)]
    · rw [chgTo, at8_set_ne h, ih i hi]
      by_cases h2 : i < n
      · rw [if_pos h2, if_pos (by omega)]
      · rw [if_neg h2, if_neg (by omega)]
end Go.Proofs.YtjkicmlelilcaaaDoor
namespace Go.Proofs.YtjkicmlelilcaaaDoor
open Go.RowKit
theorem putB_nat (x : UInt32) (c : UInt8) (h : x.toNat < 16777216) : (putB x c).toNat = x.toNat * 256 + c.toNat := by
  have hc := c.toNat_lt
  unfold putB
  rw [UInt32.toNat_or, UInt32.toNat_ofNat', UInt32.toNat_ofNat', Nat.mod_eq_of_lt (by omega), Nat.mod_eq_of_lt (by omega)]
  have := Nat.two_pow_add_eq_or_of_lt (i := 8) (b := c.toNat) (by omega) x.toNat
  rw [show x.toNat * 256 = 2 ^ 8 * x.toNat by omega, ← this]
theorem word_nat (bs : List UInt8) (t : Nat) : (wordTo bs t 4).toNat = (at8 bs (4 * t)).toNat * 16777216 + (at8 bs (4 * t + 1)).toNat * 65536 + (at8 bs (4 * t + 2)).toNat * 256 + (at8 bs (4 * t + 3)).toNat := by
  have h0 := (at8 bs (4 * t)).toNat_lt
  have h1 := (at8 bs (4 * t + 1)).toNat_lt
  have h2 := (at8 bs (4 * t + 2)).toNat_lt
  have e0 : (wordTo bs t 1).toNat = (at8 bs (4 * t)).toNat := by
    show (putB 0 (at8 bs (4 * t + 0))).toNat = _
    rw [putB_nat _ _ (by decide)]; simp
  have e1 : (wordTo bs t 2).toNat = (at8 bs (4 * t)).toNat * 256 + (at8 bs (4 * t + 1)).toNat := by
    rw [wordTo, putB_nat _ _ (by omega), e0]
  have e2 : (wordTo bs t 3).toNat = (at8 bs (4 * t)).toNat * 65536 + (at8 bs (4 * t + 1)).toNat * 256 + (at8 bs (4 * t + 2)).toNat := by
    rw [wordTo, putB_nat _ _ (by omega), e1]; omega
  rw [wordTo, putB_nat _ _ (by omega), e2]; omega
theorem word_int (bs : List UInt8) (t : Nat) : N8 (at8 bs (4 * t)) * 16777216 + N8 (at8 bs (4 * t + 1)) * 65536 + N8 (at8 bs (4 * t + 2)) * 256 + N8 (at8 bs (4 * t + 3)) = N32 (wordTo bs t 4) := by
  unfold N8 N32; rw [word_nat]; omega
theorem not_int (x : UInt32) : 4294967295 - N32 x = N32 (~~~ x) := by
  unfold N32
  have := x.toNat_lt
  have e : (~~~ x).toNat = 4294967295 - x.toNat := by rw [UInt32.toNat_not]; rfl
  rw [e]; omega
/-- The schedule's first t words. -/
def schT (bs : List UInt8) (t : Nat) : List UInt32 := (schedTo bs t).take t
theorem schT_length (bs : List UInt8) (t : Nat) (h : t ≤ 64) : (schT bs t).length = t := by simp [schT, schedTo_length]; omega
theorem schT_succ (bs : List UInt8) (t : Nat) (h : t < 64) : schT bs (t + 1) = schT bs t ++ [if t < 16 then wordTo bs t 4 else nextW (schedTo bs t) t] := by
  unfold schT
  rw [schedTo, List.take_succ_eq_append_getElem (by simp [schedTo_length]; omega), List.take_set_of_le (by omega)]
  simp
theorem schT_at (bs : List UInt8) (t i : Nat) (h : i < t) : at32 (schT bs t) i = at32 (schedTo bs t) i := by
  unfold schT at32
  rw [List.getD_eq_getElem?_getD, List.getElem?_take, if_pos h, List.getD_eq_getElem?_getD]
theorem schT_all (bs : List UInt8) : schT bs 64 = schedTo bs 64 := by
  unfold schT; exact List.take_of_length_le (by rw [schedTo_length]; omega)
/-- Zeros laid one by one. -/
def zerTo (bs : List UInt8) (j : Nat) : List UInt8 := bs ++ [128] ++ List.replicate j 0
theorem zerTo_length (bs : List UInt8) (j : Nat) : (zerTo bs j).length = bs.length + 1 + j := by simp [zerTo]; omega
theorem zerTo_succ (bs : List UInt8) (j : Nat) : zerTo bs j ++ [0] = zerTo bs (j + 1) := by
  unfold zerTo; rw [List.append_assoc, List.replicate_succ']
theorem padZ_lt (n : Nat) : padZ n < 64 := by unfold padZ; omega
theorem padZ_stop (n j : Nat) (h : j < padZ n) : (n + 1 + j) % 64 ≠ 56 := by unfold padZ at h; omega
theorem padZ_end (n : Nat) : (n + 1 + padZ n) % 64 = 56 := by unfold padZ; omega
end Go.Proofs.YtjkicmlelilcaaaDoor
namespace Go.Proofs.YtjkicmlelilcaaaDoor
open Go
def c51 : ACode := (.seq (.reg [⟨(.aop (.mov (.lit (.int .u32 (0))))), (some 4), none⟩]) (.seq (.seq (.reg [⟨(.aop (.mov (.lit (.int .i64 (0))))), (some 5), none⟩]) (.block 0 (.loop (.seq (.seq (.reg [⟨(.aop (.mov (.slot 5))), (some 6), none⟩, ⟨(.aop (.mov (.slot 1))), (some 7), none⟩, ⟨(.aop (.bin .lss (.slot 6) (.slot 7))), (some 8), none⟩]) (.cond (.slot 8) .skip (.exit 0))) (.seq (.block 1 (.reg [⟨(.aop (.mov (.slot 0))), (some 11), none⟩, ⟨(.aop (.bin .quo (.slot 11) (.lit (.int .u32 (2))))), (some 12), none⟩, ⟨(.aop (.mov (.slot 12))), (some 0), none⟩])) (.reg [⟨(.aop (.mov (.slot 5))), (some 9), none⟩, ⟨(.aop (.bin .add (.slot 9) (.lit (.int .i64 (1))))), (some 10), none⟩, ⟨(.aop (.mov (.slot 10))), (some 5), none⟩])))))) (.seq (.reg [⟨(.aop (.mov (.slot 0))), (some 13), none⟩, ⟨(.aop (.mov (.slot 13))), (some 4), none⟩]) .ret)))
theorem comp51 : compC Tryd.prog 4 Tryd.f51.ntmps (fun _ => false) (Tryd.f51.body.getD .skip) = some c51 := by kernel_rfl
theorem shift_avc (Γ : Gam) (n : UInt32) (x : Nat) (hx : x < 32) (nt N : Nat) (σ : AH) (hN : N ≤ σ.next) (K : AK) (hK : ∀ env, env.get 4 = some (.int .u32 (N32 (sror n x))) → K .ret env σ) :
    avc std Γ 4 nt N c51 K (envOf [.int .u32 (N32 n), .int .i64 x] 0 .leaf) σ := by
  obtain ⟨A, hA⟩ : ∃ A, A = std := ⟨_, rfl⟩
  rw [← hA]
  unfold c51
  obtain ⟨n0, hn0⟩ : ∃ n0, n0 = N32 n := ⟨_, rfl⟩
  obtain ⟨x0, hx0⟩ : ∃ x0 : Int, x0 = (x : Int) := ⟨_, rfl⟩
  rw [← hn0, ← hx0]
  refine avc_seq_reg (by cbv) rfl (avc_seq_seq (avc_seq_reg (by cbv) rfl (avc_seq_block (avc_loop
    (fun env σ' => σ' = σ ∧ ∃ k : Nat, k ≤ x ∧ env = ofL [(0, .int .u32 (N32 (sror n k))), (1, .int .i64 x0), (5, .int .i64 k)]) (fun env _ => match env.get 5 with | some (.int _ k) => x - k.toNat | _ => 0)
    (Wk.env (l := [(0, .int .u32 n0), (1, .int .i64 x0), (5, .int .i64 0)]) (by cbv) hN) ?_ ?_))))
  · exact ⟨rfl, 0, by omega, by rw [hn0, sror_zero]; rfl⟩
  · rintro env σ' ⟨rfl, k, hk, rfl⟩
    obtain ⟨r0, hr0⟩ : ∃ r0, r0 = N32 (sror n k) := ⟨_, rfl⟩
    obtain ⟨k0, hk0⟩ : ∃ k0 : Int, k0 = (k : Int) := ⟨_, rfl⟩
    rw [← hr0, ← hk0]
    have hb := N32_bd (sror n k)
    have HE := sror_succ n k
    refine avc_seq_seq (avc_seq_reg (by cbv) rfl (avc_seq_cond (t := A.lt k0 x0) (by cbv) (fun ht => ?_) (fun ht => ?_)))
    · refine avc_seq_skip (avc_seq_block (avc_reg (by cbv) ?_ ?_))
      · subst hA; simp [std]
      · show avc A Γ 4 nt N _ _ _ _
        refine avc_reg (by cbv) rfl ?_
        obtain ⟨r1, hr1⟩ : ∃ r1, r1 = N32 (sror n (k + 1)) := ⟨_, rfl⟩
        obtain ⟨k1, hk1⟩ : ∃ k1 : Int, k1 = ((k + 1 : Nat) : Int) := ⟨_, rfl⟩
        have HR1 : r0 / 2 = r1 := by rw [hr1, hr0]; exact HE
        refine ⟨_, _, Wk.env (l := [(0, .int .u32 r1), (1, .int .i64 x0), (5, .int .i64 k1)]) ⟨⟨?_, rfl⟩, ⟨by cbv, rfl⟩, ⟨?_, rfl⟩, trivial⟩ hN, ⟨rfl, k + 1, ?_, by rw [hr1, hk1]⟩, ?_⟩
        · conv => lhs; cbv
          subst hA
          have e0 : r0.tdiv 2 = r0 / 2 := Int.tdiv_eq_ediv_of_nonneg (by omega)
          simp only [std, wr, e0]
          congr 2; omega
        · conv => lhs; cbv
          subst hA
          simp only [std, wr]
          congr 2; omega
        · have : k < x := by subst hA; simp only [std, decide_eq_true_eq] at ht; omega
          omega
        · have : k < x := by subst hA; simp only [std, decide_eq_true_eq] at ht; omega
          have e1 : (ofL [(0, .int .u32 r1), (1, .int .i64 x0), (5, .int .i64 k1)]).get 5 = some (.int .i64 k1) := by cbv
          have e0 : (ofL [(0, .int .u32 r0), (1, .int .i64 x0), (5, .int .i64 k0)]).get 5 = some (.int .i64 k0) := by cbv
          rw [e1, e0]
          show x - k1.toNat < x - k0.toNat
          omega
    · refine avc_seq_exit ?_
      show avc A Γ 4 nt N _ _ _ _
      refine avc_seq_reg (by cbv) rfl ?_
      refine hK _ ?_
      have : k = x := by subst hA; simp only [std, decide_eq_false_iff_not] at ht; omega
      rw [← this, ← hr0]
      cbv
theorem body51 : Tryd.f51.body = some (Tryd.f51.body.getD .skip) := by kernel_rfl
theorem c51_ok (n : UInt32) (x : Nat) (hx : x < 32) {ρ : Ren} {σ : AH} {W : World} (hr : HR ρ σ W) (hG : ∀ g, g < 4 → ∃ s, ρ g = some (g, (0, s))) {vs : List Value} (hvs : VRs ρ [.int .u32 (N32 n), .int .i64 x] vs) :
    Calls Tryd.prog 51 vs.toArray W fun e W' => ∃ v av σ' ρ', e = .returned v ∧ (av = .int .u32 (N32 (sror n x)) ∧ σ' = σ) ∧ HR ρ' σ' W' ∧ Stp σ.next ρ σ W ρ' σ' W' ∧ VR ρ' av v := by
  refine call_sound (xs := [.tmp 4]) mixed gam0_ok pu0_ok Tryd.func51 body51 comp51 (by kernel_rfl) (by kernel_rfl) (by kernel_rfl) (shift_avc Γ0 n x hx _ _ σ (Nat.le_refl _) _ fun env he => ⟨trivial, rfl, ?_, rfl⟩) hG hr hvs
  show evS env (.slot 4) = _
  simp only [evS, he]
/-- The two turns, of numbers. -/
def rorI (n x : Int) : Int := N32 (ror (UInt32.ofNat n.toNat) x.toNat)
def srorI (n x : Int) : Int := N32 (sror (UInt32.ofNat n.toNat) x.toNat)
def Γ1 (A : Ar) (R S : Int → Int → Int) : Gam := fun f args σ => match args with
  | [.int .u32 n, .int .i64 x] => bif Nat.beq f 50 then (A.le 0 n && A.le n 4294967295 && A.le 0 x && A.lt x 32, .int .u32 (R n x), σ) else
      bif Nat.beq f 51 then (A.le 0 n && A.le n 4294967295 && A.le 0 x && A.lt x 32, .int .u32 (S n x), σ) else bad σ
  | _ => bad σ
def pu1 (f : FuncId) : Bool := Nat.beq f 50 || Nat.beq f 51
theorem N32_back (n : Int) (h0 : 0 ≤ n) (h1 : n ≤ 4294967295) : N32 (UInt32.ofNat n.toNat) = n := by
  unfold N32; rw [UInt32.toNat_ofNat']; omega
theorem pu1_ok : PuOk (Γ1 std rorI srorI) pu1 := by
  intro f hf args σ σ'
  unfold Γ1
  split
  · cases hf0 : Nat.beq f 50
    · cases hf1 : Nat.beq f 51
      · simp [pu1, hf0, hf1] at hf
      · rfl
    · rfl
  · rfl
theorem gam1_ok : GamOk Tryd.prog 4 (Γ1 std rorI srorI) := by
  intro f args σ h
  unfold Γ1 at h ⊢
  split at h
  · rename_i n x
    cases hf0 : Nat.beq f 50 <;> rw [hf0] at h
    · cases hf1 : Nat.beq f 51 <;> rw [hf1] at h
      · cases h
      · have e := Nat.eq_of_beq_eq_true hf1
        subst e
        simp only [cond_true, cond_false, std, Bool.and_eq_true, decide_eq_true_eq] at h
        obtain ⟨⟨⟨h1, h2⟩, h3⟩, h4⟩ := h
        refine ⟨⟨_, Tryd.func51, by kernel_rfl, by kernel_rfl⟩, fun ρ W vs hG hr hvs => ?_⟩
        have e1 := N32_back n h1 h2
        have e2 : ((x.toNat : Nat) : Int) = x := by omega
        rw [← e1, ← e2] at hvs
        refine (c51_ok _ x.toNat (by omega) hr hG hvs).mono fun e W' ⟨v, av, σ', ρ', k1, ⟨k2, k3⟩, k4, k5, k6⟩ => ?_
        subst k2; subst k3
        exact ⟨v, ρ', k1, k4, k5, k6⟩
    · have e := Nat.eq_of_beq_eq_true hf0
      subst e
      simp only [cond_true, std, Bool.and_eq_true, decide_eq_true_eq] at h
      obtain ⟨⟨⟨h1, h2⟩, h3⟩, h4⟩ := h
      refine ⟨⟨_, Tryd.func50, by kernel_rfl, by kernel_rfl⟩, fun ρ W vs hG hr hvs => ?_⟩
      have e1 := N32_back n h1 h2
      have e2 : ((x.toNat : Nat) : Int) = x := by omega
      rw [← e1, ← e2] at hvs
      refine (c50_ok _ x.toNat (by omega) hr hG hvs).mono fun e W' ⟨v, av, σ', ρ', k1, ⟨k2, k3⟩, k4, k5, k6⟩ => ?_
      subst k2; subst k3
      exact ⟨v, ρ', k1, k4, k5, k6⟩
  · cases h
end Go.Proofs.YtjkicmlelilcaaaDoor
namespace Go.Proofs.YtjkicmlelilcaaaDoor
open Go
def B0 : ACode := (.reg [⟨(.aop (.mov (.slot 3))), (some 37), none⟩, ⟨(.aop (.ext (.bslice 5 1 1) [(.lit (.int .u8 (0)))])), (some 38), none⟩, ⟨(.aop (.ext (.append 5 false 1) [(.slot 37), (.slot 38)])), (some 39), none⟩, ⟨(.aop (.mov (.slot 39))), (some 3), none⟩])
def L0 : ACode := (.loop (.seq (.seq (.reg [⟨(.aop (.mov (.slot 3))), (some 33), none⟩, ⟨(.aop (.lenSl (.slot 33))), (some 34), none⟩, ⟨(.aop (.bin .rem (.slot 34) (.lit (.int .i64 (64))))), (some 35), none⟩, ⟨(.aop (.bin .neq (.slot 35) (.lit (.int .i64 (56))))), (some 36), none⟩]) (.cond (.slot 36) .skip (.exit 0))) (.block 1 B0)))
def B2 : ACode := (.reg [⟨(.aop (.mov (.slot 5))), (some 48), none⟩, ⟨(.aop (.bin .mul (.slot 48) (.lit (.int .u64 (256))))), (some 49), none⟩, ⟨(.aop (.mov (.slot 49))), (some 5), none⟩])
def L2 : ACode := (.loop (.seq (.seq (.reg [⟨(.aop (.mov (.slot 6))), (some 44), none⟩, ⟨(.aop (.bin .lss (.slot 44) (.lit (.int .i64 (7))))), (some 45), none⟩]) (.cond (.slot 45) .skip (.exit 2))) (.seq (.block 3 B2) (.reg [⟨(.aop (.mov (.slot 6))), (some 46), none⟩, ⟨(.aop (.bin .add (.slot 46) (.lit (.int .i64 (1))))), (some 47), none⟩, ⟨(.aop (.mov (.slot 47))), (some 6), none⟩]))))
def B4 : ACode := (.seq (.reg [⟨(.aop (.mov (.slot 3))), (some 54), none⟩, ⟨(.aop (.mov (.slot 4))), (some 55), none⟩, ⟨(.aop (.mov (.slot 5))), (some 56), none⟩, ⟨(.aop (.bin .quo (.slot 55) (.slot 56))), (some 57), none⟩, ⟨(.aop (.bin .rem (.slot 57) (.lit (.int .u64 (256))))), (some 58), none⟩, ⟨(.aop (.conv .u8 (.slot 58))), (some 59), none⟩, ⟨(.aop (.ext (.bslice 5 1 1) [(.slot 59)])), (some 60), none⟩, ⟨(.aop (.ext (.append 5 false 1) [(.slot 54), (.slot 60)])), (some 61), none⟩, ⟨(.aop (.mov (.slot 61))), (some 3), none⟩]) (.reg [⟨(.aop (.mov (.slot 5))), (some 62), none⟩, ⟨(.aop (.bin .quo (.slot 62) (.lit (.int .u64 (256))))), (some 63), none⟩, ⟨(.aop (.mov (.slot 63))), (some 5), none⟩]))
def L4 : ACode := (.loop (.seq (.seq (.reg [⟨(.aop (.mov (.slot 7))), (some 50), none⟩, ⟨(.aop (.bin .lss (.slot 50) (.lit (.int .i64 (8))))), (some 51), none⟩]) (.cond (.slot 51) .skip (.exit 4))) (.seq (.block 5 B4) (.reg [⟨(.aop (.mov (.slot 7))), (some 52), none⟩, ⟨(.aop (.bin .add (.slot 52) (.lit (.int .i64 (1))))), (some 53), none⟩, ⟨(.aop (.mov (.slot 53))), (some 7), none⟩]))))
def B6 : ACode := (.reg [⟨(.aop (.mov (.slot 9))), (some 68), none⟩, ⟨(.aop (.load1 (.lit (.ptr 1 0)))), (some 69), none⟩, ⟨(.aop (.mov (.slot 9))), (some 70), none⟩, ⟨(.aop (.idxSl 1 (.slot 69) (.slot 70))), (some 71), none⟩, ⟨(.aop (.load1 (.slot 71))), (some 72), none⟩, ⟨(.aop (.idxArr 8 1 (.slot 8) (.slot 68))), (some 73), none⟩, ⟨(.aop (.store 1 (.slot 73) (.slot 72))), none, none⟩])
def L6 : ACode := (.loop (.seq (.seq (.reg [⟨(.aop (.mov (.slot 9))), (some 64), none⟩, ⟨(.aop (.bin .lss (.slot 64) (.lit (.int .i64 (8))))), (some 65), none⟩]) (.cond (.slot 65) .skip (.exit 6))) (.seq (.block 7 B6) (.reg [⟨(.aop (.mov (.slot 9))), (some 66), none⟩, ⟨(.aop (.bin .add (.slot 66) (.lit (.int .i64 (1))))), (some 67), none⟩, ⟨(.aop (.mov (.slot 67))), (some 9), none⟩]))))
def B10 : ACode := (.seq (.seq (.reg [⟨(.aop (.mov (.slot 13))), (some 85), none⟩, ⟨(.aop (.bin .lss (.slot 85) (.lit (.int .i64 (16))))), (some 86), none⟩]) (.cond (.slot 86) (.seq (.reg [⟨(.aop (.mov (.slot 11))), (some 87), none⟩, ⟨(.aop (.mov (.slot 13))), (some 88), none⟩, ⟨(.aop (.bin .mul (.lit (.int .i64 (4))) (.slot 88))), (some 89), none⟩, ⟨(.aop (.bin .add (.slot 87) (.slot 89))), (some 90), none⟩, ⟨(.aop (.mov (.slot 90))), (some 14), none⟩]) (.seq (.regd [(0, ⟨(.aop (.mov (.slot 12))), (some 91), none⟩), (1, ⟨(.aop (.mov (.slot 3))), (some 92), none⟩), (2, ⟨(.aop (.mov (.slot 14))), (some 93), none⟩), (3, ⟨(.aop (.idxSl 1 (.op 1) (.op 2))), (some 94), none⟩), (4, ⟨(.aop (.load1 (.op 3))), (some 95), none⟩), (5, ⟨(.aop (.conv .u32 (.op 4))), (some 96), none⟩), (6, ⟨(.aop (.bin .mul (.op 5) (.lit (.int .u32 (16777216))))), (some 97), none⟩), (7, ⟨(.aop (.mov (.slot 3))), (some 98), none⟩), (8, ⟨(.aop (.mov (.slot 14))), (some 99), none⟩), (9, ⟨(.aop (.bin .add (.op 8) (.lit (.int .i64 (1))))), (some 100), none⟩), (10, ⟨(.aop (.idxSl 1 (.op 7) (.op 9))), (some 101), none⟩), (11, ⟨(.aop (.load1 (.op 10))), (some 102), none⟩), (12, ⟨(.aop (.conv .u32 (.op 11))), (some 103), none⟩), (13, ⟨(.aop (.bin .mul (.op 12) (.lit (.int .u32 (65536))))), (some 104), none⟩), (14, ⟨(.aop (.bin .add (.op 6) (.op 13))), (some 105), none⟩), (15, ⟨(.aop (.mov (.slot 3))), (some 106), none⟩), (16, ⟨(.aop (.mov (.slot 14))), (some 107), none⟩), (17, ⟨(.aop (.bin .add (.op 16) (.lit (.int .i64 (2))))), (some 108), none⟩), (18, ⟨(.aop (.idxSl 1 (.op 15) (.op 17))), (some 109), none⟩), (19, ⟨(.aop (.load1 (.op 18))), (some 110), none⟩), (20, ⟨(.aop (.conv .u32 (.op 19))), (some 111), none⟩), (21, ⟨(.aop (.bin .mul (.op 20) (.lit (.int .u32 (256))))), (some 112), none⟩), (22, ⟨(.aop (.bin .add (.op 14) (.op 21))), (some 113), none⟩), (23, ⟨(.aop (.mov (.slot 3))), (some 114), none⟩), (24, ⟨(.aop (.mov (.slot 14))), (some 115), none⟩), (25, ⟨(.aop (.bin .add (.op 24) (.lit (.int .i64 (3))))), (some 116), none⟩), (26, ⟨(.aop (.idxSl 1 (.op 23) (.op 25))), (some 117), none⟩), (27, ⟨(.aop (.load1 (.op 26))), (some 118), none⟩), (28, ⟨(.aop (.conv .u32 (.op 27))), (some 119), none⟩), (29, ⟨(.aop (.bin .add (.op 22) (.op 28))), (some 120), none⟩), (30, ⟨(.aop (.ext (.bslice 62 1 1) [(.op 29)])), (some 121), none⟩), (31, ⟨(.aop (.ext (.append 62 false 1) [(.op 0), (.op 30)])), (some 122), none⟩), (32, ⟨(.aop (.mov (.op 31))), (some 12), none⟩)] [(some 91), (some 92), (some 93), (some 94), (some 95), (some 96), (some 97), (some 98), (some 99), (some 100), (some 101), (some 102), (some 103), (some 104), (some 105), (some 106), (some 107), (some 108), (some 109), (some 110), (some 111), (some 112), (some 113), (some 114), (some 115), (some 116), (some 117), (some 118), (some 119), (some 120), (some 121), (some 122), (some 12)]) (.exit 11))) .skip)) (.seq (.reg [⟨(.aop (.mov (.slot 12))), (some 123), none⟩, ⟨(.aop (.mov (.slot 13))), (some 124), none⟩, ⟨(.aop (.bin .sub (.slot 124) (.lit (.int .i64 (15))))), (some 125), none⟩, ⟨(.aop (.idxSl 1 (.slot 123) (.slot 125))), (some 126), none⟩, ⟨(.aop (.load1 (.slot 126))), (some 127), none⟩, ⟨(.aop (.mov (.slot 127))), (some 15), none⟩]) (.seq (.reg [⟨(.aop (.mov (.slot 12))), (some 128), none⟩, ⟨(.aop (.mov (.slot 13))), (some 129), none⟩, ⟨(.aop (.bin .sub (.slot 129) (.lit (.int .i64 (2))))), (some 130), none⟩, ⟨(.aop (.idxSl 1 (.slot 128) (.slot 130))), (some 131), none⟩, ⟨(.aop (.load1 (.slot 131))), (some 132), none⟩, ⟨(.aop (.mov (.slot 132))), (some 16), none⟩]) (.regd [(0, ⟨(.aop (.mov (.slot 12))), (some 133), none⟩), (1, ⟨(.aop (.mov (.slot 12))), (some 134), none⟩), (2, ⟨(.aop (.mov (.slot 13))), (some 135), none⟩), (3, ⟨(.aop (.bin .sub (.op 2) (.lit (.int .i64 (16))))), (some 136), none⟩), (4, ⟨(.aop (.idxSl 1 (.op 1) (.op 3))), (some 137), none⟩), (5, ⟨(.aop (.load1 (.op 4))), (some 138), none⟩), (6, ⟨(.aop (.mov (.slot 12))), (some 139), none⟩), (7, ⟨(.aop (.mov (.slot 13))), (some 140), none⟩), (8, ⟨(.aop (.bin .sub (.op 7) (.lit (.int .i64 (7))))), (some 141), none⟩), (9, ⟨(.aop (.idxSl 1 (.op 6) (.op 8))), (some 142), none⟩), (10, ⟨(.aop (.load1 (.op 9))), (some 143), none⟩), (11, ⟨(.aop (.bin .add (.op 5) (.op 10))), (some 144), none⟩), (12, ⟨(.aop (.mov (.slot 15))), (some 145), none⟩), (13, ⟨(.call (.lit (.fn (.func 50) [] [])) [(.op 12), (.lit (.int .i64 (7)))]), (some 146), none⟩), (14, ⟨(.aop (.mov (.slot 15))), (some 147), none⟩), (15, ⟨(.call (.lit (.fn (.func 50) [] [])) [(.op 14), (.lit (.int .i64 (18)))]), (some 148), none⟩), (16, ⟨(.aop (.bin .xor (.op 13) (.op 15))), (some 149), none⟩), (17, ⟨(.aop (.mov (.slot 15))), (some 150), none⟩), (18, ⟨(.call (.lit (.fn (.func 51) [] [])) [(.op 17), (.lit (.int .i64 (3)))]), (some 151), none⟩), (19, ⟨(.aop (.bin .xor (.op 16) (.op 18))), (some 152), none⟩), (20, ⟨(.aop (.bin .add (.op 11) (.op 19))), (some 153), none⟩), (21, ⟨(.aop (.mov (.slot 16))), (some 154), none⟩), (22, ⟨(.call (.lit (.fn (.func 50) [] [])) [(.op 21), (.lit (.int .i64 (17)))]), (some 155), none⟩), (23, ⟨(.aop (.mov (.slot 16))), (some 156), none⟩), (24, ⟨(.call (.lit (.fn (.func 50) [] [])) [(.op 23), (.lit (.int .i64 (19)))]), (some 157), none⟩), (25, ⟨(.aop (.bin .xor (.op 22) (.op 24))), (some 158), none⟩), (26, ⟨(.aop (.mov (.slot 16))), (some 159), none⟩), (27, ⟨(.call (.lit (.fn (.func 51) [] [])) [(.op 26), (.lit (.int .i64 (10)))]), (some 160), none⟩), (28, ⟨(.aop (.bin .xor (.op 25) (.op 27))), (some 161), none⟩), (29, ⟨(.aop (.bin .add (.op 20) (.op 28))), (some 162), none⟩), (30, ⟨(.aop (.ext (.bslice 62 1 1) [(.op 29)])), (some 163), none⟩), (31, ⟨(.aop (.ext (.append 62 false 1) [(.op 0), (.op 30)])), (some 164), none⟩), (32, ⟨(.aop (.mov (.op 31))), (some 12), none⟩)] [(some 133), (some 134), (some 135), (some 136), (some 137), (some 138), (some 139), (some 140), (some 141), (some 142), (some 143), (some 144), (some 145), (some 146), (some 147), (some 148), (some 149), (some 150), (some 151), (some 152), (some 153), (some 154), (some 155), (some 156), (some 157), (some 158), (some 159), (some 160), (some 161), (some 162), (some 163), (some 164), (some 12)]))))
def L10 : ACode := (.loop (.seq (.seq (.reg [⟨(.aop (.mov (.slot 13))), (some 81), none⟩, ⟨(.aop (.bin .lss (.slot 81) (.lit (.int .i64 (64))))), (some 82), none⟩]) (.cond (.slot 82) .skip (.exit 10))) (.seq (.block 11 B10) (.reg [⟨(.aop (.mov (.slot 13))), (some 83), none⟩, ⟨(.aop (.bin .add (.slot 83) (.lit (.int .i64 (1))))), (some 84), none⟩, ⟨(.aop (.mov (.slot 84))), (some 13), none⟩]))))
def B12 : ACode := (.reg [⟨(.aop (.mov (.slot 18))), (some 169), none⟩, ⟨(.aop (.mov (.slot 18))), (some 170), none⟩, ⟨(.aop (.idxArr 8 1 (.slot 8) (.slot 170))), (some 171), none⟩, ⟨(.aop (.load1 (.slot 171))), (some 172), none⟩, ⟨(.aop (.idxArr 8 1 (.slot 17) (.slot 169))), (some 173), none⟩, ⟨(.aop (.store 1 (.slot 173) (.slot 172))), none, none⟩])
def L12 : ACode := (.loop (.seq (.seq (.reg [⟨(.aop (.mov (.slot 18))), (some 165), none⟩, ⟨(.aop (.bin .lss (.slot 165) (.lit (.int .i64 (8))))), (some 166), none⟩]) (.cond (.slot 166) .skip (.exit 12))) (.seq (.block 13 B12) (.reg [⟨(.aop (.mov (.slot 18))), (some 167), none⟩, ⟨(.aop (.bin .add (.slot 167) (.lit (.int .i64 (1))))), (some 168), none⟩, ⟨(.aop (.mov (.slot 168))), (some 18), none⟩]))))
def B14 : ACode := (.seq (.reg [⟨(.aop (.idxArr 8 1 (.slot 17) (.lit (.int .i64 (0))))), (some 178), none⟩, ⟨(.aop (.load1 (.slot 178))), (some 179), none⟩, ⟨(.aop (.mov (.slot 179))), (some 20), none⟩]) (.seq (.reg [⟨(.aop (.idxArr 8 1 (.slot 17) (.lit (.int .i64 (4))))), (some 180), none⟩, ⟨(.aop (.load1 (.slot 180))), (some 181), none⟩, ⟨(.aop (.mov (.slot 181))), (some 21), none⟩]) (.seq (.regd [(0, ⟨(.aop (.idxArr 8 1 (.slot 17) (.lit (.int .i64 (7))))), (some 182), none⟩), (1, ⟨(.aop (.load1 (.op 0))), (some 183), none⟩), (2, ⟨(.aop (.mov (.slot 21))), (some 184), none⟩), (3, ⟨(.call (.lit (.fn (.func 50) [] [])) [(.op 2), (.lit (.int .i64 (6)))]), (some 185), none⟩), (4, ⟨(.aop (.mov (.slot 21))), (some 186), none⟩), (5, ⟨(.call (.lit (.fn (.func 50) [] [])) [(.op 4), (.lit (.int .i64 (11)))]), (some 187), none⟩), (6, ⟨(.aop (.bin .xor (.op 3) (.op 5))), (some 188), none⟩), (7, ⟨(.aop (.mov (.slot 21))), (some 189), none⟩), (8, ⟨(.call (.lit (.fn (.func 50) [] [])) [(.op 7), (.lit (.int .i64 (25)))]), (some 190), none⟩), (9, ⟨(.aop (.bin .xor (.op 6) (.op 8))), (some 191), none⟩), (10, ⟨(.aop (.bin .add (.op 1) (.op 9))), (some 192), none⟩), (11, ⟨(.aop (.mov (.slot 21))), (some 193), none⟩), (12, ⟨(.aop (.idxArr 8 1 (.slot 17) (.lit (.int .i64 (5))))), (some 194), none⟩), (13, ⟨(.aop (.load1 (.op 12))), (some 195), none⟩), (14, ⟨(.aop (.bin .and (.op 11) (.op 13))), (some 196), none⟩), (15, ⟨(.aop (.mov (.slot 21))), (some 197), none⟩), (16, ⟨(.aop (.bin .sub (.lit (.int .u32 (4294967295))) (.op 15))), (some 198), none⟩), (17, ⟨(.aop (.idxArr 8 1 (.slot 17) (.lit (.int .i64 (6))))), (some 199), none⟩), (18, ⟨(.aop (.load1 (.op 17))), (some 200), none⟩), (19, ⟨(.aop (.bin .and (.op 16) (.op 18))), (some 201), none⟩), (20, ⟨(.aop (.bin .xor (.op 14) (.op 19))), (some 202), none⟩), (21, ⟨(.aop (.bin .add (.op 10) (.op 20))), (some 203), none⟩), (22, ⟨(.aop (.mov (.slot 10))), (some 204), none⟩), (23, ⟨(.aop (.mov (.slot 19))), (some 205), none⟩), (24, ⟨(.aop (.idxSl 1 (.op 22) (.op 23))), (some 206), none⟩), (25, ⟨(.aop (.load1 (.op 24))), (some 207), none⟩), (26, ⟨(.aop (.bin .add (.op 21) (.op 25))), (some 208), none⟩), (27, ⟨(.aop (.mov (.slot 12))), (some 209), none⟩), (28, ⟨(.aop (.mov (.slot 19))), (some 210), none⟩), (29, ⟨(.aop (.idxSl 1 (.op 27) (.op 28))), (some 211), none⟩), (30, ⟨(.aop (.load1 (.op 29))), (some 212), none⟩), (31, ⟨(.aop (.bin .add (.op 26) (.op 30))), (some 213), none⟩), (32, ⟨(.aop (.mov (.op 31))), (some 22), none⟩)] [(some 182), (some 183), (some 184), (some 185), (some 186), (some 187), (some 188), (some 189), (some 190), (some 191), (some 192), (some 193), (some 194), (some 195), (some 196), (some 197), (some 198), (some 199), (some 200), (some 201), (some 202), (some 203), (some 204), (some 205), (some 206), (some 207), (some 208), (some 209), (some 210), (some 211), (some 212), (some 213), (some 22)]) (.seq (.regd [(0, ⟨(.aop (.mov (.slot 20))), (some 214), none⟩), (1, ⟨(.call (.lit (.fn (.func 50) [] [])) [(.op 0), (.lit (.int .i64 (2)))]), (some 215), none⟩), (2, ⟨(.aop (.mov (.slot 20))), (some 216), none⟩), (3, ⟨(.call (.lit (.fn (.func 50) [] [])) [(.op 2), (.lit (.int .i64 (13)))]), (some 217), none⟩), (4, ⟨(.aop (.bin .xor (.op 1) (.op 3))), (some 218), none⟩), (5, ⟨(.aop (.mov (.slot 20))), (some 219), none⟩), (6, ⟨(.call (.lit (.fn (.func 50) [] [])) [(.op 5), (.lit (.int .i64 (22)))]), (some 220), none⟩), (7, ⟨(.aop (.bin .xor (.op 4) (.op 6))), (some 221), none⟩), (8, ⟨(.aop (.mov (.slot 20))), (some 222), none⟩), (9, ⟨(.aop (.idxArr 8 1 (.slot 17) (.lit (.int .i64 (1))))), (some 223), none⟩), (10, ⟨(.aop (.load1 (.op 9))), (some 224), none⟩), (11, ⟨(.aop (.bin .and (.op 8) (.op 10))), (some 225), none⟩), (12, ⟨(.aop (.mov (.slot 20))), (some 226), none⟩), (13, ⟨(.aop (.idxArr 8 1 (.slot 17) (.lit (.int .i64 (2))))), (some 227), none⟩), (14, ⟨(.aop (.load1 (.op 13))), (some 228), none⟩), (15, ⟨(.aop (.bin .and (.op 12) (.op 14))), (some 229), none⟩), (16, ⟨(.aop (.bin .xor (.op 11) (.op 15))), (some 230), none⟩), (17, ⟨(.aop (.idxArr 8 1 (.slot 17) (.lit (.int .i64 (1))))), (some 231), none⟩), (18, ⟨(.aop (.load1 (.op 17))), (some 232), none⟩), (19, ⟨(.aop (.idxArr 8 1 (.slot 17) (.lit (.int .i64 (2))))), (some 233), none⟩), (20, ⟨(.aop (.load1 (.op 19))), (some 234), none⟩), (21, ⟨(.aop (.bin .and (.op 18) (.op 20))), (some 235), none⟩), (22, ⟨(.aop (.bin .xor (.op 16) (.op 21))), (some 236), none⟩), (23, ⟨(.aop (.bin .add (.op 7) (.op 22))), (some 237), none⟩), (24, ⟨(.aop (.mov (.op 23))), (some 23), none⟩)] [(some 214), (some 215), (some 216), (some 217), (some 218), (some 219), (some 220), (some 221), (some 222), (some 223), (some 224), (some 225), (some 226), (some 227), (some 228), (some 229), (some 230), (some 231), (some 232), (some 233), (some 234), (some 235), (some 236), (some 237), (some 23)]) (.seq (.reg [⟨(.aop (.idxArr 8 1 (.slot 17) (.lit (.int .i64 (6))))), (some 238), none⟩, ⟨(.aop (.load1 (.slot 238))), (some 239), none⟩, ⟨(.aop (.idxArr 8 1 (.slot 17) (.lit (.int .i64 (7))))), (some 240), none⟩, ⟨(.aop (.store 1 (.slot 240) (.slot 239))), none, none⟩]) (.seq (.reg [⟨(.aop (.idxArr 8 1 (.slot 17) (.lit (.int .i64 (5))))), (some 241), none⟩, ⟨(.aop (.load1 (.slot 241))), (some 242), none⟩, ⟨(.aop (.idxArr 8 1 (.slot 17) (.lit (.int .i64 (6))))), (some 243), none⟩, ⟨(.aop (.store 1 (.slot 243) (.slot 242))), none, none⟩]) (.seq (.reg [⟨(.aop (.mov (.slot 21))), (some 244), none⟩, ⟨(.aop (.idxArr 8 1 (.slot 17) (.lit (.int .i64 (5))))), (some 245), none⟩, ⟨(.aop (.store 1 (.slot 245) (.slot 244))), none, none⟩]) (.seq (.reg [⟨(.aop (.idxArr 8 1 (.slot 17) (.lit (.int .i64 (3))))), (some 246), none⟩, ⟨(.aop (.load1 (.slot 246))), (some 247), none⟩, ⟨(.aop (.mov (.slot 22))), (some 248), none⟩, ⟨(.aop (.bin .add (.slot 247) (.slot 248))), (some 249), none⟩, ⟨(.aop (.idxArr 8 1 (.slot 17) (.lit (.int .i64 (4))))), (some 250), none⟩, ⟨(.aop (.store 1 (.slot 250) (.slot 249))), none, none⟩]) (.seq (.reg [⟨(.aop (.idxArr 8 1 (.slot 17) (.lit (.int .i64 (2))))), (some 251), none⟩, ⟨(.aop (.load1 (.slot 251))), (some 252), none⟩, ⟨(.aop (.idxArr 8 1 (.slot 17) (.lit (.int .i64 (3))))), (some 253), none⟩, ⟨(.aop (.store 1 (.slot 253) (.slot 252))), none, none⟩]) (.seq (.reg [⟨(.aop (.idxArr 8 1 (.slot 17) (.lit (.int .i64 (1))))), (some 254), none⟩, ⟨(.aop (.load1 (.slot 254))), (some 255), none⟩, ⟨(.aop (.idxArr 8 1 (.slot 17) (.lit (.int .i64 (2))))), (some 256), none⟩, ⟨(.aop (.store 1 (.slot 256) (.slot 255))), none, none⟩]) (.seq (.reg [⟨(.aop (.mov (.slot 20))), (some 257), none⟩, ⟨(.aop (.idxArr 8 1 (.slot 17) (.lit (.int .i64 (1))))), (some 258), none⟩, ⟨(.aop (.store 1 (.slot 258) (.slot 257))), none, none⟩]) (.reg [⟨(.aop (.mov (.slot 22))), (some 259), none⟩, ⟨(.aop (.mov (.slot 23))), (some 260), none⟩, ⟨(.aop (.bin .add (.slot 259) (.slot 260))), (some 261), none⟩, ⟨(.aop (.idxArr 8 1 (.slot 17) (.lit (.int .i64 (0))))), (some 262), none⟩, ⟨(.aop (.store 1 (.slot 262) (.slot 261))), none, none⟩]))))))))))))
def L14 : ACode := (.loop (.seq (.seq (.reg [⟨(.aop (.mov (.slot 19))), (some 174), none⟩, ⟨(.aop (.bin .lss (.slot 174) (.lit (.int .i64 (64))))), (some 175), none⟩]) (.cond (.slot 175) .skip (.exit 14))) (.seq (.block 15 B14) (.reg [⟨(.aop (.mov (.slot 19))), (some 176), none⟩, ⟨(.aop (.bin .add (.slot 176) (.lit (.int .i64 (1))))), (some 177), none⟩, ⟨(.aop (.mov (.slot 177))), (some 19), none⟩]))))
def B16 : ACode := (.regd [(0, ⟨(.aop (.mov (.slot 24))), (some 267), none⟩), (1, ⟨(.aop (.mov (.slot 24))), (some 268), none⟩), (2, ⟨(.aop (.idxArr 8 1 (.slot 8) (.op 1))), (some 269), none⟩), (3, ⟨(.aop (.load1 (.op 2))), (some 270), none⟩), (4, ⟨(.aop (.mov (.slot 24))), (some 271), none⟩), (5, ⟨(.aop (.idxArr 8 1 (.slot 17) (.op 4))), (some 272), none⟩), (6, ⟨(.aop (.load1 (.op 5))), (some 273), none⟩), (7, ⟨(.aop (.bin .add (.op 3) (.op 6))), (some 274), none⟩), (8, ⟨(.aop (.idxArr 8 1 (.slot 8) (.op 0))), (some 275), none⟩), (9, ⟨(.aop (.store 1 (.op 8) (.op 7))), none, none⟩)] [(some 267), (some 268), (some 269), (some 270), (some 271), (some 272), (some 273), (some 274), (some 275), none])
def L16 : ACode := (.loop (.seq (.seq (.reg [⟨(.aop (.mov (.slot 24))), (some 263), none⟩, ⟨(.aop (.bin .lss (.slot 263) (.lit (.int .i64 (8))))), (some 264), none⟩]) (.cond (.slot 264) .skip (.exit 16))) (.seq (.block 17 B16) (.reg [⟨(.aop (.mov (.slot 24))), (some 265), none⟩, ⟨(.aop (.bin .add (.slot 265) (.lit (.int .i64 (1))))), (some 266), none⟩, ⟨(.aop (.mov (.slot 266))), (some 24), none⟩]))))
def B8 : ACode := (.seq (.reg [⟨(.aop (.mov (.lit .nilsl))), (some 12), none⟩]) (.seq (.seq (.reg [⟨(.aop (.mov (.lit (.int .i64 (0))))), (some 13), none⟩]) (.block 10 L10)) (.seq (.reg [⟨(.aop (.alloc 87 [(.int .u32 (0)), (.int .u32 (0)), (.int .u32 (0)), (.int .u32 (0)), (.int .u32 (0)), (.int .u32 (0)), (.int .u32 (0)), (.int .u32 (0))])), (some 17), none⟩]) (.seq (.seq (.reg [⟨(.aop (.mov (.lit (.int .i64 (0))))), (some 18), none⟩]) (.block 12 L12)) (.seq (.seq (.reg [⟨(.aop (.mov (.lit (.int .i64 (0))))), (some 19), none⟩]) (.block 14 L14)) (.seq (.reg [⟨(.aop (.mov (.lit (.int .i64 (0))))), (some 24), none⟩]) (.block 16 L16)))))))
def L8 : ACode := (.loop (.seq (.seq (.reg [⟨(.aop (.mov (.slot 11))), (some 75), none⟩, ⟨(.aop (.mov (.slot 3))), (some 76), none⟩, ⟨(.aop (.lenSl (.slot 76))), (some 77), none⟩, ⟨(.aop (.bin .lss (.slot 75) (.slot 77))), (some 78), none⟩]) (.cond (.slot 78) .skip (.exit 8))) (.seq (.block 9 B8) (.reg [⟨(.aop (.mov (.slot 11))), (some 79), none⟩, ⟨(.aop (.bin .add (.slot 79) (.lit (.int .i64 (64))))), (some 80), none⟩, ⟨(.aop (.mov (.slot 80))), (some 11), none⟩]))))
def B18 : ACode := (.seq (.reg [⟨(.aop (.mov (.slot 26))), (some 280), none⟩, ⟨(.aop (.bin .mul (.lit (.int .i64 (4))) (.slot 280))), (some 281), none⟩, ⟨(.aop (.mov (.slot 26))), (some 282), none⟩, ⟨(.aop (.idxArr 8 1 (.slot 8) (.slot 282))), (some 283), none⟩, ⟨(.aop (.load1 (.slot 283))), (some 284), none⟩, ⟨(.aop (.bin .quo (.slot 284) (.lit (.int .u32 (16777216))))), (some 285), none⟩, ⟨(.aop (.conv .u8 (.slot 285))), (some 286), none⟩, ⟨(.aop (.idxArr 32 1 (.slot 25) (.slot 281))), (some 287), none⟩, ⟨(.aop (.store 1 (.slot 287) (.slot 286))), none, none⟩]) (.seq (.reg [⟨(.aop (.mov (.slot 26))), (some 288), none⟩, ⟨(.aop (.bin .mul (.lit (.int .i64 (4))) (.slot 288))), (some 289), none⟩, ⟨(.aop (.bin .add (.slot 289) (.lit (.int .i64 (1))))), (some 290), none⟩, ⟨(.aop (.mov (.slot 26))), (some 291), none⟩, ⟨(.aop (.idxArr 8 1 (.slot 8) (.slot 291))), (some 292), none⟩, ⟨(.aop (.load1 (.slot 292))), (some 293), none⟩, ⟨(.aop (.bin .quo (.slot 293) (.lit (.int .u32 (65536))))), (some 294), none⟩, ⟨(.aop (.bin .rem (.slot 294) (.lit (.int .u32 (256))))), (some 295), none⟩, ⟨(.aop (.conv .u8 (.slot 295))), (some 296), none⟩, ⟨(.aop (.idxArr 32 1 (.slot 25) (.slot 290))), (some 297), none⟩, ⟨(.aop (.store 1 (.slot 297) (.slot 296))), none, none⟩]) (.seq (.reg [⟨(.aop (.mov (.slot 26))), (some 298), none⟩, ⟨(.aop (.bin .mul (.lit (.int .i64 (4))) (.slot 298))), (some 299), none⟩, ⟨(.aop (.bin .add (.slot 299) (.lit (.int .i64 (2))))), (some 300), none⟩, ⟨(.aop (.mov (.slot 26))), (some 301), none⟩, ⟨(.aop (.idxArr 8 1 (.slot 8) (.slot 301))), (some 302), none⟩, ⟨(.aop (.load1 (.slot 302))), (some 303), none⟩, ⟨(.aop (.bin .quo (.slot 303) (.lit (.int .u32 (256))))), (some 304), none⟩, ⟨(.aop (.bin .rem (.slot 304) (.lit (.int .u32 (256))))), (some 305), none⟩, ⟨(.aop (.conv .u8 (.slot 305))), (some 306), none⟩, ⟨(.aop (.idxArr 32 1 (.slot 25) (.slot 300))), (some 307), none⟩, ⟨(.aop (.store 1 (.slot 307) (.slot 306))), none, none⟩]) (.reg [⟨(.aop (.mov (.slot 26))), (some 308), none⟩, ⟨(.aop (.bin .mul (.lit (.int .i64 (4))) (.slot 308))), (some 309), none⟩, ⟨(.aop (.bin .add (.slot 309) (.lit (.int .i64 (3))))), (some 310), none⟩, ⟨(.aop (.mov (.slot 26))), (some 311), none⟩, ⟨(.aop (.idxArr 8 1 (.slot 8) (.slot 311))), (some 312), none⟩, ⟨(.aop (.load1 (.slot 312))), (some 313), none⟩, ⟨(.aop (.bin .rem (.slot 313) (.lit (.int .u32 (256))))), (some 314), none⟩, ⟨(.aop (.conv .u8 (.slot 314))), (some 315), none⟩, ⟨(.aop (.idxArr 32 1 (.slot 25) (.slot 310))), (some 316), none⟩, ⟨(.aop (.store 1 (.slot 316) (.slot 315))), none, none⟩]))))
def L18 : ACode := (.loop (.seq (.seq (.reg [⟨(.aop (.mov (.slot 26))), (some 276), none⟩, ⟨(.aop (.bin .lss (.slot 276) (.lit (.int .i64 (8))))), (some 277), none⟩]) (.cond (.slot 277) .skip (.exit 18))) (.seq (.block 19 B18) (.reg [⟨(.aop (.mov (.slot 26))), (some 278), none⟩, ⟨(.aop (.bin .add (.slot 278) (.lit (.int .i64 (1))))), (some 279), none⟩, ⟨(.aop (.mov (.slot 279))), (some 26), none⟩]))))
def c13 : ACode := (.seq (.reg [⟨(.aop (.alloc 23 [(.int .u8 (0)), (.int .u8 (0)), (.int .u8 (0)), (.int .u8 (0)), (.int .u8 (0)), (.int .u8 (0)), (.int .u8 (0)), (.int .u8 (0)), (.int .u8 (0)), (.int .u8 (0)), (.int .u8 (0)), (.int .u8 (0)), (.int .u8 (0)), (.int .u8 (0)), (.int .u8 (0)), (.int .u8 (0)), (.int .u8 (0)), (.int .u8 (0)), (.int .u8 (0)), (.int .u8 (0)), (.int .u8 (0)), (.int .u8 (0)), (.int .u8 (0)), (.int .u8 (0)), (.int .u8 (0)), (.int .u8 (0)), (.int .u8 (0)), (.int .u8 (0)), (.int .u8 (0)), (.int .u8 (0)), (.int .u8 (0)), (.int .u8 (0))])), (some 2), none⟩]) (.seq (.reg [⟨(.aop (.mov (.lit .nilsl))), (some 3), none⟩]) (.seq (.reg [⟨(.aop (.mov (.slot 3))), (some 27), none⟩, ⟨(.aop (.mov (.slot 0))), (some 28), none⟩, ⟨(.aop (.ext (.append 5 false 1) [(.slot 27), (.slot 28)])), (some 29), none⟩, ⟨(.aop (.mov (.slot 29))), (some 3), none⟩]) (.seq (.reg [⟨(.aop (.mov (.slot 3))), (some 30), none⟩, ⟨(.aop (.ext (.bslice 5 1 1) [(.lit (.int .u8 (128)))])), (some 31), none⟩, ⟨(.aop (.ext (.append 5 false 1) [(.slot 30), (.slot 31)])), (some 32), none⟩, ⟨(.aop (.mov (.slot 32))), (some 3), none⟩]) (.seq (.block 0 L0) (.seq (.reg [⟨(.aop (.mov (.slot 0))), (some 40), none⟩, ⟨(.aop (.lenSl (.slot 40))), (some 41), none⟩, ⟨(.aop (.conv .u64 (.slot 41))), (some 42), none⟩, ⟨(.aop (.bin .mul (.slot 42) (.lit (.int .u64 (8))))), (some 43), none⟩, ⟨(.aop (.mov (.slot 43))), (some 4), none⟩]) (.seq (.reg [⟨(.aop (.mov (.lit (.int .u64 (1))))), (some 5), none⟩]) (.seq (.seq (.reg [⟨(.aop (.mov (.lit (.int .i64 (0))))), (some 6), none⟩]) (.block 2 L2)) (.seq (.seq (.reg [⟨(.aop (.mov (.lit (.int .i64 (0))))), (some 7), none⟩]) (.block 4 L4)) (.seq (.reg [⟨(.aop (.alloc 87 [(.int .u32 (0)), (.int .u32 (0)), (.int .u32 (0)), (.int .u32 (0)), (.int .u32 (0)), (.int .u32 (0)), (.int .u32 (0)), (.int .u32 (0))])), (some 8), none⟩]) (.seq (.seq (.reg [⟨(.aop (.mov (.lit (.int .i64 (0))))), (some 9), none⟩]) (.block 6 L6)) (.seq (.reg [⟨(.aop (.load1 (.lit (.ptr 2 0)))), (some 74), none⟩, ⟨(.aop (.mov (.slot 74))), (some 10), none⟩]) (.seq (.seq (.reg [⟨(.aop (.mov (.lit (.int .i64 (0))))), (some 11), none⟩]) (.block 8 L8)) (.seq (.reg [⟨(.aop (.alloc 23 [(.int .u8 (0)), (.int .u8 (0)), (.int .u8 (0)), (.int .u8 (0)), (.int .u8 (0)), (.int .u8 (0)), (.int .u8 (0)), (.int .u8 (0)), (.int .u8 (0)), (.int .u8 (0)), (.int .u8 (0)), (.int .u8 (0)), (.int .u8 (0)), (.int .u8 (0)), (.int .u8 (0)), (.int .u8 (0)), (.int .u8 (0)), (.int .u8 (0)), (.int .u8 (0)), (.int .u8 (0)), (.int .u8 (0)), (.int .u8 (0)), (.int .u8 (0)), (.int .u8 (0)), (.int .u8 (0)), (.int .u8 (0)), (.int .u8 (0)), (.int .u8 (0)), (.int .u8 (0)), (.int .u8 (0)), (.int .u8 (0)), (.int .u8 (0))])), (some 25), none⟩]) (.seq (.seq (.reg [⟨(.aop (.mov (.lit (.int .i64 (0))))), (some 26), none⟩]) (.block 18 L18)) (.seq (.reg [⟨(.aop (.loadN 32 (.slot 25))), (some 317), none⟩, ⟨(.aop (.store 32 (.slot 2) (.slot 317))), none, none⟩]) .ret))))))))))))))))
theorem comp13 : compC Tryd.prog 4 Tryd.f13.ntmps pu1 (Tryd.f13.body.getD .skip) = some c13 := by kernel_rfl
def bI (l : List UInt8) : List Int := l.map N8
def wI (l : List UInt32) : List Int := l.map N32
def Z32 : List Int := [0,0,0,0,0,0,0,0,0,0,0,0,0,0,0,0,0,0,0,0,0,0,0,0,0,0,0,0,0,0,0,0]
def mem13 (S K B : List Int) (l : List (Nat × AObj)) : List (Nat × AObj) := (0, .cells [] 62 .ro) :: (1, .cells [.sl 4 0 8 8 false 1] 62 .ro) :: (2, .cells [.sl 5 0 64 64 false 1] 62 .ro) :: (3, .cells [] 62 .ro) :: (4, .ints .u32 S 62 .ro) :: (5, .ints .u32 K 62 .ro) :: (6, .ints .u8 B 5 .ro) :: (7, .ints .u8 Z32 23 .exact) :: l
theorem low7 {L M : T AObj} (h0 : L.get 0 = M.get 0) (h1 : L.get 1 = M.get 1) (h2 : L.get 2 = M.get 2) (h3 : L.get 3 = M.get 3) (h4 : L.get 4 = M.get 4) (h5 : L.get 5 = M.get 5) (h6 : L.get 6 = M.get 6) :
    ∀ b, b < 7 → L.get b = M.get b := fun b hb => by
  match b, hb with
  | 0, _ => exact h0
  | 1, _ => exact h1
  | 2, _ => exact h2
  | 3, _ => exact h3
  | 4, _ => exact h4
  | 5, _ => exact h5
  | 6, _ => exact h6
theorem bI_length (l : List UInt8) : (bI l).length = l.length := by simp [bI]
theorem wI_length (l : List UInt32) : (wI l).length = l.length := by simp [wI]
/-- Renumbering of one block. -/
def ren (a b : Nat) (x : Nat) : Nat := bif Nat.beq x a then b else x
theorem has_nil {env : T AV} : Has env [] := trivial
theorem has_cons {env : T AV} {t : Nat} {v : AV} {l : List (Nat × AV)} (h : env.get t = some v) (hs : Nat.blt t 1048576 = true) (hl : Has env l) : Has env ((t, v) :: l) := ⟨⟨h, hs⟩, hl⟩
theorem had_nil {r : Nat → Nat} {σ : AH} {n : Nat} : Had r σ n [] := trivial
theorem had_cons {r : Nat → Nat} {σ : AH} {n b : Nat} {o : AObj} {l : List (Nat × AObj)} (h : σ.get (r b) = some (mapO r o)) (hs : Nat.blt b n = true) (hl : Had r σ n l) : Had r σ n ((b, o) :: l) := ⟨⟨hs, h⟩, hl⟩
end Go.Proofs.YtjkicmlelilcaaaDoor
