/- The walks over slices.Clone and slices.Insert at slices of bytes. -/
import Derived.Test.YtjkicmlelilcaaaDoorBytes
import Derived.WalkSpells
import Derived.WalkLawsBesides
import Derived.Lib.Hide
import Derived.Laws.CopyOwn
import Derived.Lib.AppendZerosOnto
import Derived.Lib.Overlaps
import Derived.Deep.RegionLaw
import Derived.Deep.MidRow
import Derived.StillTailTactics
namespace Go.Proofs.YtjkicmlelilcaaaDoor
open Go.RowKit

theorem info22 : (Tryd.prog.info? 22).map (fun i => (i.zero, i.size, i.bytes)) = some (some (.slice none 0 0), 1, 24) := by kernel_rfl
def OwnedV (w : World) (n : Nat) (xs : List Value) (e : Ending) (w' : World) : Prop :=
  ∃ v, e = .returned v ∧ w'.ownsRow w.heap.size 22 1 v n xs ∧ Below w.heap.size w w'

set_option maxHeartbeats 400000 in
theorem clone_nil (w : World) : Calls Tryd.prog 53 #[.slice none 0 0] w (OwnedV w 0 []) := by
  have he := fun w : World => Lib.run_eql_slice_nil (P := Tryd.prog) w 31 22 none 0 0 0 0 Tryd.underlying31
  go_enter Tryd.func53, Tryd.ntmps53
  go_wp2
  go_ret
  exact ⟨_, rfl, ⟨rfl, .inl ⟨rfl, rfl⟩⟩, Below.refl _ _⟩

set_option maxHeartbeats 400000 in
theorem clone_some (b off c : Nat) (vs : List Value) (w : World) (hlt : b < w.heap.size) (hn : vs.length ≤ 1000000000)
    (hcell : ∀ j u, vs[j]? = some u → w.cell? ((⟨b, off, none⟩ : Addr).add j) = some u) (h1 : ∀ u ∈ vs, u.oneCell' = true) :
    Calls Tryd.prog 53 #[.slice (some ⟨b, off, none⟩) vs.length c] w (OwnedV w vs.length vs) := by
  obtain ⟨i0, hi, hz0, hz1, hz2⟩ := info_parts info22
  have HI := Lib.hid hi
  have HZ := Lib.hid hz0
  have H1 := Lib.hid hz1
  have H2 := Lib.hid hz2
  clear hi hz0 hz1 hz2
  have he := fun w : World => Lib.run_eql_slice_nil (P := Tryd.prog) w 31 22 (some ⟨b, off, none⟩) vs.length c 0 0 Tryd.underlying31
  have hb0 : Below w.heap.size w (w.alloc (.cells #[] 22)) := (Below.refl _ _).alloc (Nat.le_refl _) _
  have hown : (w.alloc (.cells #[] 22)).ownsRow w.heap.size 22 1 (.slice (some ⟨w.heap.size, 0, none⟩) 0 0) 0 [] := ⟨rfl, .inr ⟨w.heap.size, 0, #[], rfl, Nat.le_refl _, row_new _ _ _, Nat.le_refl _, by unfold maxLen; omega, rfl, rfl⟩⟩
  have HC : Hid (∀ j u, vs[j]? = some u → (w.alloc (.cells #[] 22)).cell? ((⟨b, off, none⟩ : Addr).add j) = some u) := fun j u hu => by
    have := hcell j u hu
    rw [Addr.add_mid] at this ⊢
    rw [hb0.cell (p := ⟨b, off + j, none⟩) hlt]; exact this
  clear hcell
  go_enter Tryd.func53, Tryd.ntmps53
  go_wp2_with (at_builtin; refine wpList_append_own _ rfl (.tmp 5) (.tmp 6) 31 rfl w.heap.size 22 i0 (.slice none 0 0) 1 24 Tryd.underlying31 HI.out HZ.out H1.out H2.out rfl (by decide) _ _ _ rfl hown ⟨b, off, none⟩ vs.length c vs rfl (by omega) HC.out h1 (by unfold maxLen; omega) (by omega) (by simp) ?_)
  intro v' w2 hown2 hg2 _
  have hb2 : Below w.heap.size w w2 := hb0.grown hg2 (by simp) (fun g hg => owns_block hown hg)
  go_wp2
  go_ret
  exact ⟨_, rfl, hown2, hb2⟩

/-- What a slice of slices, with one put ahead, is. -/
def InsP (base : Nat) (row : Option Nat) (w : World) (cv : Value) (n : Nat) (vs : List Value) (e : Ending) (w' : World) : Prop :=
  ∃ v, e = .returned v ∧ w'.ownsRow base 22 1 v (n + 1) (cv :: vs) ∧ w.grownBy w' row
theorem grown_of_below {w w' : World} (h : Below w.heap.size w w') (row : Option Nat) : w.grownBy w' row := ⟨h.os, h.tape, h.output, h.size, fun k hk _ => h.block k hk⟩
set_option maxHeartbeats 400000 in
theorem insert_empty (base vb : Nat) (sv cv : Value) (w : World) (hown : w.ownsRow base 22 1 sv 0 []) (hbase : base ≤ w.heap.size) (hcell : w.cell? ⟨vb, 0, none⟩ = some cv) (h1 : cv.oneCell' = true) :
    Calls Tryd.prog 52 #[sv, .int .i64 0, .slice (some ⟨vb, 0, none⟩) 1 1] w (InsP base sv.ownBlock w cv 0 []) := by
  obtain ⟨i0, hi, hz0, hz1, hz2⟩ := info_parts info22
  have HI := Lib.hid hi
  have HZ := Lib.hid hz0
  have H1 := Lib.hid hz1
  have H2 := Lib.hid hz2
  clear hi hz0 hz1 hz2
  have HC : Hid (∀ j u, [cv][j]? = some u → w.cell? ((⟨vb, 0, none⟩ : Addr).add j) = some u) := fun j u hu => by
    have hj : j = 0 := by have := (List.getElem?_eq_some_iff.1 hu).1; simpa using this
    subst hj
    rw [Addr.add_mid, hcell, ← hu]; rfl
  clear hcell
  rcases hown.2 with ⟨rfl, _⟩ | ⟨g, cap, cur, rfl, hg, hh, _⟩
  all_goals
    go_enter Tryd.func52, Tryd.ntmps52
    go_wp2_with (at_builtin; refine wpList_append_own _ rfl (.tmp 23) (.tmp 24) 31 rfl base 22 i0 (.slice none 0 0) 1 24 Tryd.underlying31 HI.out HZ.out H1.out H2.out rfl (by decide) _ _ _ rfl hown ⟨vb, 0, none⟩ 1 1 [cv] rfl rfl HC.out (by simpa using h1) (by unfold maxLen; omega) (by omega) hbase ?_)
    intro v' w2 hown2 hg2 _
    go_wp2
    go_ret
    exact ⟨_, rfl, hown2, hg2⟩

theorem zeroCells_nil (k : Nat) : Builtin.zeroCells (Value.slice none 0 0).cells k = (List.replicate k (Value.slice none 0 0)).toArray := by
  apply Array.ext'
  simp only [Builtin.zeroCells, Value.cells]
  apply List.ext_getElem
  · simp
  · intro i h1 h2
    simp [Nat.mod_one]
theorem info22s : (Tryd.prog.info? 22).map (·.size) = some 1 := by kernel_rfl
theorem one_len (x : Value) : [x].length = 1 := rfl
theorem one_pos {w : World} {g b off : Nat} {cv : Value} (hcell : w.cell? ⟨b, 0, none⟩ = some cv) :
    0 < [cv].length → (some ⟨g, off, none⟩ : Option Addr) = some ⟨g, off, none⟩ ∧ ∃ ad, (some ⟨b, 0, none⟩ : Option Addr) = some ad ∧ ∀ j v, [cv][j]? = some v → w.cell? (ad.add j) = some v := by
  refine fun _ => ⟨rfl, _, rfl, fun j v hv => ?_⟩
  have hj : j = 0 := by have := (List.getElem?_eq_some_iff.1 hv).1; simpa using this
  subst hj
  rw [Addr.add_mid, hcell, ← hv]; rfl
theorem one_src {w : World} {b : Nat} {cv : Value} (hcell : w.cell? ⟨b, 0, none⟩ = some cv) : ∀ j v, [cv][j]? = some v → w.cell? ((⟨b, 0, none⟩ : Addr).add j) = some v := by
  intro j v hv
  have hj : j = 0 := by have := (List.getElem?_eq_some_iff.1 hv).1; simpa using this
  subst hj
  rw [Addr.add_mid, hcell, ← hv]; rfl
theorem row_pos {w : World} {g b off : Nat} {vs : List Value} (h : ∀ j v, vs[j]? = some v → w.cell? ((⟨b, 0, none⟩ : Addr).add j) = some v) :
    0 < vs.length → (some ⟨g, off, none⟩ : Option Addr) = some ⟨g, off, none⟩ ∧ ∃ ad, (some ⟨b, 0, none⟩ : Option Addr) = some ad ∧ ∀ j v, vs[j]? = some v → w.cell? (ad.add j) = some v :=
  fun _ => ⟨rfl, _, rfl, h⟩

theorem spl_a (nc : Nat) (cv : Value) (vs : List Value) (h : vs.length + 1 ≤ nc) :
    (splice (splice (List.replicate nc (Value.slice none 0 0)) 0 [cv]) 1 vs).length = nc ∧ (splice (splice (List.replicate nc (Value.slice none 0 0)) 0 [cv]) 1 vs).take (vs.length + 1) = cv :: vs := by
  have hl : (splice (List.replicate nc (Value.slice none 0 0)) 0 [cv]).length = nc := by rw [length_splice _ _ _ (by simp; omega)]; simp
  refine ⟨by rw [length_splice _ _ _ (by rw [hl]; omega), hl], ?_⟩
  have e : splice (List.replicate nc (Value.slice none 0 0)) 0 [cv] = cv :: List.replicate (nc - 1) (Value.slice none 0 0) := by simp [splice]
  rw [e]
  simp [splice]
theorem spl_b (cur : List Value) (cv : Value) (vs : List Value) (h : vs.length + 1 ≤ cur.length) :
    (splice (splice cur 1 vs) 0 [cv]).length = cur.length ∧ (splice (splice cur 1 vs) 0 [cv]).take (vs.length + 1) = cv :: vs := by
  have hl : (splice cur 1 vs).length = cur.length := length_splice _ _ _ (by omega)
  refine ⟨by rw [length_splice _ _ _ (by rw [hl]; simp; omega), hl], ?_⟩
  cases cur with
  | nil => simp at h
  | cons x xs => simp [splice]
set_option maxRecDepth 100000 in
set_option maxHeartbeats 400000 in
theorem insert_grow (base vb g n cap : Nat) (cv : Value) (vs : List Value) (w : World) (hown : w.ownsRow base 22 1 (.slice (some ⟨g, 0, none⟩) n cap) n vs) (hbase : base ≤ w.heap.size) (hn : 0 < n) (hn2 : n ≤ 1000000000)
    (hcap : cap < n + 1) (hcell : w.cell? ⟨vb, 0, none⟩ = some cv) (h1 : cv.oneCell' = true) (h2 : ∀ u ∈ vs, u.oneCell' = true) (hvb : vb < w.heap.size) (hgw : g < w.heap.size) :
    Calls Tryd.prog 52 #[.slice (some ⟨g, 0, none⟩) n cap, .int .i64 0, .slice (some ⟨vb, 0, none⟩) 1 1] w (InsP base (some g) w cv n vs) := by
  obtain ⟨i0, hi, hz0, hz1, hz2⟩ := info_parts info22
  have hvl : vs.length = n := by have := hown.1; omega
  have hnc : n ≤ cap := by
    rcases hown.2 with ⟨e, _⟩ | ⟨g', cap', cur', e, _, _, h, _⟩
    · cases e
    · cases e; exact h
  have hvs : ∀ j u, vs[j]? = some u → w.cell? ((⟨g, 0, none⟩ : Addr).add j) = some u := hown.cells (g := g) rfl
  have hold := run_firstCells_some (P := Tryd.prog) w.drew i0.size 0 ⟨g, 0, none⟩ 0 cap [] (by simp) (fun j u hu => by simp at hu)
  have hr := Lib.run_append_grow_zeros (P := Tryd.prog) w 31 3 31 22 i0 (.slice none 0 0) .i64 .i64 Tryd.underlying31 Tryd.underlying3 hi hz0 (some ⟨g, 0, none⟩) 0 cap [] hold (n + 1) (by omega) (by rw [hz1]; decide) (by omega) (by omega) (by rw [hz2]; omega) (growslice_fits (by omega) (by rw [hz2]; omega))
  rw [Nat.zero_add, zeroCells_nil, zeroCells_nil] at hr
  obtain ⟨nc, hnc2⟩ : ∃ nc, nc = grownCap w (n + 1) cap 22 := ⟨_, rfl⟩
  have hge := grownCap_ge w (n + 1) cap 22
  have hle := grownCap_le_maxLen w (n + 1) cap 22 (by unfold maxLen; omega)
  rw [← hnc2] at hr hge hle
  clear hnc2
  have hcat : ([] : List Value).toArray ++ (List.replicate (n + 1) (Value.slice none 0 0)).toArray ++ (List.replicate (nc - (n + 1)) (Value.slice none 0 0)).toArray = (List.replicate nc (Value.slice none 0 0)).toArray := by
    apply Array.ext'; simp; omega
  rw [hcat] at hr
  have HR := Lib.hid hr
  clear hr hcat hold hi hz0 hz1 hz2
  obtain ⟨w1, hw1⟩ : ∃ w1, w1 = w.drew.alloc (.cells (List.replicate nc (Value.slice none 0 0)).toArray 22) := ⟨_, rfl⟩
  rw [← hw1] at HR
  have hb1 : Below w.heap.size w w1 := by rw [hw1]; exact (Below.refl _ _).drew.alloc (by simp) _
  have HG1 : Hid (w1.heap[w.heap.size]? = some (.cells (List.replicate nc (Value.slice none 0 0)).toArray 22 (0, 0))) := by rw [hw1]; exact row_new w.drew _ _
  clear hw1
  have c1 : w1.cell? ⟨vb, 0, none⟩ = some cv := (hb1.cell (p := ⟨vb, 0, none⟩) hvb).trans hcell
  have dn : (((n : Int)) == 0) = false := by simp; omega
  have dn' : ((0 : Int) == (n : Int)) = false := by simp; omega
  have dc : decide ((cap : Int) < (n : Int) + 1) = true := decide_eq_true (by omega)
  have z1 : (0 : Int) ≤ (n : Int) := by omega
  go_enter Tryd.func52, Tryd.ntmps52
  go_wp2_with (first | (at_builtin; refine Lib.wpList_append_run w rfl (.tmp 34) (.tmp 39) 31 3 rfl (.slice (some ⟨g, 0, none⟩) 0 cap) (.int .i64 ((n + 1 : Nat) : Int)) rfl rfl _ _ HR.out ?_) | (refine wpList_copy_splice rfl (.tmp 43) (.tmp 44) 31 31 rfl 22 Tryd.underlying31 info22s (some ⟨w.heap.size, 0, none⟩) (some ⟨vb, 0, none⟩) (n + 1) nc 1 1 rfl rfl w.heap.size 0 _ 22 HG1.out [cv] (by simp) (one_pos c1) (by simp; omega) (by simpa using h1) w.heap.size w hb1 (Nat.le_refl _) ?_; intro w2 HG2 hb2))
  go_frame
  have hz2 := hb2.size
  have HV2 : Hid (∀ j u, vs[j]? = some u → w2.drew.cell? ((⟨g, 0, none⟩ : Addr).add j) = some u) := fun j u hu => by
    have := hvs j u hu
    rw [Addr.add_mid] at this ⊢
    rw [hb2.drew.cell (p := ⟨g, 0 + j, none⟩) hgw]; exact this
  clear hvs
  have HG2d : Hid (w2.drew.heap[w.heap.size]? = some (.cells (splice (List.replicate nc (Value.slice none 0 0)) 0 [cv]).toArray 22 (0, 0))) := HG2.out
  have e1 : IntKind.i64.wrap 1 = 1 := by decide
  have ne1 : ¬ nc = 1 := by omega
  have q1 : (1 : Int) ≤ (n : Int) + 1 := by omega
  have q2 : (1 : Int) ≤ (nc : Int) := by omega
  have q3 : (1 : Int) < (nc : Int) := by omega
  go_still_tail 8, (by kernel_rfl)
  change wpList _ _ _ _ _ w2.drew
  refine wpList_copy_splice rfl (.tmp 50) (.tmp 53) 31 31 rfl 22 Tryd.underlying31 info22s (some ⟨w.heap.size, 1, none⟩) (some ⟨g, 0, none⟩) n (nc - 1) n cap rfl rfl w.heap.size 1 _ 22 HG2d.out vs (by simp; omega) (row_pos HV2.out) (by rw [length_splice _ _ _ (by simp; omega)]; simp; omega) h2 w.heap.size w hb2.drew (Nat.le_refl _) ?_
  intro w3 HG3 hb3
  go_wp2
  go_ret
  obtain ⟨t1, t2⟩ := spl_a nc cv vs (by omega)
  exact ⟨_, rfl, ⟨by simp [hvl], .inr ⟨w.heap.size, nc, _, rfl, hbase, HG3.out, hge, hle, by simp [t1], by simp only [Nat.mul_one]; rw [← hvl]; exact t2⟩⟩, grown_of_below hb3 _⟩

theorem size22 (w : World) : (Go.sizeOf 22).run Tryd.prog w = .ok 1 w := by
  obtain ⟨i0, hi, hz0, hz1, hz2⟩ := info_parts info22
  simp [sizeOf, typeInfo, hi, hz1]
set_option maxRecDepth 100000 in
set_option maxHeartbeats 400000 in
theorem insert_room (base vb g n cap : Nat) (cv : Value) (vs : List Value) (w : World) (hown : w.ownsRow base 22 1 (.slice (some ⟨g, 0, none⟩) n cap) n vs) (_hbase : base ≤ w.heap.size) (hn : 0 < n) (hn2 : n ≤ 1000000000)
    (hcap : n + 1 ≤ cap) (hcell : w.cell? ⟨vb, 0, none⟩ = some cv) (h1 : cv.oneCell' = true) (h2 : ∀ u ∈ vs, u.oneCell' = true) (hvg : vb ≠ g) (hvr : ∃ C, w.heap[vb]? = some (.cells C 22 (0, 0))) :
    Calls Tryd.prog 52 #[.slice (some ⟨g, 0, none⟩) n cap, .int .i64 0, .slice (some ⟨vb, 0, none⟩) 1 1] w (InsP base (some g) w cv n vs) := by
  have hvl : vs.length = n := by have := hown.1; omega
  have hvs : ∀ j u, vs[j]? = some u → w.drew.cell? ((⟨g, 0, none⟩ : Addr).add j) = some u := hown.cells (g := g) rfl
  obtain ⟨cur, hbg, hg, hcm, hcs, htake⟩ : ∃ cur : Array Value, base ≤ g ∧ w.heap[g]? = some (.cells cur 22 (0, 0)) ∧ cap ≤ maxLen ∧ cur.size = cap ∧ cur.toList.take n = vs := by
    rcases hown.2 with ⟨e, _⟩ | ⟨g', cap', cur', e, h1, h2, _, h3, h4, h5⟩
    · cases e
    · cases e; exact ⟨cur', h1, h2, h3, by simpa using h4, by simpa using h5⟩
  have HG := Lib.hid hg
  have HV := Lib.hid hvs
  clear hg hvs
  have hcmx : cap ≤ 9223372036854775807 := hcm
  have dn : (((n : Int)) == 0) = false := by simp; omega
  have dn' : ((0 : Int) == (n : Int)) = false := by simp; omega
  have dc : decide ((cap : Int) < (n : Int) + 1) = false := decide_eq_false (by omega)
  have z1 : (0 : Int) ≤ (n : Int) := by omega
  have e1 : IntKind.i64.wrap 1 = 1 := by decide
  have ne1 : ¬ cap = 1 := by omega
  have hov : (callFunc 76 #[.slice (some ⟨vb, 0, none⟩) 1 1, .slice (some ⟨g, 1, none⟩) n (cap - 1)]).run Tryd.prog w = .ok (.value (.bool false)) w := by
    obtain ⟨C, hC⟩ := hvr
    rw [run_callFunc_extern Tryd.func76 (by kernel_rfl) (by kernel_rfl) (by kernel_rfl) (e := Extern.SlicesOverlaps.overlaps #[31, 31] #[4]) (by kernel_rfl),
      Lib.run_overlaps_apart w 31 4 22 Tryd.underlying31 1 size22 ⟨vb, 0, none⟩ ⟨g, 1, none⟩ 1 1 n (cap - 1) hvg 22 22 C.size cur.size (by simp [World.shape?, hC]) (by have := HG.out; simp [World.shape?, this]) (by omega) (row_free hC 0) (row_free hC C.size)]
    rfl
  have HGd : Hid (w.drew.heap[g]? = some (.cells cur.toList.toArray 22 (0, 0))) := by rw [Array.toArray_toList]; exact HG.out
  have q1 : (1 : Int) ≤ (n : Int) + 1 := by omega
  have q2 : (1 : Int) ≤ (cap : Int) := by omega
  have q3 : (1 : Int) < (cap : Int) := by omega
  have z2 : (0 : Int) ≤ (n : Int) + 1 := by omega
  have ne0 : ¬ cap = 0 := by omega
  go_enter Tryd.func52, Tryd.ntmps52
  go_wp2
  go_still_tail 8, (by kernel_rfl)
  change wpList _ _ _ _ _ w.drew
  refine wpList_copy_own rfl (.tmp 73) (.tmp 76) 31 31 rfl 22 Tryd.underlying31 info22s g 1 n (cap - 1) ⟨g, 0, none⟩ (n + 1) cap rfl rfl cur.toList.toArray 22 HGd.out vs (by simp; omega) (fun j v hv => HV.out j v hv) (by simp; omega) h2 ?_
  have HG3 : Hid ((w.drew.setRow g (splice cur.toList 1 vs).toArray).heap[g]? = some (.cells (splice cur.toList 1 vs).toArray 22 (0, 0))) := setRow_heap _ _ _ _ _ _ HGd.out
  have hg3 : w.grownBy (w.drew.setRow g (splice cur.toList 1 vs).toArray) (some g) := ⟨rfl, rfl, rfl, by simp, fun k hk hne => setRow_other _ _ _ _ (fun e => hne (by rw [e]))⟩
  have c3 : (w.drew.setRow g (splice cur.toList 1 vs).toArray).cell? ⟨vb, 0, none⟩ = some cv := (World.cell?_of_block (setRow_other _ _ _ _ hvg)).trans hcell
  change wpList _ _ _ _ _ (w.drew.setRow g (splice cur.toList 1 vs).toArray)
  generalize w.drew.setRow g (splice cur.toList 1 vs).toArray = w3 at *
  go_wp2_with (refine wpList_copy_own rfl (.tmp 80) (.tmp 81) 31 31 rfl 22 Tryd.underlying31 info22s g 0 (n + 1) cap ⟨vb, 0, none⟩ 1 1 rfl rfl (splice cur.toList 1 vs).toArray 22 HG3.out [cv] (by simp) (one_src c3) (by simp; rw [length_splice _ _ _ (by simp; omega)]; simp; omega) (by simpa using h1) ?_)
  have e4 : splice (splice cur.toList 1 vs) 0 [cv] = cv :: (splice cur.toList 1 vs).tail := by
    have : ∀ L : List Value, splice L 0 [cv] = cv :: L.tail := fun L => by simp [splice]
    exact this _
  obtain ⟨t1, t2⟩ := spl_b cur.toList cv vs (by simp; omega)
  rw [e4] at t1 t2
  go_ret
  exact ⟨_, rfl, ⟨by simp [hvl], .inr ⟨g, cap, _, rfl, hbg, setRow_heap _ _ _ _ _ _ HG3.out, hcap, hcm, by rw [List.size_toArray, t1]; simp [hcs], by simp only [Nat.mul_one]; rw [← hvl]; exact t2⟩⟩,
    ⟨hg3.os, hg3.tape, hg3.output, by simpa using hg3.size, fun k hk hne => (setRow_other _ _ _ _ (fun e => hne (by rw [e]))).trans (hg3.block k hk hne)⟩⟩
end Go.Proofs.YtjkicmlelilcaaaDoor
