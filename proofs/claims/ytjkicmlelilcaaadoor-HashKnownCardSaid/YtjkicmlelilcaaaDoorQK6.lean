/- Part 6 of the proof: texts of the proof. -/
import Derived.Test.YtjkicmlelilcaaaDoorQK5
import Derived.Deep.AppendSrc
namespace Go.Proofs.YtjkicmlelilcaaaDoor
open Go
inductive Ref where
  | op (k : Nat)
  | slot (t : Nat)
  | lit (v : AV)
def aggOf (l : List AV) : AV := match l with
  | .int k n :: l' => match allInt k l' with
    | some ns => .ints k (n :: ns)
    | none => .agg l
  | _ => .agg l
theorem vr_aggOf {ρ : Ren} {l : List AV} {us : List Value} (h : VRs ρ l us) : VR ρ (aggOf l) (.agg us.toArray) := by
  unfold aggOf
  split
  · rename_i k n l'
    split
    · rename_i ns hns
      have := allInt_spec k l' ns hns
      subst this
      obtain ⟨v, m, rfl, hv, hm⟩ := h
      unfold VR at hv; subst hv
      have : m = ns.map (Value.int k) := by
        have h1 := hm
        clear hns
        induction ns generalizing m with
        | nil => exact h1
        | cons x ns ih =>
          obtain ⟨v, m', rfl, hv, hm'⟩ := h1
          unfold VR at hv; subst hv
          rw [ih m' hm' hm']; rfl
      subst this
      unfold VR; rfl
    · unfold VR; exact ⟨us, rfl, h⟩
  · unfold VR; exact ⟨us, rfl, h⟩
def ofCell : Value → AV
  | .bool b => .bool b
  | .int k n => .int k n
  | .string s => .str s.data.toList
  | .pointer none => .nilptr
  | .slice none 0 0 => .nilsl
  | .map none => .nilmap
  | .nilFunc => .nilfn
  | .nilIface => .nilifc
  | .func f ⟨[]⟩ ⟨[]⟩ => .fn f [] []
  | _ => .top
theorem vr_ofCell (ρ : Ren) (v : Value) : VR ρ (ofCell v) v := by
  unfold ofCell
  split <;> unfold VR <;> first | rfl | trivial | exact ⟨[], [], rfl, rfl, rfl⟩
def ofVal : Value → AV
  | .agg cs => aggOf (cs.toList.map ofCell)
  | .iface t v => .ifc t (ofCell v)
  | .tuple cs => .tup (cs.toList.map ofCell)
  | v => ofCell v
theorem vrs_ofCell (ρ : Ren) : ∀ l : List Value, VRs ρ (l.map ofCell) l
  | [] => rfl
  | v :: l => ⟨v, l, rfl, vr_ofCell ρ v, vrs_ofCell ρ l⟩
theorem vr_ofVal (ρ : Ren) (v : Value) : VR ρ (ofVal v) v := by
  unfold ofVal
  split
  · rename_i cs; exact vr_aggOf (us := cs.toList) (vrs_ofCell ρ cs.toList)
  · unfold VR; exact ⟨_, rfl, vr_ofCell ρ _⟩
  · rename_i cs; unfold VR; exact ⟨cs.toList, rfl, vrs_ofCell ρ _⟩
  · exact vr_ofCell ρ v
theorem wr_eq (k : IntKind) (n : Int) : k.wrap n = wr k n := by
  cases k <;> simp [IntKind.wrap, IntKind.bits, IntKind.signed, wr] <;> (try split) <;> omega
def binI (A : Ar) (op : BinOp) (k : IntKind) (a b : Int) : Bool × AV := match op with
  | .add => (true, .int k (A.wr k (A.add a b)))
  | .sub => (true, .int k (A.wr k (A.sub a b)))
  | .mul => (true, .int k (A.wr k (A.mul a b)))
  | .quo => (!A.eq b 0, .int k (A.wr k (A.tdiv a b)))
  | .rem => (!A.eq b 0, .int k (A.tmod a b))
  | .and => (true, .int k (A.wr k (A.bits .and k a b)))
  | .or => (true, .int k (A.wr k (A.bits .or k a b)))
  | .xor => (true, .int k (A.wr k (A.bits .xor k a b)))
  | .andNot => (true, .int k (A.wr k (A.bits .andNot k a b)))
  | .shl => (!A.lt b 0, .int k (A.wr k (A.shl k a b)))
  | .shr => (!A.lt b 0, .int k (A.shr k a b))
  | .eql => (true, .bool (A.eq a b))
  | .neq => (true, .bool (!A.eq a b))
  | .lss => (true, .bool (A.lt a b))
  | .leq => (true, .bool (A.le a b))
  | .gtr => (true, .bool (A.lt b a))
  | .geq => (true, .bool (A.le b a))
def isShift : BinOp → Bool
  | .shl | .shr => true
  | _ => false
def binS (A : Ar) (op : BinOp) (a b : List UInt8) : Bool × AV := match op with
  | .add => (A.leN (A.addN (A.slen a) (A.slen b)) 9223372036854775807, .str (A.sapp a b))
  | .eql => (true, .bool (A.seq a b))
  | .neq => (true, .bool (!A.seq a b))
  | .lss => (true, .bool (A.slt a b))
  | .leq => (true, .bool (A.slt a b || A.seq a b))
  | .gtr => (true, .bool (!(A.slt a b || A.seq a b)))
  | .geq => (true, .bool (!A.slt a b))
  | _ => (false, .top)
theorem binI_run {P : Program} {W : World} {op : BinOp} {t : TypeId} {x y : Operand} {k k' : IntKind} {a b : Int} (hk : (isShift op || decide (k = k')) = true) (h : (binI std op k a b).1 = true) (ρ : Ren) :
    ∃ v, (do eqGuard op t x y (.int k a) (.int k' b); binOp op t (.int k a) (.int k' b)).run P W = .ok v W ∧ VR ρ (binI std op k a b).2 v := by
  have hg : (eqGuard op t x y (.int k a) (.int k' b)).run P W = .ok () W := by
    unfold eqGuard; cases op <;> rfl
  rw [Sem.run_bind, hg, Result.andThen_ok]
  cases op
  case shl =>
    simp only [binI, std, Bool.not_eq_true', decide_eq_false_iff_not] at h
    refine ⟨.int k (k.wrap (a * 2 ^ (min b.toNat k.bits))), ?_, ?_⟩
    · simp [binOp, Op.shift, h]
    · simp only [binI, std, VR, wr_eq]
  case shr =>
    simp only [binI, std, Bool.not_eq_true', decide_eq_false_iff_not] at h
    refine ⟨.int k (a.fdiv (2 ^ (min b.toNat k.bits))), ?_, ?_⟩
    · simp [binOp, Op.shift, h]
    · simp only [binI, std, VR]
  all_goals
    simp only [isShift, Bool.false_or, decide_eq_true_eq] at hk
    subst hk
  case quo =>
    simp only [binI, std, Bool.not_eq_true', decide_eq_false_iff_not] at h
    exact ⟨.int k (k.wrap (a.tdiv b)), by simp [binOp, Op.intDiv, h], by simp only [binI, std, VR, wr_eq]⟩
  case rem =>
    simp only [binI, std, Bool.not_eq_true', decide_eq_false_iff_not] at h
    exact ⟨.int k (a.tmod b), by simp [binOp, Op.intDiv, h], by simp only [binI, std, VR]⟩
  case eql => exact ⟨.bool (a == b), by simp [binOp, Op.intCmp], by show VR ρ (.bool _) _; unfold VR; rfl⟩
  case neq => exact ⟨.bool (a != b), by simp [binOp, Op.intCmp], by show VR ρ (.bool _) _; unfold VR; rfl⟩
  all_goals first
    | exact ⟨_, by simp [binOp, Op.intArith]; rfl, by simp only [binI, std, stdBits, VR, wr_eq]⟩
    | exact ⟨_, by simp [binOp, Op.intBits]; rfl, by simp only [binI, std, stdBits, VR, wr_eq]⟩
    | exact ⟨_, by simp [binOp, Op.intCmp]; rfl, by simp [binI, std, VR]⟩
theorem ba_toList_loop (s : ByteArray) : ∀ (n i : Nat) (r : List UInt8), s.size - i = n → ByteArray.toList.loop s i r = r.reverse ++ s.data.toList.drop i := by
  intro n
  induction n with
  | zero =>
    intro i r h
    unfold ByteArray.toList.loop
    rw [if_neg (by omega), List.drop_eq_nil_of_le (by have : s.data.toList.length = s.size := rfl; omega)]; simp
  | succ n ih =>
    intro i r h
    unfold ByteArray.toList.loop
    rw [if_pos (by omega), ih (i + 1) _ (by omega)]
    have hl : i < s.data.toList.length := by have : s.data.toList.length = s.size := rfl; omega
    rw [List.reverse_cons, List.append_assoc, List.drop_eq_getElem_cons hl]
    congr 2
    have : s.get! i = s.data.toList[i] := by
      have hi : i < s.data.size := by have : s.data.size = s.size := rfl; omega
      simp [ByteArray.get!, getElem!_pos s.data i hi]
    rw [this]; rfl
theorem ba_toList (l : List UInt8) : (⟨l.toArray⟩ : ByteArray).toList = l := by
  unfold ByteArray.toList
  rw [ba_toList_loop _ _ 0 [] rfl]; simp
theorem ba_append (a b : List UInt8) : (⟨a.toArray⟩ : ByteArray) ++ ⟨b.toArray⟩ = ⟨(a ++ b).toArray⟩ := by
  have : ∀ x y : ByteArray, (x ++ y).data = x.data ++ y.data := fun x y => ByteArray.data_append ..
  have e := this ⟨a.toArray⟩ ⟨b.toArray⟩
  rw [show ((⟨a.toArray⟩ : ByteArray) ++ ⟨b.toArray⟩) = ⟨((⟨a.toArray⟩ : ByteArray) ++ ⟨b.toArray⟩).data⟩ from rfl, e]; simp
theorem ba_size (a : List UInt8) : (⟨a.toArray⟩ : ByteArray).size = a.length := rfl
theorem binS_run {P : Program} {W : World} {op : BinOp} {t : TypeId} {x y : Operand} {a b : List UInt8} (h : (binS std op a b).1 = true) (ρ : Ren) :
    ∃ v, (do eqGuard op t x y (.string ⟨a.toArray⟩) (.string ⟨b.toArray⟩); binOp op t (.string ⟨a.toArray⟩) (.string ⟨b.toArray⟩)).run P W = .ok v W ∧ VR ρ (binS std op a b).2 v := by
  have hg : (eqGuard op t x y (.string ⟨a.toArray⟩) (.string ⟨b.toArray⟩)).run P W = .ok () W := by
    unfold eqGuard; cases op <;> rfl
  rw [Sem.run_bind, hg, Result.andThen_ok]
  cases op
  case add =>
    simp only [binS, std, Nat.ble_eq] at h
    refine ⟨.string ⟨(a ++ b).toArray⟩, ?_, rfl⟩
    have e : binOp .add t (.string ⟨a.toArray⟩) (.string ⟨b.toArray⟩) = Op.stringOp .add ⟨a.toArray⟩ ⟨b.toArray⟩ := rfl
    have hm : IntKind.i64.max = 9223372036854775807 := by decide
    rw [e, ← ba_append]
    unfold Op.stringOp
    simp only [ba_size, hm]
    rw [if_neg (by omega)]; rfl
  all_goals first
    | (simp [binS] at h; done)
    | (refine ⟨_, rfl, ?_⟩; simp only [binS, std, VR, ba_toList]; done)
    | (refine ⟨_, rfl, ?_⟩; simp only [binS, std, VR, ba_toList, Bool.or_comm])
end Go.Proofs.YtjkicmlelilcaaaDoor
namespace Go.Proofs.YtjkicmlelilcaaaDoor
open Go
abbrev Out := Bool × AV × AH
def bad (σ : AH) : Out := (false, .top, σ)
inductive Row where
  | ints (k : IntKind) (l : List Int)
  | cells (l : List AV)
def Row.list : Row → List AV
  | .ints k l => l.map (AV.int k)
  | .cells l => l
/-- What a slice, or a string, yields. -/
noncomputable def rowA (A : Ar) (str : Bool) (size : Nat) (σ : AH) (v : AV) : Bool × Nat × Row := match v with
  | .nilsl => (!str, 0, .cells [])
  | .sl b o n _ _ z => match σ.get b with
    | some ob => match ob with
      | .ints ik l _ _ => (!str && Nat.beq z size && A.leN (A.addN o (A.mulN n size)) (A.len l), n, .ints ik (A.part l o (A.mulN n size)))
      | .cells l _ _ => (!str && Nat.beq z size && Nat.ble (o + n * size) l.length && l.all AV.one, n, .cells ((l.drop o).take (n * size)))
      | .dead => (!str && Nat.beq n 0, 0, .cells [])
    | none => (false, 0, .cells [])
  | .str l => (str && Nat.beq size 1, A.slen l, .ints .u8 (A.sint l))
  | _ => (false, 0, .cells [])
def catA (A : Ar) (e : TypeId) : Row → Row → Bool × AObj
  | .ints k l, .ints k' m => (decide (k = k'), .ints k (A.app l m) e .more)
  | .ints k l, .cells m => match m with
    | [] => (true, .ints k l e .more)
    | _ => match AObj.of m e .more with
      | .ints k' m' _ _ => (decide (k = k'), .ints k (A.app l m') e .more)
      | _ => (false, .dead)
  | .cells l, .ints k m => match l with
    | [] => (true, .ints k m e .more)
    | _ => match AObj.of l e .more with
      | .ints k' l' _ _ => (decide (k = k'), .ints k (A.app l' m) e .more)
      | _ => (false, .dead)
  | .cells l, .cells m => (true, AObj.of (l ++ m) e .more)
/-- The block that may be written behind the slice is no longer spoken of. -/
noncomputable def killA (A : Ar) (σ : AH) (N : Nat) : AV → AH
  | .sl b _ _ k e _ => match e with
    | true => bif A.ltN k N then σ else σ.put b .dead
    | false => σ.put b .dead
  | _ => σ
/-- What may be appended to. -/
noncomputable def baseOk (A : Ar) (σ : AH) (e : TypeId) (N : Nat) : AV → Bool
  | .nilsl => true
  | .sl b _ _ k ex _ => match σ.get b with
    | some ob => ob.alive && (ex || ob.tail) && ((Nat.beq ob.elem e && !ob.isRo) || (ex && A.ltN k N))
    | none => false
  | _ => false
inductive XOp where
  | append (e : TypeId) (str : Bool) (size : Nat)
  | bslice (e : TypeId) (size n : Nat)
noncomputable def xstep (A : Ar) (σ : AH) : XOp → List AV → Out
  | .append e str size, args => match args with
    | [s, x] => match rowA A false size σ s with
      | (ok1, n, r1) => match rowA A str size σ x with
        | (ok2, m, r2) => match catA A e r1 r2 with
          | (ok3, o) => (ok1 && ok2 && ok3 && baseOk A σ e (A.addN n m) s && A.leN (A.addN n m) 1000000000000 && Nat.blt σ.next 1000000, .sl σ.next 0 (A.addN n m) (A.addN n m) false size, (killA A σ (A.addN n m) s).new o)
    | _ => bad σ
  | .bslice e size n, args => (Nat.blt σ.next 1000000 && Nat.beq (args.flatMap AV.cells).length (n * size) && args.all fun a => a.known && Nat.beq a.cells.length size, .sl σ.next 0 n n true size, σ.new (AObj.of (args.flatMap AV.cells) e .exact))
end Go.Proofs.YtjkicmlelilcaaaDoor
namespace Go.Proofs.YtjkicmlelilcaaaDoor
open Go
def isAggD : TypeDesc → Bool
  | .struct _ | .array _ _ => true
  | _ => false
inductive AOp where
  | mov (x : Ref)
  | pick (c a b : Ref)
  | bin (op : BinOp) (x y : Ref)
  | un (op : UnOp) (x : Ref)
  | conv (k : IntKind) (x : Ref)
  | alloc (e : TypeId) (l : List AV)
  | box (e : TypeId) (x : Ref)
  | load1 (x : Ref)
  | loadN (n : Nat) (x : Ref)
  | store (n : Nat) (p x : Ref)
  | fieldAddr (off : Nat) (x : Ref)
  | idxArr (len size : Nat) (x i : Ref)
  | idxSl (size : Nat) (x i : Ref)
  | slStr (x : Ref) (lo hi : Option Ref)
  | slSl (size : Nat) (x : Ref) (lo hi mx : Option Ref)
  | slArr (len size : Nat) (x : Ref) (lo hi mx : Option Ref)
  | extract (x : Ref) (k : Nat)
  | mkIface (t : TypeId) (x : Ref)
  | nilCheck (x : Ref)
  | lenStr (x : Ref)
  | lenSl (x : Ref)
  | ext (x : XOp) (args : List Ref)
def AObj.readOk (A : Ar) (o : AObj) (off n : Nat) : Bool := match o with
  | .dead => false
  | .cells l _ _ => Nat.ble (off + n) l.length
  | .ints _ l _ _ => A.leN (A.addN off n) (A.len l)
def AObj.read (A : Ar) (o : AObj) (off n : Nat) : AV := match o with
  | .dead => .top
  | .cells l _ _ => .agg ((l.drop off).take n)
  | .ints k l _ _ => .ints k (A.part l off n)
/-- A bound of a slice expression. -/
def bnd (A : Ar) (x : Option AV) (dflt top : Nat) : Bool × Nat := match x with
  | none => (true, dflt)
  | some (.int _ n) => (A.le 0 n && A.leN (A.ton n) top, A.ton n)
  | some _ => (false, 0)
def unI (A : Ar) (op : UnOp) (v : AV) : Bool × AV := match op, v with
  | .neg, .int k n => (true, .int k (A.wr k (A.sub 0 n)))
  | .xor, .int k n => binI A .xor k (if k.signed then -1 else k.max) n
  | .not, .bool b => (true, .bool !b)
  | _, _ => (false, .top)
def oBin (A : Ar) (op : BinOp) (ax ay : AV) (σ : AH) : Out := match ax with
  | .int k a => match ay with
    | .int k' b => ((binI A op k a b).1 && (isShift op || decide (k = k')), (binI A op k a b).2, σ)
    | _ => bad σ
  | .str a => match ay with
    | .str b => ((binS A op a b).1, (binS A op a b).2, σ)
    | _ => bad σ
  | _ => bad σ
noncomputable def oLoad1 (A : Ar) (ax : AV) (σ : AH) : Out := match ax with
  | .ptr b off => match σ.get b with
    | some o => (o.atOk A off, o.atD A off, σ)
    | none => bad σ
  | _ => bad σ
noncomputable def oLoadN (A : Ar) (n : Nat) (ax : AV) (σ : AH) : Out := match ax with
  | .ptr b off => match σ.get b with
    | some o => (o.readOk A off n, o.read A off n, σ)
    | none => bad σ
  | _ => bad σ
def AV.size (A : Ar) : AV → Nat
  | .agg l => l.length
  | .ints _ l => A.len l
  | _ => 1
theorem AV.size_eq (a : AV) : a.size std = a.cells.length := by cases a <;> simp [AV.size, AV.cells, std]
noncomputable def oStore (A : Ar) (n : Nat) (ap ax : AV) (σ : AH) : Out := match ap with
  | .ptr b off => match σ.get b with
    | some o => (o.writeOk A off ax && A.eqN (ax.size A) n, .tup [], σ.put b (o.write A off ax))
    | none => bad σ
  | _ => bad σ
def oIdxArr (A : Ar) (len size : Nat) (ax ai : AV) (σ : AH) : Out := match ax with
  | .ptr b o => match ai with
    | .int _ n => (A.le 0 n && A.ltN (A.ton n) len, .ptr b (A.addN o (A.mulN (A.ton n) size)), σ)
    | _ => bad σ
  | _ => bad σ
def oIdxSl (A : Ar) (size : Nat) (ax ai : AV) (σ : AH) : Out := match ax with
  | .sl b o len _ _ _ => match ai with
    | .int _ n => (A.le 0 n && A.ltN (A.ton n) len, .ptr b (A.addN o (A.mulN (A.ton n) size)), σ)
    | _ => bad σ
  | _ => bad σ
def oSlStr (A : Ar) (ax : AV) (lo hi : Option AV) (σ : AH) : Out := match ax with
  | .str l =>
    let h := bnd A hi (A.slen l) (A.slen l)
    let m := bnd A lo 0 h.2
    (h.1 && m.1, .str (A.spart l m.2 (A.subN h.2 m.2)), σ)
  | _ => bad σ
def oSlSl (A : Ar) (size : Nat) (ax : AV) (lo hi mx : Option AV) (σ : AH) : Out := match ax with
  | .sl b o n c e z =>
    let m := bnd A mx c c
    let h := bnd A hi n m.2
    let l := bnd A lo 0 h.2
    (m.1 && h.1 && l.1 && (hi.isSome || mx.isNone) && Nat.beq z size, .sl b (A.addN o (A.mulN l.2 size)) (A.subN h.2 l.2) (A.subN m.2 l.2) e z, σ)
  | .nilsl =>
    let m := bnd A mx 0 0
    let h := bnd A hi 0 0
    let l := bnd A lo 0 0
    (m.1 && h.1 && l.1 && (hi.isSome || mx.isNone), .nilsl, σ)
  | _ => bad σ
noncomputable def oSlArr (A : Ar) (len size : Nat) (ax : AV) (lo hi mx : Option AV) (σ : AH) : Out := match ax with
  | .ptr b o => match σ.get b with
    | some ob =>
      let m := bnd A mx len len
      let h := bnd A hi len m.2
      let l := bnd A lo 0 h.2
      (m.1 && h.1 && l.1 && (hi.isSome || mx.isNone) && ob.readOk A o (len * size), .sl b (A.addN o (A.mulN l.2 size)) (A.subN h.2 l.2) (A.subN m.2 l.2) true size, σ)
    | none => bad σ
  | _ => bad σ
noncomputable def step (A : Ar) (ev : Ref → AV) (σ : AH) : AOp → Out
  | .mov x => (true, ev x, σ)
  | .pick c a b => match ev c with
    | .bool t => (true, bif t then ev a else ev b, σ)
    | _ => bad σ
  | .bin op x y => oBin A op (ev x) (ev y) σ
  | .un op x => ((unI A op (ev x)).1, (unI A op (ev x)).2, σ)
  | .conv k x => match ev x with
    | .int _ n => (true, .int k (A.wr k n), σ)
    | _ => bad σ
  | .alloc e l => (Nat.blt σ.next 1000000, .ptr σ.next 0, σ.new (AObj.of l e .exact))
  | .box e x => ((ev x).known && Nat.blt σ.next 1000000, .ptr σ.next 0, σ.new (AObj.of (ev x).cells e .exact))
  | .load1 x => oLoad1 A (ev x) σ
  | .loadN n x => oLoadN A n (ev x) σ
  | .store n p x => oStore A n (ev p) (ev x) σ
  | .fieldAddr off x => match ev x with
    | .ptr b o => (true, .ptr b (o + off), σ)
    | _ => bad σ
  | .idxArr len size x i => oIdxArr A len size (ev x) (ev i) σ
  | .idxSl size x i => oIdxSl A size (ev x) (ev i) σ
  | .slStr x lo hi => oSlStr A (ev x) (lo.map ev) (hi.map ev) σ
  | .slSl size x lo hi mx => oSlSl A size (ev x) (lo.map ev) (hi.map ev) (mx.map ev) σ
  | .slArr len size x lo hi mx => oSlArr A len size (ev x) (lo.map ev) (hi.map ev) (mx.map ev) σ
  | .extract x k => match ev x with
    | .tup l => (Nat.blt k l.length, l.getD k .top, σ)
    | _ => bad σ
  | .mkIface t x => (true, .ifc t (ev x), σ)
  | .nilCheck x => match ev x with
    | .ptr b o => (true, .ptr b o, σ)
    | _ => bad σ
  | .lenStr x => match ev x with
    | .str l => (true, .int .i64 (A.slen l), σ)
    | _ => bad σ
  | .lenSl x => match ev x with
    | .sl _ _ n _ _ _ => (true, .int .i64 n, σ)
    | .nilsl => (true, .int .i64 0, σ)
    | _ => bad σ
  | .ext x args => xstep A σ x (args.map ev)
/-- What a run of an operation comes to. -/
def Runs (P : Program) (m : Sem Next) (W : World) (ρ : Ren) (σ : AH) (r : Out) : Prop := r.1 = true → ∃ n W' ρ', m.run P W = .ok n W' ∧ HR ρ' r.2.2 W' ∧ Stp σ.next ρ σ W ρ' r.2.2 W' ∧
  ((∃ v, n = .value v ∧ VR ρ' r.2.1 v) ∨ (n = .skip ∧ VR ρ' r.2.1 undef))
theorem Runs.val {P : Program} {m : Sem Next} {W : World} {ρ : Ren} {σ : AH} {r : Out} (hr : HR ρ σ W) (v : Value) (h : r.1 = true → m.run P W = .ok (.value v) W ∧ VR ρ r.2.1 v) (hs : r.2.2 = σ) : Runs P m W ρ σ r := fun ht => by
  obtain ⟨h1, h2⟩ := h ht
  rw [hs]
  exact ⟨_, W, ρ, h1, hr, Stp.refl (Nat.le_refl _), .inl ⟨v, rfl, h2⟩⟩
theorem Runs.bad {P : Program} {m : Sem Next} {W : World} {ρ : Ren} {σ σ' : AH} : Runs P m W ρ σ (bad σ') := fun h => by cases h
section
variable {P : Program} {W : World} {ρ : Ren} {σ : AH}
theorem addr_none (c o n : Nat) : (⟨c, o, none⟩ : Addr).add n = ⟨c, o + n, none⟩ := by unfold Addr.add; split <;> simp_all
theorem load1_run (hr : HR ρ σ W) {t : TypeId} {d : TypeDesc} (hu : P.underlying t = some d) (hd : isAggD d = false) {x : Value} {ax : AV} (hx : VR ρ ax x) (hok : (oLoad1 std ax σ).1 = true) :
    (oLoad1 std ax σ).2.2 = σ ∧ ∃ c o v, x = .pointer (some ⟨c, o, none⟩) ∧ (loadVar t ⟨c, o, none⟩).run P W = .ok v W ∧ VR ρ (oLoad1 std ax σ).2.1 v := by
  unfold oLoad1 at hok ⊢
  cases ax
  case ptr b off =>
    unfold VR at hx
    obtain ⟨c, d', hb, rfl⟩ := hx
    dsimp only at hok ⊢
    cases ho : σ.get b with
    | none => rw [ho] at hok; cases hok
    | some o =>
      rw [ho] at hok
      obtain ⟨v, hv, hvr⟩ := hr.load hb ho (AObj.at_of_ok hok)
      refine ⟨rfl, c, off + d'.1, v, rfl, ?_, hvr⟩
      have hagg : (isAgg t).run P W = .ok false W := by
        unfold isAgg underlying
        simp only [Sem.run_bind, run_program, Result.andThen_ok, hu, Sem.run_pure]
        cases d <;> first | rfl | cases hd
      simp only [loadVar, Sem.run_bind, Result.andThen_ok, hagg, Bool.false_eq_true, if_false, run_load, hv]
  all_goals cases hok
theorem sem_load1 (hr : HR ρ σ W) {t : TypeId} {d : TypeDesc} (hu : P.underlying t = some d) (hd : isAggD d = false) {x : Value} {ax : AV} (hx : VR ρ ax x) :
    Runs P (do pure (.value (← Instr.loadAt t x))) W ρ σ (oLoad1 std ax σ) := by
  intro hok
  obtain ⟨h1, c, o, v, rfl, hrun, hv⟩ := load1_run (P := P) hr hu hd hx hok
  rw [h1]
  exact ⟨.value v, W, ρ, by simp only [Instr.loadAt, Instr.sureAddr, Sem.run_bind, Sem.run_pure, Result.andThen_ok, hrun], hr, Stp.refl (Nat.le_refl _), .inl ⟨v, rfl, hv⟩⟩
theorem loadN_run (hr : HR ρ σ W) {t : TypeId} {d : TypeDesc} {i : TypeInfo} (hu : P.underlying t = some d) (hd : isAggD d = true) (hi : P.info? t = some i) {x : Value} {ax : AV} (hx : VR ρ ax x) (hok : (oLoadN std i.size ax σ).1 = true) :
    (oLoadN std i.size ax σ).2.2 = σ ∧ ∃ c o v, x = .pointer (some ⟨c, o, none⟩) ∧ (loadVar t ⟨c, o, none⟩).run P W = .ok v W ∧ VR ρ (oLoadN std i.size ax σ).2.1 v := by
  unfold oLoadN at hok ⊢
  cases ax
  case ptr b off =>
    unfold VR at hx
    obtain ⟨c, d', hb, rfl⟩ := hx
    dsimp only at hok ⊢
    cases ho : σ.get b with
    | none => rw [ho] at hok; cases hok
    | some o =>
      rw [ho] at hok
      have hok : o.readOk std off i.size = true := hok
      have hok : o.alive = true ∧ off + i.size ≤ o.len := by
        cases o with
        | dead => cases hok
        | cells l e t => have hok : Nat.ble (off + i.size) l.length = true := hok; rw [Nat.ble_eq] at hok; exact ⟨rfl, hok⟩
        | ints k l e t => have hok : Nat.ble (off + i.size) l.length = true := hok; rw [Nat.ble_eq] at hok; exact ⟨rfl, hok⟩
      obtain ⟨_, hc, o', ho', hO⟩ := hr.dom b c d' hb
      rw [ho] at ho'; cases ho'
      obtain ⟨vl, hl, hcell, hvs⟩ : ∃ vl : List Value, vl.length = i.size ∧ (∀ j v, vl[j]? = some v → W.cell? ((⟨c, off + d'.1, none⟩ : Addr).add j) = some v) ∧ ∀ j a, o.at (off + j) = some a → j < i.size → ∃ v, vl[j]? = some v ∧ VR ρ a v := by
        by_cases hz : i.size = 0
        · exact ⟨[], by rw [hz]; rfl, fun j v h => by simp at h, fun j a _ h => by omega⟩
        · obtain ⟨cs, e0, fr, hx, _, hlen, _, hat⟩ := (hO hok.1).2 (fun _ => by omega)
          refine ⟨(cs.toList.drop (off + d'.1)).take i.size, by simp; omega, fun j v hj => ?_, fun j a ha hj => ?_⟩
          · rw [List.getElem?_take] at hj
            split at hj
            · rw [List.getElem?_drop] at hj
              rw [addr_none]
              simp only [World.cell?, hx]
              simpa using hj
            · cases hj
          · obtain ⟨v, hv, hvr⟩ := hat _ a ha
            refine ⟨v, ?_, hvr⟩
            rw [List.getElem?_take, if_pos hj, List.getElem?_drop, show off + d'.1 + j = off + j + d'.1 by omega]
            simpa using hv
      have hrun := run_loadCells_list (P := P) W ⟨c, off + d'.1, none⟩ vl hcell
      rw [hl] at hrun
      have hagg : (isAgg t).run P W = .ok true W := by
        unfold isAgg underlying
        simp only [Sem.run_bind, run_program, Result.andThen_ok, hu, Sem.run_pure]
        cases d <;> first | rfl | cases hd
      have hsz : (sizeOf t).run P W = .ok i.size W := by simp [sizeOf, typeInfo, hi]
      refine ⟨rfl, c, off + d'.1, .agg vl.toArray, rfl, by simp only [loadVar, Sem.run_bind, Sem.run_pure, Result.andThen_ok, hagg, if_true, hsz, hrun], ?_⟩
      show VR ρ (o.read std off i.size) _
      cases o with
      | dead => simp [AObj.alive] at hok
      | cells l e tl =>
        have hle : off + i.size ≤ l.length := hok.2
        unfold AObj.read VR
        refine ⟨_, rfl, VRs.of _ _ (by rw [hl]; simp; omega) fun j a hj => ?_⟩
        rw [List.getElem?_take] at hj
        split at hj
        · rename_i hjl
          rw [List.getElem?_drop] at hj
          exact hvs j a hj hjl
        · cases hj
      | ints k l e tl =>
        have hle : off + i.size ≤ l.length := hok.2
        unfold AObj.read VR
        congr 2
        apply List.ext_getElem?
        intro j
        rw [List.getElem?_map]
        show _ = Option.map (Value.int k) (((l.drop off).take i.size)[j]?)
        rw [List.getElem?_take (l := l.drop off)]
        by_cases hj : j < i.size
        · rw [if_pos hj, List.getElem?_drop]
          have hlt : off + j < l.length := by omega
          obtain ⟨v, hv, hvr⟩ := hvs j (.int k l[off + j]) (by simp [AObj.at, hlt]) hj
          unfold VR at hvr
          rw [hv, hvr]; simp [hlt]
        · rw [if_neg hj, List.getElem?_eq_none (by rw [hl]; omega)]; rfl
  all_goals cases hok
theorem sem_loadN (hr : HR ρ σ W) {t : TypeId} {d : TypeDesc} {i : TypeInfo} (hu : P.underlying t = some d) (hd : isAggD d = true) (hi : P.info? t = some i) {x : Value} {ax : AV} (hx : VR ρ ax x) :
    Runs P (do pure (.value (← Instr.loadAt t x))) W ρ σ (oLoadN std i.size ax σ) := by
  intro hok
  obtain ⟨h1, c, o, v, rfl, hrun, hv⟩ := loadN_run (P := P) hr hu hd hi hx hok
  rw [h1]
  exact ⟨.value v, W, ρ, by simp only [Instr.loadAt, Instr.sureAddr, Sem.run_bind, Sem.run_pure, Result.andThen_ok, hrun], hr, Stp.refl (Nat.le_refl _), .inl ⟨v, rfl, hv⟩⟩
theorem sem_store (hr : HR ρ σ W) {t : TypeId} {i : TypeInfo} (hi : P.info? t = some i) {p x : Value} {ap ax : AV} (hp : VR ρ ap p) (hx : VR ρ ax x) :
    Runs P (do Instr.storeAt t p x; pure .skip) W ρ σ (oStore std i.size ap ax σ) := by
  unfold oStore
  cases ap
  case ptr b off =>
    unfold VR at hp
    obtain ⟨c, d', hb, rfl⟩ := hp
    dsimp only
    cases ho : σ.get b with
    | none => exact Runs.bad
    | some o =>
      intro hok
      have hok : (o.writeOk std off ax && Nat.beq (ax.size std) i.size) = true := hok
      rw [Bool.and_eq_true, Nat.beq_eq, AV.size_eq] at hok
      obtain ⟨W', hrun, h1, h2⟩ := hr.store P hb ho hok.1 hx
      refine ⟨.skip, W', ρ, ?_, h1, h2, .inr ⟨rfl, ?_⟩⟩
      · have hsz : (sizeOf t).run P W = .ok i.size W := by simp [sizeOf, typeInfo, hi]
        have hvs := (hx.cells (AObj.write_spec hok.1).2.2.2.1).length
        have hne : ¬ (x.cells.size ≠ i.size) := by
          have : x.cells.toList.length = x.cells.size := rfl
          omega
        simp only [Instr.storeAt, Instr.sureAddr, storeVar, Sem.run_bind, Sem.run_pure, Result.andThen_ok, hsz, if_neg hne, hrun]
      · show VR ρ (.tup []) undef
        unfold VR; exact ⟨[], rfl, rfl⟩
  all_goals exact Runs.bad
theorem sem_new (hr : HR ρ σ W) {e : TypeId} {v : Value} {l : List AV} (h : VRs ρ l v.cells.toList) :
    Runs P (do pure (.value (.pointer (some (← newVar e v))))) W ρ σ (Nat.blt σ.next 1000000, .ptr σ.next 0, σ.new (AObj.of l e .exact)) := fun hok => by
  obtain ⟨ρ', h1, _, h3, h4⟩ := hr.new (o := AObj.of l e .exact) (x := .cells v.cells e) hok (by simpa using OR.of (e := e) h)
  exact ⟨_, _, ρ', rfl, h3, h4, .inl ⟨_, rfl, by unfold VR; exact ⟨_, _, h1, rfl⟩⟩⟩
end
end Go.Proofs.YtjkicmlelilcaaaDoor
namespace Go.Proofs.YtjkicmlelilcaaaDoor
open Go
def comp1 (P : Program) (rf : Operand → Ref) : Op → Option AOp
  | .move x => some (.mov (rf x))
  | .assign x => some (.mov (rf x))
  | .pick c a b => some (.pick (rf c) (rf a) (rf b))
  | .binOp op _ x y _ => some (.bin op (rf x) (rf y))
  | .unOp op _ x => some (.un op (rf x))
  | .convert s d x => match P.underlying s with
    | some (.int _) => match P.underlying d with
      | some (.int k) => some (.conv k (rf x))
      | _ => none
    | _ => none
  | .alloc e => match P.info? e with
    | some i => match i.zero with
      | some z => some (.alloc e (z.cells.toList.map ofCell))
      | none => none
    | none => none
  | .box e x => some (.box e (rf x))
  | .load t x => match P.underlying t with
    | some d => match isAggD d with
      | true => match P.info? t with
        | some i => some (.loadN i.size (rf x))
        | none => none
      | false => some (.load1 (rf x))
    | none => none
  | .store t p x => match P.info? t with
    | some i => some (.store i.size (rf p) (rf x))
    | none => none
  | .fieldAddr s x f => match P.underlying s with
    | some (.struct fs) => match fs[f]? with
      | some fd => match P.info? fd.type with
        | some i => match i.size with
          | 0 => none
          | _ + 1 => some (.fieldAddr fd.offset (rf x))
        | none => none
      | none => none
    | _ => none
  | .indexAddr t x ix => match P.underlying t with
    | some (.array len e) => match P.info? e with
      | some i => some (.idxArr len i.size (rf x) (rf ix))
      | none => none
    | some (.slice e) => match P.info? e with
      | some i => some (.idxSl i.size (rf x) (rf ix))
      | none => none
    | _ => none
  | .slice t x lo hi mx => match P.underlying t with
    | some .string => match mx with
      | none => some (.slStr (rf x) (lo.map rf) (hi.map rf))
      | some _ => none
    | some (.slice e) => match P.info? e with
      | some i => some (.slSl i.size (rf x) (lo.map rf) (hi.map rf) (mx.map rf))
      | none => none
    | some (.array n e) => match P.info? e with
      | some i => some (.slArr n i.size (rf x) (lo.map rf) (hi.map rf) (mx.map rf))
      | none => none
    | _ => none
  | .extract x k => some (.extract (rf x) k)
  | .makeInterface t x => match P.underlying t with
    | some (.interface _) => none
    | some _ => some (.mkIface t (rf x))
    | none => none
  | .nilCheck x => some (.nilCheck (rf x))
  | .buildSlice t len parts => match P.underlying t with
    | some (.slice e) => match P.info? e with
      | some i => match i.zero with
        | some _ => match parts.toList.map (·.1) == List.range len && Nat.ble (len * i.size) 16777216 with
          | true => some (.ext (.bslice e i.size len) (parts.toList.map fun p => rf p.2))
          | false => none
        | none => none
      | none => none
    | _ => none
  | .call c => match c.callee with
    | .builtin .append => match c.args.toList with
      | [s, x] => match c.argTypes.toList with
        | [t, tx] => match P.underlying t with
          | some (.slice e) => match P.info? e with
            | some i => match i.zero with
              | some z => match Nat.beq z.cells.size i.size && Nat.blt 0 i.size && Nat.ble i.bytes 128 with
                | true => match P.underlying tx with
                  | some .string => some (.ext (.append e true i.size) [rf s, rf x])
                  | some (.slice _) => some (.ext (.append e false i.size) [rf s, rf x])
                  | _ => none
                | false => none
              | none => none
            | none => none
          | _ => none
        | _ => none
      | _ => none
    | .builtin .len => match c.argTypes[0]? with
      | some t => match P.underlying t with
        | some .string => match c.args[0]? with
          | some x => some (.lenStr (rf x))
          | none => none
        | some (.slice _) => match c.args[0]? with
          | some x => some (.lenSl (rf x))
          | none => none
        | _ => none
      | none => none
    | _ => none
  | _ => none
section
variable {P : Program} {W : World} {ρ : Ren} {σ : AH}
theorem bnd_run {x : Option AV} {v : Option Value} (h : match x, v with | none, none => True | some a, some u => VR ρ a u | _, _ => False) (dflt top : Nat) (code : BoundsCode) (hok : (bnd std x dflt top).1 = true) :
    (match v with | some u => Instr.sliceBound u top code | none => pure dflt : Sem Nat).run P W = .ok (bnd std x dflt top).2 W ∧ (x.isSome = true → (bnd std x dflt top).2 ≤ top) := by
  cases x with
  | none =>
    cases v with
    | none => exact ⟨rfl, fun h => by cases h⟩
    | some u => exact h.elim
  | some a =>
    cases v with
    | none => exact h.elim
    | some u =>
      cases a <;> simp only [bnd, std, Bool.false_eq_true] at hok
      case int k n =>
        simp only [VR] at h
        subst h
        rw [Bool.and_eq_true, Nat.ble_eq] at hok
        have h1 : 0 ≤ n := of_decide_eq_true hok.1
        refine ⟨?_, fun _ => hok.2⟩
        simp only [Instr.sliceBound, asIntOf, Sem.run_bind, Sem.run_pure, Result.andThen_ok, bnd]
        rw [if_pos ⟨h1, by omega⟩]; rfl
theorem bnd_none (d t : Nat) : bnd std none d t = (true, d) := rfl
theorem bounds_run {lo hi mx : Option AV} {vl vh vm : Option Value} (isS : Bool) (len cap : Nat)
    (hl : match lo, vl with | none, none => True | some a, some u => VR ρ a u | _, _ => False)
    (hh : match hi, vh with | none, none => True | some a, some u => VR ρ a u | _, _ => False)
    (hm : match mx, vm with | none, none => True | some a, some u => VR ρ a u | _, _ => False)
    (hmx : (hi.isSome || mx.isNone) = true)
    (okm : (bnd std mx cap cap).1 = true) (okh : (bnd std hi len (bnd std mx cap cap).2).1 = true) (okl : (bnd std lo 0 (bnd std hi len (bnd std mx cap cap).2).2).1 = true) :
    (Instr.sliceBounds isS len cap vl vh vm).run P W = .ok ((bnd std lo 0 (bnd std hi len (bnd std mx cap cap).2).2).2, (bnd std hi len (bnd std mx cap cap).2).2, (bnd std mx cap cap).2) W := by
  unfold Instr.sliceBounds
  have h1 := fun code => (bnd_run (P := P) (W := W) hm cap cap code okm).1
  have h2 := fun code => (bnd_run (P := P) (W := W) hh len (bnd std mx cap cap).2 code okh).1
  have h3 := fun code => (bnd_run (P := P) (W := W) hl 0 (bnd std hi len (bnd std mx cap cap).2).2 code okl).1
  have e0 : (bnd std none cap cap).2 = cap := rfl
  cases mx <;> cases vm <;> first | exact hm.elim | skip
  · cases hi <;> cases vh <;> first | exact hh.elim | skip
    all_goals
      cases lo <;> cases vl <;> first | exact hl.elim | skip
      all_goals
        simp only [bnd_none] at h1 h2 h3 ⊢
        simp [h2, h3]
  · cases hi <;> cases vh <;> first | exact hh.elim | (simp at hmx; done) | skip
    all_goals
      cases lo <;> cases vl <;> first | exact hl.elim | skip
      all_goals
        simp only [bnd_none] at h1 h2 h3 ⊢
        simp [h1, h2, h3]
theorem map_fit {ev : Ref → AV} {rf : Operand → Ref} {a : Act} (hev : ∀ x, VR ρ (ev (rf x)) (a.eval x)) (x : Option Operand) :
    match (x.map rf).map ev, x.map a.eval with | none, none => True | some a, some u => VR ρ a u | _, _ => False := by
  cases x with
  | none => trivial
  | some x => exact hev x
end
end Go.Proofs.YtjkicmlelilcaaaDoor
namespace Go.Proofs.YtjkicmlelilcaaaDoor
open Go
section
variable {P : Program} {W : World} {ρ : Ren} {σ : AH}
theorem sem_bin (hr : HR ρ σ W) {op : BinOp} {t : TypeId} {x y : Operand} {vx vy : Value} {ax ay : AV} (hx : VR ρ ax vx) (hy : VR ρ ay vy) :
    Runs P (do let v ← (do eqGuard op t x y vx vy; binOp op t vx vy); pure (.value v)) W ρ σ (oBin std op ax ay σ) := by
  unfold oBin
  cases ax
  case int k a =>
    cases ay
    case int k' b =>
      simp only [VR] at hx hy
      subst hx; subst hy
      intro hok
      have hok : ((binI std op k a b).1 && (isShift op || decide (k = k'))) = true := hok
      rw [Bool.and_eq_true] at hok
      obtain ⟨v, h1, h2⟩ := binI_run (P := P) (W := W) (t := t) (x := x) (y := y) hok.2 hok.1 ρ
      exact ⟨.value v, W, ρ, by rw [Sem.run_bind, h1]; rfl, hr, Stp.refl (Nat.le_refl _), .inl ⟨v, rfl, h2⟩⟩
    all_goals exact Runs.bad
  case str a =>
    cases ay
    case str b =>
      simp only [VR] at hx hy
      subst hx; subst hy
      intro hok
      obtain ⟨v, h1, h2⟩ := binS_run (P := P) (W := W) (t := t) (x := x) (y := y) hok ρ
      exact ⟨.value v, W, ρ, by rw [Sem.run_bind, h1]; rfl, hr, Stp.refl (Nat.le_refl _), .inl ⟨v, rfl, h2⟩⟩
    all_goals exact Runs.bad
  all_goals exact Runs.bad
theorem sem_un (hr : HR ρ σ W) {op : UnOp} {vx : Value} {ax : AV} (hx : VR ρ ax vx) :
    Runs P (do let v ← Op.unary op vx; pure (.value v)) W ρ σ ((unI std op ax).1, (unI std op ax).2, σ) := by
  intro h0
  have hok : (unI std op ax).1 = true := h0
  clear h0
  have key : ∃ v, (Op.unary op vx).run P W = .ok v W ∧ VR ρ (unI std op ax).2 v := by
    cases op <;> cases ax <;> simp only [unI, Bool.false_eq_true] at hok
    case neg.int k n =>
      simp only [VR] at hx; subst hx
      exact ⟨.int k (k.wrap (0 - n)), by simp [Op.unary, Op.intArith], by simp only [unI, std, VR, wr_eq]⟩
    case xor.int k n =>
      simp only [VR] at hx; subst hx
      exact ⟨_, rfl, by simp only [unI, binI, std, stdBits, VR, wr_eq]⟩
    case not.bool b =>
      simp only [VR] at hx; subst hx
      exact ⟨.bool (!b), by simp [Op.unary], by simp only [unI, VR]⟩
  obtain ⟨v, h1, h2⟩ := key
  exact ⟨.value v, W, ρ, by rw [Sem.run_bind, h1]; rfl, hr, Stp.refl (Nat.le_refl _), .inl ⟨v, rfl, h2⟩⟩
theorem vr_sl {b o n k z : Nat} {e : Bool} {v : Value} (h : VR ρ (.sl b o n k e z) v) : (∃ c d o' k', ρ b = some (c, d) ∧ v = .slice (some ⟨c, o', none⟩) n k' ∧ (k ≠ 0 → o' = o + d.1) ∧ n ≤ k ∧ k ≤ k' ∧ (e = true → k' = k) ∧ o' + k' * z ≤ d.2) ∨ (n = 0 ∧ k = 0 ∧ e = false ∧ ∃ p, v = .slice p 0 0) := by unfold VR at h; exact h
theorem vr_ptr {b o : Nat} {v : Value} (h : VR ρ (.ptr b o) v) : ∃ c d, ρ b = some (c, d) ∧ v = .pointer (some ⟨c, o + d.1, none⟩) := by unfold VR at h; exact h
theorem ba_extract (l : List UInt8) (i j : Nat) : (⟨l.toArray⟩ : ByteArray).extract i j = ⟨((l.drop i).take (j - i)).toArray⟩ := by
  have h : ((⟨l.toArray⟩ : ByteArray).extract i j).data = (l.toArray).extract i j := ByteArray.data_extract ..
  have : (⟨l.toArray⟩ : ByteArray).extract i j = ⟨((⟨l.toArray⟩ : ByteArray).extract i j).data⟩ := rfl
  rw [this, h]; simp
theorem bnd_up {a : AV} {d d' t t' : Nat} (h : (bnd std (some a) d t).1 = true) (ht : t ≤ t') : (bnd std (some a) d' t').1 = true ∧ (bnd std (some a) d' t').2 = (bnd std (some a) d t).2 := by
  cases a <;> simp only [bnd, Bool.false_eq_true] at h ⊢
  refine ⟨?_, trivial⟩
  simp only [std, Bool.and_eq_true, Nat.ble_eq] at h ⊢
  exact ⟨h.1, by omega⟩
theorem bnd_le {a : AV} {d t : Nat} (h : (bnd std (some a) d t).1 = true) : (bnd std (some a) d t).2 ≤ t := by
  cases a <;> simp only [bnd, Bool.false_eq_true] at h ⊢
  simp only [std, Bool.and_eq_true, Nat.ble_eq] at h ⊢
  exact h.2
theorem sem_slSl (hr : HR ρ σ W) {t e : TypeId} {i : TypeInfo} (hu : P.underlying t = some (.slice e)) (hi : P.info? e = some i) {vx : Value} {ax : AV} (hx : VR ρ ax vx) {lo hi' mx : Option AV} {vl vh vm : Option Value}
    (hl : match lo, vl with | none, none => True | some a, some u => VR ρ a u | _, _ => False)
    (hh : match hi', vh with | none, none => True | some a, some u => VR ρ a u | _, _ => False)
    (hm : match mx, vm with | none, none => True | some a, some u => VR ρ a u | _, _ => False) :
    Runs P (do let v ← Instr.sliceAt t vx vl vh vm; pure (.value v)) W ρ σ (oSlSl std i.size ax lo hi' mx σ) := by
  unfold oSlSl
  have hsz : ∀ W : World, (sizeOf e).run P W = .ok i.size W := fun W => by simp [sizeOf, typeInfo, hi]
  have hat : Instr.sliceAt t vx vl vh vm = (do match ← underlying t with
    | .array n elem =>
      let a ← Instr.sureAddr vx
      let (l, h, m) ← Instr.sliceBounds false n n vl vh vm
      let size ← sizeOf elem
      pure (.slice (some (if m = l then a else a.add (l * size))) (h - l) (m - l))
    | _ => Instr.slice t vx vl vh vm) := rfl
  have z : ∀ x : Option AV, (bnd std x 0 0).1 = true → (bnd std x 0 0).2 = 0 := fun x hx => by
    cases x with
    | none => rfl
    | some a => have := bnd_le hx; omega
  cases ax
  case sl b o n c ex sz =>
    intro hok
    have hok : ((bnd std mx c c).1 && (bnd std hi' n (bnd std mx c c).2).1 && (bnd std lo 0 (bnd std hi' n (bnd std mx c c).2).2).1 && (hi'.isSome || mx.isNone) && Nat.beq sz i.size) = true := hok
    rw [Bool.and_eq_true, Bool.and_eq_true, Bool.and_eq_true, Bool.and_eq_true, Nat.beq_eq] at hok
    obtain ⟨⟨⟨⟨o1, o2⟩, o3⟩, o4⟩, rfl⟩ := hok
    rcases vr_sl hx with ⟨cb, d, o', k', hb, rfl, ho, hnk, hk, hex, hlim⟩ | ⟨rfl, rfl, rfl, pp, rfl⟩
    rotate_left
    · have hrun := bounds_run (P := P) (W := W) (ρ := ρ) true 0 0 hl hh hm o4 o1 (by rw [z _ o1] at o2 ⊢; exact o2) (by rw [z _ o1] at o2 o3 ⊢; rw [z _ o2] at o3 ⊢; exact o3)
      rw [z _ o1] at o2 o3
      rw [z _ o2] at o3
      rw [z _ o1, z _ o2, z _ o3] at hrun
      obtain ⟨qq, hqq⟩ : ∃ qq : Option Addr, qq = pp := ⟨_, rfl⟩
      refine ⟨.value (.slice qq 0 0), W, ρ, ?_, hr, Stp.refl (Nat.le_refl _), .inl ⟨_, rfl, ?_⟩⟩
      · subst hqq
        rw [hat]
        simp only [Sem.run_bind, run_underlying hu, Result.andThen_ok, Instr.slice, hrun, hsz, if_true]
        cases qq <;> rfl
      · show VR ρ (.sl b (o + (bnd std lo 0 (bnd std hi' 0 (bnd std mx 0 0).2).2).2 * i.size) ((bnd std hi' 0 (bnd std mx 0 0).2).2 - (bnd std lo 0 (bnd std hi' 0 (bnd std mx 0 0).2).2).2) ((bnd std mx 0 0).2 - (bnd std lo 0 (bnd std hi' 0 (bnd std mx 0 0).2).2).2) false i.size) _
        rw [z _ o1, z _ o2, z _ o3]
        unfold VR; exact .inr ⟨rfl, rfl, rfl, qq, rfl⟩
    -- the greater capacity that the slice may have
    obtain ⟨M, hM, oM, hMc, hMx, hMk⟩ : ∃ M, (bnd std mx k' k').2 = M ∧ (bnd std mx k' k').1 = true ∧ (bnd std mx c c).2 ≤ M ∧ (ex = true → M = (bnd std mx c c).2) ∧ M ≤ k' := by
      cases mx with
      | none => exact ⟨k', rfl, rfl, hk, fun h => hex h, Nat.le_refl _⟩
      | some a =>
        have h := bnd_up (d' := k') o1 hk
        exact ⟨_, rfl, h.1, Nat.le_of_eq h.2.symm, fun _ => h.2, bnd_le h.1⟩
    have oh : (bnd std hi' n M).1 = true ∧ (bnd std hi' n M).2 = (bnd std hi' n (bnd std mx c c).2).2 := by
      cases hi' with
      | none => exact ⟨rfl, rfl⟩
      | some a => exact bnd_up o2 hMc
    have hrun := bounds_run (P := P) (W := W) (ρ := ρ) true n k' hl hh hm o4 oM (by rw [hM]; exact oh.1) (by rw [hM, oh.2]; exact o3)
    rw [hM, oh.2] at hrun
    obtain ⟨H, hH⟩ : ∃ H, (bnd std hi' n (bnd std mx c c).2).2 = H := ⟨_, rfl⟩
    obtain ⟨L, hL⟩ : ∃ L, (bnd std lo 0 H).2 = L := ⟨_, rfl⟩
    obtain ⟨C, hC⟩ : ∃ C, (bnd std mx c c).2 = C := ⟨_, rfl⟩
    have hHC : H ≤ C ∨ (hi' = none ∧ mx = none) := by
      rw [← hH, ← hC]
      cases hi' with
      | none =>
        cases mx with
        | none => exact .inr ⟨rfl, rfl⟩
        | some a => simp at o4
      | some a => exact .inl (bnd_le o2)
    have hLH : L ≤ H := by
      rw [← hL]
      cases lo with
      | none => exact Nat.zero_le _
      | some a =>
        rw [hH] at o3
        exact bnd_le o3
    have hHC' : H ≤ C := by
      rcases hHC with h | ⟨rfl, rfl⟩
      · exact h
      · rw [← hH, ← hC]; exact hnk
    rw [hC] at hMc hMx
    refine ⟨.value (.slice (some (if M = L then ⟨cb, o', none⟩ else (⟨cb, o', none⟩ : Addr).add (L * i.size))) (H - L) (M - L)), W, ρ, ?_, hr, Stp.refl (Nat.le_refl _), .inl ⟨_, rfl, ?_⟩⟩
    · rw [hat]
      simp only [Sem.run_bind, run_underlying hu, Result.andThen_ok, Instr.slice, hrun, hsz, hH, hL]
      by_cases hML : M = L
      · simp [hML]
      · simp [hML]
    · show VR ρ (.sl b (o + (bnd std lo 0 (bnd std hi' n (bnd std mx c c).2).2).2 * i.size) ((bnd std hi' n (bnd std mx c c).2).2 - (bnd std lo 0 (bnd std hi' n (bnd std mx c c).2).2).2) ((bnd std mx c c).2 - (bnd std lo 0 (bnd std hi' n (bnd std mx c c).2).2).2) ex i.size) _
      rw [hC, show (bnd std hi' n C).2 = H by rw [← hC]; exact hH, hL]
      unfold VR
      by_cases hML : M = L
      · rw [if_pos hML]
        refine .inl ⟨cb, d, o', M - L, hb, rfl, fun h => absurd h (by omega), by omega, by omega, fun h => by rw [hMx h], ?_⟩
        rw [hML, Nat.sub_self, Nat.zero_mul]; omega
      · rw [if_neg hML, addr_none]
        have hlim' : o' + L * i.size + (M - L) * i.size ≤ d.2 := by
          have e1 : L * i.size + (M - L) * i.size = M * i.size := by rw [← Nat.add_mul, Nat.add_sub_cancel' (by omega)]
          have e2 : M * i.size ≤ k' * i.size := Nat.mul_le_mul_right _ hMk
          omega
        refine .inl ⟨cb, d, _, M - L, hb, rfl, fun h => ?_, by omega, by omega, fun h => by rw [hMx h], hlim'⟩
        have hc0 : c ≠ 0 := by
          intro h0
          subst h0
          have : C = 0 := by
            rw [← hC]
            cases mx with
            | none => rfl
            | some a => have := bnd_le o1; omega
          omega
        rw [ho hc0]; omega
  case nilsl =>
    unfold VR at hx
    subst hx
    intro hok
    have hok : ((bnd std mx 0 0).1 && (bnd std hi' 0 0).1 && (bnd std lo 0 0).1 && (hi'.isSome || mx.isNone)) = true := hok
    rw [Bool.and_eq_true, Bool.and_eq_true, Bool.and_eq_true] at hok
    obtain ⟨⟨⟨o1, o2⟩, o3⟩, o4⟩ := hok
    have hrun := bounds_run (P := P) (W := W) (ρ := ρ) true 0 0 hl hh hm o4 o1 (by rw [z _ o1]; exact o2) (by rw [z _ o1, z _ o2]; exact o3)
    rw [z _ o1, z _ o2, z _ o3] at hrun
    refine ⟨.value (.slice none 0 0), W, ρ, ?_, hr, Stp.refl (Nat.le_refl _), .inl ⟨_, rfl, by show VR ρ .nilsl _; unfold VR; rfl⟩⟩
    rw [hat]
    simp only [Sem.run_bind, run_underlying hu, Result.andThen_ok, Instr.slice, hrun, hsz]
    rfl
  all_goals exact Runs.bad
theorem sem_slArr (hr : HR ρ σ W) {t e : TypeId} {n : Nat} {i : TypeInfo} (hu : P.underlying t = some (.array n e)) (hi : P.info? e = some i) {vx : Value} {ax : AV} (hx : VR ρ ax vx) {lo hi' mx : Option AV} {vl vh vm : Option Value}
    (hl : match lo, vl with | none, none => True | some a, some u => VR ρ a u | _, _ => False)
    (hh : match hi', vh with | none, none => True | some a, some u => VR ρ a u | _, _ => False)
    (hm : match mx, vm with | none, none => True | some a, some u => VR ρ a u | _, _ => False) :
    Runs P (do let v ← Instr.sliceAt t vx vl vh vm; pure (.value v)) W ρ σ (oSlArr std n i.size ax lo hi' mx σ) := by
  unfold oSlArr
  have hsz : ∀ W : World, (sizeOf e).run P W = .ok i.size W := fun W => by simp [sizeOf, typeInfo, hi]
  cases ax
  case ptr b o =>
    obtain ⟨cb, d, hb, rfl⟩ := vr_ptr hx
    dsimp only
    cases hob : σ.get b with
    | none => exact Runs.bad
    | some ob =>
    intro hok
    have hok : ((bnd std mx n n).1 && (bnd std hi' n (bnd std mx n n).2).1 && (bnd std lo 0 (bnd std hi' n (bnd std mx n n).2).2).1 && (hi'.isSome || mx.isNone) && ob.readOk std o (n * i.size)) = true := hok
    rw [Bool.and_eq_true, Bool.and_eq_true, Bool.and_eq_true, Bool.and_eq_true] at hok
    obtain ⟨⟨⟨⟨o1, o2⟩, o3⟩, o4⟩, o5⟩ := hok
    have hlim : o + d.1 + n * i.size ≤ d.2 := by
      have hok : ob.alive = true ∧ o + n * i.size ≤ ob.len := by
        cases ob with
        | dead => cases o5
        | cells l e t => have hok : Nat.ble (o + n * i.size) l.length = true := o5; rw [Nat.ble_eq] at hok; exact ⟨rfl, hok⟩
        | ints k l e t => have hok : Nat.ble (o + n * i.size) l.length = true := o5; rw [Nat.ble_eq] at hok; exact ⟨rfl, hok⟩
      obtain ⟨_, _, o', ho', hO⟩ := hr.dom b cb d hb
      rw [hob] at ho'; cases ho'
      have h1 := (hO hok.1).1
      omega
    have hCn : (bnd std mx n n).2 ≤ n := by
      cases mx with
      | none => exact Nat.le_refl _
      | some a => exact bnd_le o1
    have hrun := bounds_run (P := P) (W := W) (ρ := ρ) false n n hl hh hm o4 o1 o2 o3
    obtain ⟨C, hC⟩ : ∃ C, (bnd std mx n n).2 = C := ⟨_, rfl⟩
    rw [hC] at hrun o2 o3 hCn
    obtain ⟨H, hH⟩ : ∃ H, (bnd std hi' n C).2 = H := ⟨_, rfl⟩
    rw [hH] at hrun o3
    obtain ⟨L, hL⟩ : ∃ L, (bnd std lo 0 H).2 = L := ⟨_, rfl⟩
    rw [hL] at hrun
    have hHC : H ≤ C := by
      rw [← hH]
      cases hi' with
      | none =>
        cases mx with
        | none => rw [← hC]; exact Nat.le_refl _
        | some a => simp at o4
      | some a => exact bnd_le o2
    have hLH : L ≤ H := by
      rw [← hL]
      cases lo with
      | none => exact Nat.zero_le _
      | some a => exact bnd_le o3
    refine ⟨.value (.slice (some (if C = L then ⟨cb, o + d.1, none⟩ else (⟨cb, o + d.1, none⟩ : Addr).add (L * i.size))) (H - L) (C - L)), W, ρ, ?_, hr, Stp.refl (Nat.le_refl _), .inl ⟨_, rfl, ?_⟩⟩
    · simp only [Instr.sliceAt, Instr.sureAddr, Sem.run_bind, run_underlying hu, Result.andThen_ok, Sem.run_pure, hrun, hsz]
    · show VR ρ (.sl b (o + (bnd std lo 0 (bnd std hi' n (bnd std mx n n).2).2).2 * i.size) ((bnd std hi' n (bnd std mx n n).2).2 - (bnd std lo 0 (bnd std hi' n (bnd std mx n n).2).2).2) ((bnd std mx n n).2 - (bnd std lo 0 (bnd std hi' n (bnd std mx n n).2).2).2) true i.size) _
      rw [hC, hH, hL]
      unfold VR
      by_cases hML : C = L
      · rw [if_pos hML]
        refine .inl ⟨cb, d, o + d.1, C - L, hb, rfl, fun h => absurd h (by omega), by omega, by omega, fun _ => rfl, ?_⟩
        rw [hML, Nat.sub_self, Nat.zero_mul]; omega
      · rw [if_neg hML, addr_none]
        refine .inl ⟨cb, d, _, C - L, hb, rfl, fun h => by omega, by omega, by omega, fun _ => rfl, ?_⟩
        have e1 : L * i.size + (C - L) * i.size = C * i.size := by rw [← Nat.add_mul, Nat.add_sub_cancel' (by omega)]
        have e2 : C * i.size ≤ n * i.size := Nat.mul_le_mul_right _ hCn
        omega
  all_goals exact Runs.bad
theorem sem_slStr (hr : HR ρ σ W) {t : TypeId} (hu : P.underlying t = some .string) {vx : Value} {ax : AV} (hx : VR ρ ax vx) {lo hi' : Option AV} {vl vh : Option Value}
    (hl : match lo, vl with | none, none => True | some a, some u => VR ρ a u | _, _ => False)
    (hh : match hi', vh with | none, none => True | some a, some u => VR ρ a u | _, _ => False) :
    Runs P (do let v ← Instr.sliceAt t vx vl vh none; pure (.value v)) W ρ σ (oSlStr std ax lo hi' σ) := by
  unfold oSlStr
  cases ax
  case str l =>
    simp only [VR] at hx
    subst hx
    intro hok
    have hok : ((bnd std hi' l.length l.length).1 && (bnd std lo 0 (bnd std hi' l.length l.length).2).1) = true := hok
    rw [Bool.and_eq_true] at hok
    have hrun := bounds_run (P := P) (W := W) (ρ := ρ) (mx := none) (vm := none) false l.length l.length hl hh trivial (by simp) rfl hok.1 hok.2
    refine ⟨.value (.string ⟨((l.drop (bnd std lo 0 (bnd std hi' l.length l.length).2).2).take ((bnd std hi' l.length l.length).2 - (bnd std lo 0 (bnd std hi' l.length l.length).2).2)).toArray⟩), W, ρ, ?_, hr, Stp.refl (Nat.le_refl _), .inl ⟨_, rfl, by show VR ρ (.str _) _; unfold VR; rfl⟩⟩
    simp only [Instr.sliceAt, Instr.slice, Sem.run_bind, run_underlying hu, Result.andThen_ok, Option.isSome_none, Bool.false_eq_true, if_false, ba_size, hrun, bnd_none, ba_extract, Sem.run_pure]
  all_goals exact Runs.bad
theorem sem_idxArr (hr : HR ρ σ W) {t e : TypeId} {n : Nat} {i : TypeInfo} (hu : P.underlying t = some (.array n e)) (hi : P.info? e = some i) {vx vi : Value} {ax ai : AV} (hx : VR ρ ax vx) (hy : VR ρ ai vi) :
    Runs P (do let v ← Instr.indexAt t vx vi; pure (.value v)) W ρ σ (oIdxArr std n i.size ax ai σ) := by
  unfold oIdxArr
  have hsz : ∀ W : World, (sizeOf e).run P W = .ok i.size W := fun W => by simp [sizeOf, typeInfo, hi]
  cases ax
  case ptr b o =>
    obtain ⟨cb, d, hb, rfl⟩ := vr_ptr hx
    cases ai
    case int k j =>
      simp only [VR] at hy
      subst hy
      intro hok
      have hok : (decide (0 ≤ j) && Nat.blt j.toNat n) = true := hok
      rw [Bool.and_eq_true, decide_eq_true_eq, Nat.blt_eq] at hok
      have hok : 0 ≤ j ∧ j < (n : Int) := ⟨hok.1, by omega⟩
      refine ⟨.value (.pointer (some ⟨cb, o + d.1 + j.toNat * i.size, none⟩)), W, ρ, ?_, hr, Stp.refl (Nat.le_refl _), .inl ⟨_, rfl, ?_⟩⟩
      · simp only [Instr.indexAt, asIntOf, Instr.sureAddr, Sem.run_bind, run_underlying hu, Result.andThen_ok, Sem.run_pure]
        simp [hok, hsz, addr_none]
      · show VR ρ (.ptr b (o + j.toNat * i.size)) _
        unfold VR; exact ⟨cb, d, hb, by rw [Nat.add_right_comm]⟩
    all_goals exact Runs.bad
  all_goals exact Runs.bad
theorem sem_idxSl (hr : HR ρ σ W) {t e : TypeId} {i : TypeInfo} (hu : P.underlying t = some (.slice e)) (hi : P.info? e = some i) {vx vi : Value} {ax ai : AV} (hx : VR ρ ax vx) (hy : VR ρ ai vi) :
    Runs P (do let v ← Instr.indexAt t vx vi; pure (.value v)) W ρ σ (oIdxSl std i.size ax ai σ) := by
  unfold oIdxSl
  have hsz : ∀ W : World, (sizeOf e).run P W = .ok i.size W := fun W => by simp [sizeOf, typeInfo, hi]
  cases ax
  case sl b o n c ex sz =>
    cases ai
    case int k j =>
      simp only [VR] at hy
      subst hy
      intro hok
      have hok : (decide (0 ≤ j) && Nat.blt j.toNat n) = true := hok
      rw [Bool.and_eq_true, decide_eq_true_eq, Nat.blt_eq] at hok
      have hok : 0 ≤ j ∧ j < (n : Int) := ⟨hok.1, by omega⟩
      rcases vr_sl hx with ⟨cb, d, o', k', hb, rfl, ho, hnk, _, _⟩ | ⟨rfl, _⟩
      rotate_left
      · omega
      refine ⟨.value (.pointer (some ⟨cb, o' + j.toNat * i.size, none⟩)), W, ρ, ?_, hr, Stp.refl (Nat.le_refl _), .inl ⟨_, rfl, ?_⟩⟩
      · simp only [Instr.indexAt, asIntOf, Sem.run_bind, run_underlying hu, Result.andThen_ok, Sem.run_pure]
        simp [hok, hsz, addr_none]
      · show VR ρ (.ptr b (o + j.toNat * i.size)) _
        unfold VR; exact ⟨cb, d, hb, by rw [ho (by omega), Nat.add_right_comm]⟩
    all_goals exact Runs.bad
  all_goals exact Runs.bad
end
end Go.Proofs.YtjkicmlelilcaaaDoor
namespace Go.Proofs.YtjkicmlelilcaaaDoor
open Go
section
variable {P : Program} {W : World} {ρ : Ren} {σ : AH}
theorem one_of (ρ : Ren) : ∀ {l : List AV} {vs : List Value}, VRs ρ l vs → l.all AV.one = true → ∀ u ∈ vs, u.oneCell' = true
  | [], _, e, _, u, hu => by rw [show _ = [] from e] at hu; cases hu
  | a :: l, _, ⟨v, m, e, hv, hm⟩, h, u, hu => by
    subst e
    rw [List.all_cons, Bool.and_eq_true] at h
    rcases List.mem_cons.1 hu with rfl | hu
    · exact hv.one h.1
    · exact one_of ρ hm h.2 u hu
theorem row_src (hr : HR ρ σ W) {str : Bool} {size : Nat} {v : AV} {x : Value} (hv : VR ρ v x) (hok : (rowA std str size σ v).1 = true) {tx : TypeId} (ht : (str = true ∧ P.underlying tx = some .string) ∨ (str = false ∧ ∃ e', P.underlying tx = some (.slice e'))) :
    ∃ cs, Src P size tx x (rowA std str size σ v).2.1 cs W ∧ VRs ρ (rowA std str size σ v).2.2.list cs ∧ (str = false → x = .slice none 0 0 ∧ (rowA std str size σ v).2.1 = 0 ∨ ∃ a c, x = .slice (some a) (rowA std str size σ v).2.1 c ∧ ∀ j u, cs[j]? = some u → W.cell? (a.add j) = some u) := by
  cases v
  case nilsl =>
    unfold VR at hv
    subst hv
    have hs : str = false := by
      have h : (!str) = true := hok
      cases str <;> simp at h ⊢
    subst hs
    obtain ⟨_, e', he⟩ := ht.resolve_left (fun h => by cases h.1)
    exact ⟨[], Src.ofNil W he 0, rfl, fun _ => .inl ⟨rfl, rfl⟩⟩
  case str l =>
    unfold VR at hv
    subst hv
    have h : (str && Nat.beq size 1) = true := hok
    rw [Bool.and_eq_true, Nat.beq_eq] at h
    obtain ⟨rfl, rfl⟩ := h
    obtain ⟨_, he⟩ := ht.resolve_right (fun h => by cases h.1)
    refine ⟨_, Src.ofString W he ⟨l.toArray⟩, ?_, fun h => by cases h⟩
    show VRs ρ ((l.map fun b => (b.toNat : Int)).map (AV.int .u8)) (byteCells ⟨l.toArray⟩)
    have : byteCells ⟨l.toArray⟩ = (l.map fun b => (b.toNat : Int)).map (Value.int .u8) := by simp [byteCells]
    rw [this]; exact VRs.ints .u8 _
  case sl b o n k e z =>
    simp only [rowA] at hok ⊢
    cases hob : σ.get b with
    | none => rw [hob] at hok; cases hok
    | some ob =>
      rw [hob] at hok
      have hsf : str = false := by
        cases ob <;> simp only [Bool.and_eq_true, Bool.not_eq_true'] at hok
        · exact hok.1
        · exact hok.1.1.1
        · exact hok.1.1
      subst hsf
      obtain ⟨_, e', he⟩ := ht.resolve_left (fun h => by cases h.1)
      rcases vr_sl hv with ⟨c, d, o', k', hb, rfl, ho, hnk, hkk, hex, hlim⟩ | ⟨rfl, rfl, rfl, pp, rfl⟩
      · -- an address
        have hzero : n = 0 → Src P size tx (.slice (some ⟨c, o', none⟩) 0 k') 0 [] W := fun _ =>
          Src.ofSlice W he ⟨c, o', none⟩ 0 k' [] (by simp) (fun j u hu => by simp at hu) (fun u hu => by cases hu)
        have hmain : ∀ (l : List AV), ob.alive = true → (∀ i, ob.at i = l[i]?) → o + n * size ≤ l.length → l.all AV.one = true → ∃ cs, Src P size tx (.slice (some ⟨c, o', none⟩) n k') n cs W ∧ VRs ρ ((l.drop o).take (n * size)) cs ∧ ∀ j u, cs[j]? = some u → W.cell? ((⟨c, o', none⟩ : Addr).add j) = some u := by
          intro l hal hat hle hone
          obtain ⟨_, hc, ob', hob', hO⟩ := hr.dom b c d hb
          rw [hob] at hob'; cases hob'
          by_cases hns : n * size = 0
          · refine ⟨[], Src.ofSlice W he ⟨c, o', none⟩ n k' [] (by rw [hns]; rfl) (fun j u hu => by simp at hu) (fun u hu => by cases hu), ?_, fun j u hu => by simp at hu⟩
            rw [hns]; exact rfl
          · have hn0 : n ≠ 0 := fun h => hns (by rw [h, Nat.zero_mul])
            obtain ⟨cs, e0, fr, hx, _, hlen, _, hats⟩ := (hO hal).2 (fun _ => by
              have e1 := hat 0
              rw [List.getElem?_eq_getElem (by omega)] at e1
              exact Nat.lt_of_le_of_lt (Nat.zero_le _) (AObj.at_lt e1))
            have hk0 : k ≠ 0 := by omega
            have ho := ho hk0
            subst ho
            have hlc : o + n * size + d.1 ≤ cs.size := by
              have : l.length = ob.len := by
                have h1 : ∀ i, i < ob.len ↔ i < l.length := fun i => by
                  constructor
                  · intro h
                    rcases Nat.lt_or_ge i l.length with h' | h'
                    · exact h'
                    · have e1 := hat i
                      rw [List.getElem?_eq_none h'] at e1
                      cases ob with
                      | dead => cases hal
                      | cells l2 e t => simp only [AObj.at, AObj.len] at e1 h; rw [List.getElem?_eq_getElem h] at e1; cases e1
                      | ints k2 l2 e t => simp only [AObj.at, AObj.len] at e1 h; rw [List.getElem?_eq_getElem h] at e1; cases e1
                  · intro h
                    have e1 := hat i
                    rw [List.getElem?_eq_getElem h] at e1
                    exact AObj.at_lt e1
                have h2 := h1 l.length
                have h3 := h1 ob.len
                omega
              omega
            have hvs : VRs ρ ((l.drop o).take (n * size)) ((cs.toList.drop (o + d.1)).take (n * size)) := by
              refine VRs.of _ _ (by simp; omega) fun i a hi => ?_
              rw [List.getElem?_take] at hi ⊢
              split at hi
              · rename_i hin
                rw [if_pos hin]
                rw [List.getElem?_drop] at hi ⊢
                obtain ⟨u, hu, hur⟩ := hats (o + i) a (by rw [hat]; exact hi)
                exact ⟨u, by rw [show o + d.1 + i = o + i + d.1 by omega]; simpa using hu, hur⟩
              · cases hi
            have hmem : ∀ j u, ((cs.toList.drop (o + d.1)).take (n * size))[j]? = some u → W.cell? ((⟨c, o + d.1, none⟩ : Addr).add j) = some u := fun j u hu => by
              rw [List.getElem?_take] at hu
              split at hu
              · rw [List.getElem?_drop] at hu
                rw [addr_none]
                simp only [World.cell?, hx]
                simpa using hu
              · cases hu
            refine ⟨_, Src.ofSlice W he ⟨c, o + d.1, none⟩ n k' _ (by simp; omega) hmem (one_of ρ hvs ?_), hvs, hmem⟩
            rw [List.all_eq_true] at hone ⊢
            exact fun a ha => hone a (List.mem_of_mem_drop (List.mem_of_mem_take ha))
        cases ob with
        | dead =>
          simp only [Bool.and_eq_true, Nat.beq_eq] at hok
          obtain ⟨_, rfl⟩ := hok
          exact ⟨[], hzero rfl, rfl, fun _ => .inr ⟨_, _, rfl, fun j u hu => by simp at hu⟩⟩
        | cells l e2 t =>
          simp only [Bool.and_eq_true, Nat.ble_eq] at hok
          obtain ⟨cs, h1, h2, h3⟩ := hmain l rfl (fun _ => rfl) hok.1.2 hok.2
          exact ⟨cs, h1, h2, fun _ => .inr ⟨_, _, rfl, h3⟩⟩
        | ints ik l e2 t =>
          simp only [std, Bool.and_eq_true, Nat.ble_eq] at hok
          obtain ⟨cs, h1, h2, h3⟩ := hmain (l.map (AV.int ik)) rfl (fun i => by simp [AObj.at]) (by simpa using hok.2) (by rw [List.all_eq_true]; intro a ha; obtain ⟨m, _, rfl⟩ := List.mem_map.1 ha; rfl)
          refine ⟨cs, h1, ?_, fun _ => .inr ⟨_, _, rfl, h3⟩⟩
          show VRs ρ (((l.drop o).take (n * size)).map (AV.int ik)) cs
          rw [List.map_take, List.map_drop]; exact h2
      · -- nothing
        have hsrc : Src P size tx (.slice pp 0 0) 0 [] W := by
          cases pp with
          | none => exact Src.ofNil W he 0
          | some a => exact Src.ofSlice W he a 0 0 [] (by simp) (fun j u hu => by simp at hu) (fun u hu => by cases hu)
        have hor : (.slice pp 0 0 : Value) = .slice none 0 0 ∧ (0 : Nat) = 0 ∨ ∃ a c, (.slice pp 0 0 : Value) = .slice (some a) 0 c ∧ ∀ (j : Nat) (u : Value), ([] : List Value)[j]? = some u → W.cell? (a.add j) = some u := by
          cases pp with
          | none => exact .inl ⟨rfl, rfl⟩
          | some a => exact .inr ⟨a, 0, rfl, fun j u hu => by simp at hu⟩
        cases ob with
        | dead => exact ⟨[], hsrc, rfl, fun _ => hor⟩
        | cells l e2 t =>
          refine ⟨[], hsrc, ?_, fun _ => hor⟩
          show VRs ρ ((l.drop o).take (0 * size)) []
          rw [Nat.zero_mul]; rfl
        | ints ik l e2 t =>
          refine ⟨[], hsrc, ?_, fun _ => hor⟩
          show VRs ρ (((l.drop o).take (0 * size)).map (AV.int ik)) []
          rw [Nat.zero_mul]; rfl
  all_goals cases hok
theorem catA_spec {e : TypeId} {r1 r2 : Row} (h : (catA std e r1 r2).1 = true) : (catA std e r1 r2).2.alive = true ∧ (catA std e r1 r2).2.len = (r1.list ++ r2.list).length ∧ (catA std e r1 r2).2.elem = e ∧ (catA std e r1 r2).2.tail = true ∧ ∀ i, (catA std e r1 r2).2.at i = (r1.list ++ r2.list)[i]? := by
  have hints : ∀ k (l : List Int), (AObj.ints k l e .more).alive = true ∧ (AObj.ints k l e .more).len = (l.map (AV.int k)).length ∧ (AObj.ints k l e .more).elem = e ∧ (AObj.ints k l e .more).tail = true ∧ ∀ i, (AObj.ints k l e .more).at i = (l.map (AV.int k))[i]? :=
    fun k l => ⟨rfl, by simp [AObj.len], rfl, rfl, fun i => by simp [AObj.at]⟩
  have hof : ∀ (m : List AV) k' m' e' t', AObj.of m e .more = .ints k' m' e' t' → m = m'.map (AV.int k') := fun m k' m' e' t' h => by
    have := (AObj.of_spec m e .more).2.2.2.2
    rw [h] at this
    apply List.ext_getElem?
    intro i
    rw [← this i]; simp [AObj.at]
  cases r1 with
  | ints k l =>
    cases r2 with
    | ints k' m =>
      have hk : k = k' := of_decide_eq_true h
      subst hk
      have := hints k (l ++ m)
      simpa [catA, Row.list, std] using this
    | cells m =>
      cases m with
      | nil => have := hints k l; simpa [catA, Row.list] using this
      | cons a m =>
        simp only [catA] at h ⊢
        split at h
        · rename_i k' m' e' t' hm
          have hk : k = k' := of_decide_eq_true h
          subst hk
          have e1 := hof _ _ _ _ _ hm
          have := hints k (l ++ m')
          rw [List.map_append, ← e1] at this
          exact this
        · cases h
  | cells l =>
    cases r2 with
    | ints k m =>
      cases l with
      | nil => have := hints k m; simpa [catA, Row.list] using this
      | cons a l =>
        simp only [catA] at h ⊢
        split at h
        · rename_i k' l' e' t' hm
          have hk : k = k' := of_decide_eq_true h
          subst hk
          have e1 := hof _ _ _ _ _ hm
          have := hints k (l' ++ m)
          rw [List.map_append, ← e1] at this
          exact this
        · cases h
    | cells m => exact AObj.of_spec (l ++ m) e .more
theorem HR.more {ρ : Ren} {σ σ' : AH} {W : World} (h : HR ρ σ W) (hs : σ'.next ≤ 1000000) (hn : ∀ b, σ'.next ≤ b → σ'.get b = none) (hle : σ.next ≤ σ'.next) (hg : ∀ b, b < σ.next → σ'.get b = σ.get b) : HR ρ σ' W :=
  ⟨hs, hn, fun b c d hb => by
    obtain ⟨h1, h2, h3⟩ := h.dom b c d hb
    refine ⟨by omega, h2, ?_⟩
    rw [hg b h1]; exact h3, fun b b' c d d' h1 h2 hne => by
    exact (h.inj b b' c d d' h1 h2 hne).congr (hg b (h.dom _ _ _ h1).1) (hg b' (h.dom _ _ _ h2).1)⟩
theorem HR.killt {ρ : Ren} {σ : AH} {W : World} (h : HR ρ σ W) {b : Nat} {ob : AObj} (hb : σ.get b = some ob) (ht : ob.tail = true ∨ ∃ x, ρ b = some x) (hro : ob.isRo = false) : HR ρ (σ.put b .dead) W ∧ Stp σ.next ρ σ W ρ (σ.put b .dead) W := by
  have hbn : b < σ.next := Nat.lt_of_not_le fun hle => by rw [h.none_ b hle] at hb; cases hb
  have hs := h.small
  have hb20 : b < 1048576 := by omega
  refine ⟨⟨h.small, fun m hm => by rw [AH.get_put hb20, if_neg (by rintro rfl; exact absurd hm (by show ¬ σ.next ≤ _; omega))]; exact h.none_ m hm, fun b' c' d' hb' => ?_, fun b1 b2 c' d1 d2 h1 h2 hne => ?_⟩, ⟨fun _ _ => rfl, fun b' c' d' hb' => .inl ⟨b', d', hb'⟩, Nat.le_refl _, fun b' ob' hb' hn ho' ht' => ?_, fun _ _ _ => rfl, rfl, rfl, rfl, Nat.le_refl _, fun b' c d o _ _ _ ho' hr' => ⟨by rw [AH.get_put hb20, if_neg (by rintro rfl; rw [hb] at ho'; cases ho'; rw [hro] at hr'; cases hr')]; exact ho', rfl⟩⟩⟩
  · obtain ⟨h1, h2, o2, h3, h4⟩ := h.dom b' c' d' hb'
    refine ⟨h1, h2, ?_⟩
    rw [AH.get_put hb20]
    by_cases hbb : b' = b
    · exact ⟨.dead, if_pos hbb, fun h => by cases h⟩
    · rw [if_neg hbb]; exact ⟨o2, h3, h4⟩
  · by_cases e1 : b1 = b
    · refine .inl ?_; rw [AH.get_put hb20, if_pos e1]
    · by_cases e2 : b2 = b
      · refine .inr (.inl ?_); rw [AH.get_put hb20, if_pos e2]
      · exact (h.inj b1 b2 c' d1 d2 h1 h2 hne).congr (by rw [AH.get_put hb20, if_neg e1]) (by rw [AH.get_put hb20, if_neg e2])
  · rw [AH.get_put hb20, if_neg ?_]
    · exact ho'
    · rintro rfl
      rw [hb] at ho'; cases ho'
      rcases ht with ht | ⟨x, hx⟩
      · rw [ht] at ht'; cases ht'
      · rw [hx] at hn; cases hn
/-- Another name for a piece of a block, whose other names are gone. -/
theorem HR.rename {ρ : Ren} {σ : AH} {W : World} (h : HR ρ σ W) {c : Nat} {d : Nat × Nat} {o : AObj} (hs : Nat.blt σ.next 1000000 = true) (hc : c < W.heap.size) (hO : OR ρ d o W.heap[c]?) (hdead : ∀ b d', ρ b = some (c, d') → σ.get b = some .dead) (hold : ∃ b d', ρ b = some (c, d')) :
    ∃ ρ', ρ' σ.next = some (c, d) ∧ Sub ρ ρ' ∧ HR ρ' (σ.new o) W ∧ Stp σ.next ρ σ W ρ' (σ.new o) W := by
  have hs : σ.next < 1000000 := by rw [Nat.blt_eq] at hs; exact hs
  have hn : ρ σ.next = none := by
    cases hc : ρ σ.next with
    | none => rfl
    | some c => have := (h.dom _ c.1 c.2 hc).1; omega
  have hget : ∀ m, (σ.new o).get m = if m = σ.next then some o else σ.get m := fun m => T.get_put _ _ _ _ (by omega)
  have hsub : Sub ρ (fun b => if b = σ.next then some (c, d) else ρ b) := fun b x hc => by
    have hne : b ≠ σ.next := by rintro rfl; rw [hn] at hc; cases hc
    simp only [if_neg hne]; exact hc
  refine ⟨fun b => if b = σ.next then some (c, d) else ρ b, if_pos rfl, hsub, ⟨by show σ.next + 1 ≤ _; omega, fun m hm => by have hm : σ.next + 1 ≤ m := hm; rw [hget, if_neg (by omega)]; exact h.none_ m (by omega), fun b c' d' hc' => ?_, fun b b' c' d1 d2 h1 h2 hne => ?_⟩, ⟨fun b hb => if_neg (by omega), fun b c' d' hc' => ?_, by show σ.next ≤ σ.next + 1; omega, fun b ob hb _ ho' _ => ?_, fun _ _ _ => rfl, rfl, rfl, rfl, Nat.le_refl _, fun b c' d' ob hb _ _ ho' _ => ⟨by rw [hget, if_neg (by omega)]; exact ho', rfl⟩⟩⟩
  · rw [hget]
    by_cases hb : b = σ.next
    · subst hb
      simp only [if_true, Option.some.injEq, Prod.mk.injEq] at hc'
      obtain ⟨rfl, rfl⟩ := hc'
      exact ⟨Nat.lt_succ_self _, hc, o, if_pos rfl, hO.mono hsub⟩
    · simp only [if_neg hb] at hc' ⊢
      obtain ⟨h1, h2, o2, h3, h4⟩ := h.dom b c' d' hc'
      exact ⟨by show b < σ.next + 1; omega, h2, o2, h3, h4.mono hsub⟩
  · by_cases e1 : b = σ.next
    · subst e1
      simp only [if_true, Option.some.injEq, Prod.mk.injEq] at h1
      obtain ⟨rfl, rfl⟩ := h1
      simp only [if_neg (Ne.symm hne)] at h2
      exact .inr (.inl (by rw [hget, if_neg (Ne.symm hne)]; exact hdead _ _ h2))
    · by_cases e2 : b' = σ.next
      · subst e2
        simp only [if_true, Option.some.injEq, Prod.mk.injEq] at h2
        obtain ⟨rfl, rfl⟩ := h2
        simp only [if_neg e1] at h1
        exact .inl (by rw [hget, if_neg e1]; exact hdead _ _ h1)
      · simp only [if_neg e1, if_neg e2] at h1 h2
        exact (h.inj b b' c' d1 d2 h1 h2 hne).congr (by rw [hget, if_neg e1]) (by rw [hget, if_neg e2])
  · by_cases hb : b = σ.next
    · subst hb
      simp only [if_true, Option.some.injEq, Prod.mk.injEq] at hc'
      obtain ⟨rfl, rfl⟩ := hc'
      obtain ⟨b0, d0, h0⟩ := hold
      exact .inl ⟨b0, d0, h0⟩
    · simp only [if_neg hb] at hc'
      exact .inl ⟨b, d', hc'⟩
  · rw [hget, if_neg (by omega)]; exact ho'
end
end Go.Proofs.YtjkicmlelilcaaaDoor
namespace Go.Proofs.YtjkicmlelilcaaaDoor
open Go
section
variable {P : Program} {W : World} {ρ : Ren} {σ : AH}
theorem run_append_room_nil {pp : Option Addr} {t tx ty e : TypeId} {i : TypeInfo} {x : Value} (ht : P.underlying t = some (.slice e)) (hi : P.info? e = some i) (hs : Src P i.size tx x 0 [] W) :
    (Builtin.append_ #[t, tx] ty #[.slice pp 0 0, x]).run P W = .ok (.slice pp 0 0) W := by
  cases pp <;> rcases hs.kind with ⟨e', hk⟩ | hk <;> simp [Builtin.append_, storeCells, run_underlying ht, run_underlying hk, sizeOf, typeInfo, hi, hs.len, hs.cells]
theorem append_sound (hr : HR ρ σ W) {t tx ty e : TypeId} {i : TypeInfo} {z : Value} (ht : P.underlying t = some (.slice e)) (hi : P.info? e = some i) (hz : i.zero = some z) (hzs : z.cells.size = i.size) (_hsz : 0 < i.size) (hby : i.bytes ≤ 128) {str : Bool} (htx : (str = true ∧ P.underlying tx = some .string) ∨ (str = false ∧ ∃ e', P.underlying tx = some (.slice e')))
    {vs vx : Value} {sa ax : AV} (hvs : VR ρ sa vs) (hvx : VR ρ ax vx) (hok : (xstep std σ (.append e str i.size) [sa, ax]).1 = true) :
    ∃ v W' ρ', (Builtin.append_ #[t, tx] ty #[vs, vx]).run P W = .ok v W' ∧ HR ρ' (xstep std σ (.append e str i.size) [sa, ax]).2.2 W' ∧ Stp σ.next ρ σ W ρ' (xstep std σ (.append e str i.size) [sa, ax]).2.2 W' ∧ VR ρ' (xstep std σ (.append e str i.size) [sa, ax]).2.1 v := by
  simp only [xstep] at hok ⊢
  have hS := fun h => row_src (P := P) (size := i.size) (str := false) hr hvs h (.inr ⟨rfl, e, ht⟩)
  have hX := fun h => row_src (P := P) (size := i.size) (str := str) hr hvx h htx
  generalize hrs : rowA std false i.size σ sa = rs at hok hS ⊢
  obtain ⟨ok1, n, r1⟩ := rs
  generalize hrx : rowA std str i.size σ ax = rx at hok hX ⊢
  obtain ⟨ok2, m, r2⟩ := rx
  have hC := fun h => catA_spec (e := e) (r1 := r1) (r2 := r2) h
  generalize catA std e r1 r2 = cc at hok hC ⊢
  obtain ⟨ok3, ob⟩ := cc
  simp only [Bool.and_eq_true, std, Nat.ble_eq] at hok hC hS hX ⊢
  obtain ⟨⟨⟨⟨⟨o1, o2⟩, o3⟩, o4⟩, o5⟩, o6⟩ := hok
  obtain ⟨olds, s1, s2, s3⟩ := hS o1
  obtain ⟨news, x1, x2, _⟩ := hX o2
  obtain ⟨c1, c2, c3, c4, c5⟩ := hC o3
  have hcells := s2.append x2
  have hol := s1.newsLen
  have hnl := x1.newsLen
  have hlen : (olds ++ news).length = (n + m) * i.size := by rw [List.length_append, hol, hnl, Nat.add_mul]
  have hobl : ob.len = (n + m) * i.size := by rw [c2, ← hcells.length, hlen]
  have hbytes : (n + m) * i.bytes ≤ 140737488355328 := by
    have : (n + m) * i.bytes ≤ 1000000000000 * 128 := Nat.mul_le_mul o5 hby
    omega
  have hORof : ∀ {ρ2 : Ren} (d : Nat × Nat) (cs : Array Value) (fr : Nat × Nat), Sub ρ ρ2 → Free cs fr → (n + m) * i.size + d.1 ≤ cs.size → cs.size = d.2 → (∀ j, j < (n + m) * i.size → cs[j + d.1]? = (olds ++ news)[j]?) → OR ρ2 d ob (some (.cells cs e fr)) := by
    intro ρ2 d cs fr hsub hfr h1 h2 h3
    refine OR.mk' fun _ => ?_
    refine ⟨cs, e, fr, rfl, fun _ => ⟨c3.symm, hfr, h2⟩, by rw [hobl]; exact h1, by rw [hobl, ← h2]; exact h1, fun j a hj => ?_⟩
    rw [c5] at hj
    obtain ⟨v, hv, hvr⟩ := hcells.at j a hj
    have hjl := (List.getElem?_eq_some_iff.1 hv).1
    exact ⟨v, by rw [h3 j (by omega)]; exact hv, hvr.mono hsub⟩
  -- the arm that makes a new row
  have hgrow : ∀ (base : Option Addr) (cap : Nat) (σ1 : AH), vs = .slice base n cap → cap < n + m → HR ρ σ1 W → Stp σ.next ρ σ W ρ σ1 W → σ1.next = σ.next →
      ∃ v W' ρ', (Builtin.append_ #[t, tx] ty #[vs, vx]).run P W = .ok v W' ∧ HR ρ' (σ1.new ob) W' ∧ Stp σ.next ρ σ W ρ' (σ1.new ob) W' ∧ VR ρ' (.sl σ.next 0 (n + m) (n + m) false i.size) v := by
    intro base cap σ1 hv hg hr1 hst hnx
    subst hv
    have hge := grownCap_ge W (n + m) cap e
    have hrun := run_append_grow_src (P := P) W t tx ty e i z ht hi hz base n cap olds s1.cellsD vx m news x1 hg (by omega) (growslice_fits hg hbytes)
    obtain ⟨ρ', f1, f2, f3, f4⟩ := (hr1.drew (W.drawn + 1)).new (o := ob) (x := .cells ((olds ++ news).toArray ++ Builtin.zeroCells z.cells (grownCap W (n + m) cap e - (n + m))) e)
      (s := ((olds ++ news).toArray ++ Builtin.zeroCells z.cells (grownCap W (n + m) cap e - (n + m))).size) (by rw [hnx]; exact o6)
      (hORof (0, _) _ (0, 0) (fun _ _ h => h) (fun _ _ => by simp) (by rw [Array.size_append, List.size_toArray, hlen]; show _ + 0 ≤ _; omega) rfl (fun j hj => by
        show _[j + 0]? = _
        rw [Nat.add_zero, Array.getElem?_append_left (by rw [List.size_toArray, hlen]; exact hj)]; simp))
    refine ⟨_, _, ρ', hrun, f3, (hst.trans f4.drew (by rw [hnx]; exact Nat.le_refl _)), ?_⟩
    rw [hnx] at f1
    unfold VR
    refine .inl ⟨_, _, 0, grownCap W (n + m) cap e, f1, rfl, fun _ => rfl, Nat.le_refl _, hge, fun h => (by cases h), ?_⟩
    show 0 + _ ≤ Array.size _
    rw [Array.size_append, List.size_toArray, hlen, size_zeroCells, hzs, ← Nat.add_mul, Nat.add_sub_cancel' hge, Nat.zero_add]
    exact Nat.le_refl _
  -- nothing onto nil
  have hnil : ∀ (pp : Option Addr) (σ1 : AH), vs = .slice pp 0 0 → n = 0 → m = 0 → HR ρ σ1 W → Stp σ.next ρ σ W ρ σ1 W → σ1.next = σ.next →
      ∃ v W' ρ', (Builtin.append_ #[t, tx] ty #[vs, vx]).run P W = .ok v W' ∧ HR ρ' (σ1.new ob) W' ∧ Stp σ.next ρ σ W ρ' (σ1.new ob) W' ∧ VR ρ' (.sl σ.next 0 (n + m) (n + m) false i.size) v := by
    rintro pp σ1 rfl rfl rfl hr1 hst hnx
    have hnews : news = [] := List.length_eq_zero_iff.1 (by rw [hnl, Nat.zero_mul])
    subst hnews
    have o6 : σ1.next < 1000000 := by rw [hnx]; rw [Nat.blt_eq] at o6; exact o6
    have hget : ∀ k, (σ1.new ob).get k = if k = σ1.next then some ob else σ1.get k := fun k => T.get_put _ _ _ _ (by omega)
    have hr2 : HR ρ (σ1.new ob) W := hr1.more (by show σ1.next + 1 ≤ _; omega) (fun b hb => by have hb : σ1.next + 1 ≤ b := hb; rw [hget, if_neg (by omega)]; exact hr1.none_ b (by omega)) (Nat.le_succ _) (fun b hb => by rw [hget, if_neg (by omega)])
    refine ⟨_, W, ρ, run_append_room_nil ht hi x1, hr2, hst.trans (M := σ1.next) ⟨fun _ _ => rfl, fun b c d hb => .inl ⟨b, d, hb⟩, Nat.le_succ _, fun b o hb _ ho _ => by rw [hget, if_neg (by omega)]; exact ho, fun _ _ _ => rfl, rfl, rfl, rfl, Nat.le_refl _, fun b c d ob hb _ _ ho _ => ⟨by rw [hget, if_neg (by omega)]; exact ho, rfl⟩⟩ (by rw [hnx]; exact Nat.le_refl _), ?_⟩
    unfold VR; exact .inr ⟨rfl, rfl, rfl, _, rfl⟩
  have hnilAny : ∀ (pp : Option Addr) (σ1 : AH), vs = .slice pp 0 0 → n = 0 → HR ρ σ1 W → Stp σ.next ρ σ W ρ σ1 W → σ1.next = σ.next →
      ∃ v W' ρ', (Builtin.append_ #[t, tx] ty #[vs, vx]).run P W = .ok v W' ∧ HR ρ' (σ1.new ob) W' ∧ Stp σ.next ρ σ W ρ' (σ1.new ob) W' ∧ VR ρ' (.sl σ.next 0 (n + m) (n + m) false i.size) v := by
    intro pp σ1 hv hn hr1 hst hnx
    by_cases hm0 : m = 0
    · exact hnil pp σ1 hv hn hm0 hr1 hst hnx
    · exact hgrow pp 0 σ1 (by rw [hv, hn]) (by omega) hr1 hst hnx
  cases sa
  case nilsl =>
    unfold VR at hvs
    have hn : n = 0 := by simp only [rowA, Prod.mk.injEq] at hrs; exact hrs.2.1.symm
    exact hnilAny none σ hvs hn hr (Stp.refl (Nat.le_refl _)) rfl
  case sl b o n' k ex zz =>
    simp only [baseOk] at o4
    cases hob : σ.get b with
    | none => rw [hob] at o4; cases o4
    | some ob0 =>
      rw [hob] at o4
      simp only [Bool.and_eq_true] at o4
      obtain ⟨⟨p1, p2⟩, p3⟩ := o4
      have hn : n = n' := by
        simp only [rowA, hob] at hrs
        cases ob0 with
        | dead => cases p1
        | cells l e2 t2 => simp only [Prod.mk.injEq] at hrs; exact hrs.2.1.symm
        | ints ik l e2 t2 => simp only [Prod.mk.injEq] at hrs; exact hrs.2.1.symm
      subst hn
      rcases vr_sl hvs with ⟨c, d, o', k', hb, hv, ho, hnk, hkk, hex, hlim⟩ | ⟨hn, hk, hx, pp, hv⟩
      · have hkill := hr.killt hob (.inr ⟨_, hb⟩)
        have hnr : ex = false ∨ std.ltN k (n + m) = false → ob0.isRo = false := fun h => by
          rw [Bool.or_eq_true, Bool.and_eq_true, Bool.and_eq_true] at p3
          rcases p3 with ⟨_, h'⟩ | ⟨h1, h2⟩
          · simpa using h'
          · rcases h with h | h
            · rw [h] at h1; cases h1
            · have h2 : std.ltN k (n + m) = true := h2
              rw [h] at h2; cases h2
        by_cases hroom : n + m ≤ k'
        · -- in place
          have hnk2 : killA std σ (n + m) (.sl b o n k ex zz) = σ.put b .dead := by
            cases ex
            · rfl
            · simp only [killA]
              have : std.ltN k (n + m) = false := by
                show Nat.blt k (n + m) = false
                rw [Bool.eq_false_iff]; intro h; rw [Nat.blt_eq] at h
                have := hex rfl; omega
              rw [this]; rfl
          have hel : ob0.elem = e ∧ ob0.isRo = false := by
            rw [Bool.or_eq_true, Bool.and_eq_true, Bool.and_eq_true] at p3
            rcases p3 with ⟨h, h'⟩ | ⟨h1, h2⟩
            · exact ⟨Nat.eq_of_beq_eq_true h, by simpa using h'⟩
            · have h2 : Nat.blt k (n + m) = true := h2
              rw [Nat.blt_eq] at h2
              have := hex h1; omega
          show ∃ v W' ρ', _ ∧ HR ρ' ((killA std σ (n + m) (.sl b o n k ex zz)).new ob) W' ∧ Stp σ.next ρ σ W ρ' ((killA std σ (n + m) (.sl b o n k ex zz)).new ob) W' ∧ _
          rw [hnk2]
          obtain ⟨_, hcW, ob', hob', hO⟩ := hr.dom b c d hb
          rw [hob] at hob'; cases hob'
          obtain ⟨cs, e0, fr, hx, hrw, hlen0, _, _⟩ := (hO p1).2 (fun h => by rw [hel.2] at h; cases h)
          obtain ⟨rfl, hfr, hcsz⟩ := hrw hel.2
          have hkm : (n + m) * i.size ≤ k' * i.size := Nat.mul_le_mul_right _ hroom
          have hnm : (n + m) * i.size = n * i.size + m * i.size := Nat.add_mul _ _ _
          have hzz : zz = i.size := by
            simp only [rowA, hob] at hrs
            cases ob0 with
            | dead => cases p1
            | cells l e2 t2 =>
              simp only [Prod.mk.injEq] at hrs
              have := hrs.1.trans o1
              simp only [Bool.and_eq_true, Nat.beq_eq] at this
              exact this.1.1.2
            | ints ik l e2 t2 =>
              simp only [Prod.mk.injEq] at hrs
              have := hrs.1.trans o1
              simp only [Bool.and_eq_true, Nat.beq_eq] at this
              exact this.1.2
          subst hzz
          have hcc : ∀ j, j < news.length → o' + n * i.size + j < cs.size := fun j hj => by omega
          have hrun := run_append_room_src (P := P) W t tx ty e i ht hi c o' n k' vx m news x1 hroom (fun j hj => by simp [World.cell?, hx, hcc j hj]) (fun j hj => by
            have := hfr _ (hcc j hj)
            simp only [World.frozen?, hx]
            rw [Bool.eq_false_iff]
            intro e
            rw [Bool.and_eq_true, decide_eq_true_eq, decide_eq_true_eq] at e
            exact this e)
          obtain ⟨g1, g2, g3, g4⟩ := setCells_rest news W c (o' + n * i.size)
          obtain ⟨q1, q2⟩ := hr.replace (W' := W.setCells c (o' + n * i.size) news) (o' := .dead) hb hob p1 hel.2 (fun h => by cases h) (fun k hk => by rw [setCells_heap, if_neg hk]) g4 g1 g2 g3
          have hheap : (W.setCells c (o' + n * i.size) news).heap[c]? = some (.cells (setL cs (o' + n * i.size) news) e fr) := by rw [setCells_heap, if_pos rfl, hx, ← hel.1]; rfl
          have hmem : ∀ j u, olds[j]? = some u → cs[o' + j]? = some u := fun j u hu => by
            rcases s3 trivial with ⟨h1, h2⟩ | ⟨a, c2, h1, h2⟩
            · rw [hv] at h1; cases h1
            · rw [hv] at h1
              injection h1 with h1
              injection h1 with h1
              have := h2 j u hu
              rw [← h1, addr_none] at this
              simpa [World.cell?, hx] using this
          have hOR : OR ρ (o', d.2) ob (W.setCells c (o' + n * i.size) news).heap[c]? := by
            rw [hheap]
            refine hORof (o', d.2) _ fr (fun _ _ h => h) (fun j hj => hfr j (by rwa [setL_size] at hj)) (by rw [setL_size]; show _ + o' ≤ _; omega) (by rw [setL_size]; exact hcsz) fun j hj => ?_
            show (setL cs (o' + n * i.size) news)[j + o']? = _
            rw [setL_at _ _ _ (by omega), List.getElem?_append]
            by_cases hjn : j < olds.length
            · rw [if_neg (by omega), if_pos hjn, List.getElem?_eq_getElem hjn, Nat.add_comm j o']
              exact hmem j _ (List.getElem?_eq_getElem hjn)
            · rw [if_pos (by omega), if_neg hjn, show j + o' - (o' + n * i.size) = j - olds.length by omega]
          have hb20 : b < 1048576 := by have := (hr.dom b c d hb).1; have := hr.small; omega
          obtain ⟨ρ', f1, f2, f3, f4⟩ := q1.rename (c := c) (d := (o', d.2)) (o := ob) o6 (by rw [g4]; exact hcW) hOR (fun b' d' hb' => by
              rw [AH.get_put hb20]
              by_cases hbb : b' = b
              · rw [if_pos hbb]
              · rw [if_neg hbb]
                exact (hr.inj b b' c d d' hb hb' (Ne.symm hbb)).left hob p1 hel.2) ⟨b, d, hb⟩
          rw [hv]
          refine ⟨_, _, ρ', hrun, f3, q2.trans f4 (Nat.le_refl _), ?_⟩
          unfold VR
          exact .inl ⟨c, (o', d.2), o', k', f1, rfl, fun _ => (Nat.zero_add _).symm, Nat.le_refl _, hroom, fun h => (by cases h), by show o' + k' * i.size ≤ d.2; exact hlim⟩
        · have hσ1 : ∃ σ1, killA std σ (n + m) (.sl b o n k ex zz) = σ1 ∧ HR ρ σ1 W ∧ Stp σ.next ρ σ W ρ σ1 W ∧ σ1.next = σ.next := by
            cases ex
            · have hkill := hkill (hnr (.inl rfl)); exact ⟨_, rfl, hkill.1, hkill.2, rfl⟩
            · simp only [killA]
              cases hlt : std.ltN k (n + m)
              · have hkill := hkill (hnr (.inr hlt)); exact ⟨_, rfl, hkill.1, hkill.2, rfl⟩
              · exact ⟨_, rfl, hr, Stp.refl (Nat.le_refl _), rfl⟩
          obtain ⟨σ1, e1, e2, e3, e4⟩ := hσ1
          show ∃ v W' ρ', _ ∧ HR ρ' ((killA std σ (n + m) (.sl b o n k ex zz)).new ob) W' ∧ Stp σ.next ρ σ W ρ' ((killA std σ (n + m) (.sl b o n k ex zz)).new ob) W' ∧ _
          rw [e1]
          exact hgrow _ k' σ1 hv (by omega) e2 e3 e4
      · subst hx
        have ht : ob0.tail = true := by simpa using p2
        have hkill := hr.killt hob (.inl ht) (by
          rw [Bool.or_eq_true, Bool.and_eq_true, Bool.and_eq_true] at p3
          rcases p3 with ⟨_, h'⟩ | ⟨h1, _⟩
          · simpa using h'
          · cases h1)
        exact hnilAny pp _ hv hn hkill.1 hkill.2 rfl
  all_goals (simp only [baseOk] at o4; cases o4)
end
end Go.Proofs.YtjkicmlelilcaaaDoor
namespace Go.Proofs.YtjkicmlelilcaaaDoor
open Go
theorem setL_append : ∀ (l m : List Value) (o : Nat) (cs : Array Value), setL cs o (l ++ m) = setL (setL cs o l) (o + l.length) m
  | [], m, o, cs => rfl
  | v :: l, m, o, cs => by
    show setL (cs.setIfInBounds o v) (o + 1) (l ++ m) = setL (setL (cs.setIfInBounds o v) (o + 1) l) (o + (l.length + 1)) m
    rw [setL_append l m, Nat.add_assoc, Nat.add_comm 1]
theorem fold_setL (off : Nat) : ∀ (l : List Value) (s : Nat) (cs : Array Value), (l.zipIdx s).foldl (fun cs p => cs.setIfInBounds (off + p.2) p.1) cs = setL cs (off + s) l
  | [], s, cs => rfl
  | v :: l, s, cs => by
    rw [List.zipIdx_cons, List.foldl_cons, fold_setL off l (s + 1)]; rfl
theorem fill_spec (size : Nat) : ∀ (vs : List Value) (k : Nat) (cells : Array Value), (∀ v ∈ vs, v.cells.size = size) → (k + vs.length) * size ≤ cells.size →
    Instr.fill (fun i => some (i * size, size)) cells ((List.range' k vs.length).zip vs) = some (setL cells (k * size) (vs.flatMap fun v => v.cells.toList))
  | [], k, cells, _, _ => rfl
  | v :: vs, k, cells, h, hs => by
    have hv := h v List.mem_cons_self
    rw [List.length_cons] at hs ⊢
    rw [List.range'_succ, List.zip_cons_cons]
    unfold Instr.fill
    simp only
    have hk : (k + (vs.length + 1)) * size = k * size + size + vs.length * size := by rw [Nat.add_mul, Nat.add_mul, Nat.one_mul]; omega
    rw [if_neg (by rw [hv]; simp; omega)]
    have e1 : Array.foldl (fun cs (x : Value × Nat) => match x with | (c, j) => cs.setIfInBounds (k * size + j) c) cells v.cells.zipIdx = setL cells (k * size) v.cells.toList := by
      rw [← Array.foldl_toList, Array.toList_zipIdx]
      exact fold_setL (k * size) v.cells.toList 0 cells
    have e2 := fill_spec size vs (k + 1) (setL cells (k * size) v.cells.toList) (fun u hu => h u (List.mem_cons_of_mem _ hu)) (by rw [setL_size, show (k + 1 + vs.length) * size = (k + (vs.length + 1)) * size by rw [Nat.add_assoc, Nat.add_comm 1]]; exact hs)
    rw [e1, e2, List.flatMap_cons, setL_append]
    have : k * size + v.cells.toList.length = (k + 1) * size := by rw [Nat.add_mul, Nat.one_mul, ← hv]; rfl
    rw [this]
theorem setL_all (cs : Array Value) (l : List Value) (h : l.length = cs.size) : setL cs 0 l = l.toArray := by
  apply Array.ext_getElem?
  intro j
  rw [setL_at l 0 cs (by omega)]
  by_cases hj : 0 ≤ j ∧ j < 0 + l.length
  · rw [if_pos hj]; simp
  · rw [if_neg hj, Array.getElem?_eq_none (by omega)]; simp; omega
section
variable {P : Program} {W : World} {ρ : Ren} {σ : AH}
theorem VRs.flat : ∀ {l : List AV} {vs : List Value}, VRs ρ l vs → (l.all fun a => a.known) = true → VRs ρ (l.flatMap AV.cells) (vs.flatMap fun v => v.cells.toList)
  | [], _, e, _ => by rw [show _ = [] from e]; rfl
  | a :: l, _, ⟨v, m, e, hv, hm⟩, h => by
    subst e
    rw [List.all_cons, Bool.and_eq_true] at h
    rw [List.flatMap_cons, List.flatMap_cons]
    exact (hv.cells h.1).append (hm.flat h.2)
theorem bslice_sound (hr : HR ρ σ W) {t e : TypeId} {i : TypeInfo} {z : Value} {n : Nat} (ht : P.underlying t = some (.slice e)) (hi : P.info? e = some i) (hz : i.zero = some z) (hn : n * i.size ≤ 16777216)
    {as' : List AV} {vs : List Value} (hvs : VRs ρ as' vs) (hl : vs.length = n) (hok : (xstep std σ (.bslice e i.size n) as').1 = true) {parts : Array (Nat × Value)} (hp : parts.toList = (List.range n).zip vs) :
    ∃ v W' ρ', (Instr.buildSlice t n parts).run P W = .ok v W' ∧ HR ρ' (xstep std σ (.bslice e i.size n) as').2.2 W' ∧ Stp σ.next ρ σ W ρ' (xstep std σ (.bslice e i.size n) as').2.2 W' ∧ VR ρ' (xstep std σ (.bslice e i.size n) as').2.1 v := by
  simp only [xstep, Bool.and_eq_true, Nat.beq_eq] at hok ⊢
  obtain ⟨⟨h1, h2⟩, h3⟩ := hok
  have hkn : (as'.all fun a => a.known) = true := by
    rw [List.all_eq_true] at h3 ⊢
    intro a ha
    have := h3 a ha
    rw [Bool.and_eq_true] at this
    exact this.1
  have hsz : ∀ v ∈ vs, v.cells.size = i.size := by
    intro v hv
    obtain ⟨j, hj⟩ := List.mem_iff_getElem?.1 hv
    have hjl := (List.getElem?_eq_some_iff.1 hj).1
    have hal := hvs.length
    have ha : as'[j]? = some as'[j] := List.getElem?_eq_getElem (by omega)
    obtain ⟨u, hu, hur⟩ := hvs.at j _ ha
    rw [hj] at hu; cases hu
    have := List.all_eq_true.1 h3 _ (List.getElem_mem (by omega : j < as'.length))
    rw [Bool.and_eq_true, Nat.beq_eq] at this
    have hc := (hur.cells this.1).length
    rw [← this.2, ← hc]; rfl
  have hflat := hvs.flat hkn
  have hfl : (vs.flatMap fun v => v.cells.toList).length = n * i.size := by rw [hflat.length]; exact h2
  have hfill : ∀ cells0 : Array Value, Instr.fill (fun i_1 => some (i_1 * i.size, i.size)) ((Array.range (n * i.size)).map (cells0[· % cells0.size]!)) parts.toList = some (vs.flatMap fun v => v.cells.toList).toArray := fun cells0 => by
    have hfill := fill_spec i.size vs 0 ((Array.range (n * i.size)).map (cells0[· % cells0.size]!)) hsz (by simp [hl])
    rwa [← List.range_eq_range', hl, ← hp, Nat.zero_mul, setL_all _ _ (by simp [hfl])] at hfill
  have hrun : (Instr.buildSlice t n parts).run P W = .ok (.slice (some ⟨W.heap.size, 0, none⟩) n n) { W with heap := W.heap.push (.cells (vs.flatMap fun v => v.cells.toList).toArray e) } := by
    unfold Instr.buildSlice
    have hsize : (sizeOf e).run P W = .ok i.size W := by simp [sizeOf, typeInfo, hi]
    have hze : (zeroValue e).run P W = .ok z W := by simp [zeroValue, typeInfo, hi, hz]
    rw [Sem.run_bind, run_underlying ht, Result.andThen_ok]
    simp only [Sem.run_bind, hsize, Result.andThen_ok]
    rw [if_neg (by omega)]
    by_cases h0 : n * i.size = 0
    · rw [if_pos h0]
      simp only [Sem.run_bind, Sem.run_pure, Result.andThen_ok, hfill, newRow, run_newObj]
    · rw [if_neg h0]
      simp only [Sem.run_bind, Sem.run_pure, Result.andThen_ok, hze, hfill, newRow, run_newObj]
  obtain ⟨ρ', f1, f2, f3, f4⟩ := hr.new (o := AObj.of (as'.flatMap AV.cells) e .exact) (x := .cells (vs.flatMap fun v => v.cells.toList).toArray e) h1 (OR.of hflat)
  refine ⟨_, _, ρ', hrun, f3, f4, ?_⟩
  unfold VR
  exact .inl ⟨_, _, 0, n, f1, rfl, fun _ => rfl, Nat.le_refl _, Nat.le_refl _, fun _ => rfl, by show 0 + n * i.size ≤ List.length _; rw [hfl]; omega⟩
end
end Go.Proofs.YtjkicmlelilcaaaDoor
namespace Go.Proofs.YtjkicmlelilcaaaDoor
open Go
section
variable {P : Program} {W : World} {ρ : Ren} {σ : AH}
theorem run_zero {e : TypeId} {i : TypeInfo} {z : Value} (hi : P.info? e = some i) (hz : i.zero = some z) (W : World) : (zeroValue e).run P W = .ok z W := by
  simp [zeroValue, typeInfo, hi, hz]
theorem step_sound {o : Oper} {ao : AOp} {a : Act} {rf : Operand → Ref} {ev : Ref → AV} (hc : comp1 P rf o.op = some ao) (hev : ∀ x, VR ρ (ev (rf x)) (a.eval x)) (hr : HR ρ σ W) :
    Runs P (execOp a.eval o) W ρ σ (step std ev σ ao) := by
  unfold execOp
  generalize o.op = op at hc
  unfold comp1 at hc
  cases op <;> simp only [reduceCtorEq, Option.some.injEq] at hc
  case move x => subst hc; exact Runs.val hr (a.eval x) (fun _ => ⟨rfl, hev x⟩) rfl
  case assign x => subst hc; exact Runs.val hr (a.eval x) (fun _ => ⟨rfl, hev x⟩) rfl
  case pick c x y =>
    subst hc
    have h := hev c
    simp only [step]
    cases hcv : ev (rf c) <;> rw [hcv] at h <;> try exact Runs.bad
    rename_i t
    simp only [VR] at h
    refine Runs.val hr (if t then a.eval x else a.eval y) (fun _ => ⟨?_, ?_⟩) rfl
    · cases t <;> simp [h, asBool]
    · cases t
      · exact hev y
      · exact hev x
  case binOp op t x y u => subst hc; exact sem_bin hr (hev x) (hev y)
  case unOp op t x => subst hc; exact sem_un hr (hev x)
  case convert s d x =>
    split at hc
    · rename_i k0 hs
      split at hc
      · rename_i k hd
        cases hc
        have h := hev x
        simp only [step]
        cases hcv : ev (rf x) <;> rw [hcv] at h <;> try exact Runs.bad
        rename_i k' n
        simp only [VR] at h
        refine Runs.val hr (.int k (k.wrap n)) (fun _ => ⟨?_, ?_⟩) rfl
        · simp [convert, run_underlying hs, run_underlying hd, h, Conv.intToInt]
        · show VR ρ (.int k (wr k n)) _
          unfold VR; rw [wr_eq]
      · cases hc
    · cases hc
  case alloc e =>
    split at hc
    · rename_i i hi
      split at hc
      · rename_i z hz
        cases hc
        have := sem_new (P := P) (e := e) (v := z) hr (vrs_ofCell ρ z.cells.toList)
        intro hok
        obtain ⟨n, W', ρ', h1, h2⟩ := this hok
        refine ⟨n, W', ρ', ?_, h2⟩
        rw [← h1]
        simp [Instr.alloc, run_zero hi hz]
      · cases hc
    · cases hc
  case box e x =>
    cases hc
    intro hok
    have hok : ((ev (rf x)).known && Nat.blt σ.next 1000000) = true := hok
    rw [Bool.and_eq_true] at hok
    exact sem_new (P := P) (e := e) (v := a.eval x) hr ((hev x).cells hok.1) hok.2
  case load t x =>
    split at hc
    · rename_i d hu
      split at hc
      · rename_i hd
        split at hc
        · rename_i i hi
          cases hc
          exact sem_loadN hr hu hd hi (hev x)
        · cases hc
      · rename_i hd
        cases hc
        exact sem_load1 hr hu hd (hev x)
    · cases hc
  case store t p x =>
    split at hc
    · rename_i i hi
      cases hc
      exact sem_store hr hi (hev p) (hev x)
    · cases hc
  case fieldAddr s x f =>
    split at hc
    · rename_i fs hu
      split at hc
      · rename_i fd hf
        split at hc
        · rename_i i hi
          split at hc
          · cases hc
          · rename_i n hn
            cases hc
            have h := hev x
            simp only [step]
            cases hcv : ev (rf x) <;> rw [hcv] at h <;> try exact Runs.bad
            rename_i b off
            obtain ⟨c, d, hb, hv⟩ := vr_ptr h
            refine Runs.val hr (.pointer (some ⟨c, off + d.1 + fd.offset, none⟩)) (fun _ => ⟨?_, ?_⟩) rfl
            · have hsz : (sizeOf fd.type).run P W = .ok (n + 1) W := by simp [sizeOf, typeInfo, hi, hn]
              simp [Instr.fieldAt, run_underlying hu, hf, hv, Instr.sureAddr, fieldPlace, hsz, addr_none]
            · show VR ρ (.ptr b (off + fd.offset)) _
              unfold VR; exact ⟨c, d, hb, by rw [Nat.add_right_comm]⟩
        · cases hc
      · cases hc
    · cases hc
  case indexAddr t x ix =>
    split at hc
    · rename_i len e hu
      split at hc
      · rename_i i hi
        cases hc
        exact sem_idxArr hr hu hi (hev x) (hev ix)
      · cases hc
    · rename_i e hu
      split at hc
      · rename_i i hi
        cases hc
        exact sem_idxSl hr hu hi (hev x) (hev ix)
      · cases hc
    · cases hc
  case slice t x lo hi mx =>
    split at hc
    · rename_i hu
      split at hc
      · cases hc
        exact sem_slStr hr hu (hev x) (map_fit hev lo) (map_fit hev hi)
      · cases hc
    · rename_i e hu
      split at hc
      · rename_i i hi'
        cases hc
        exact sem_slSl hr hu hi' (hev x) (map_fit hev lo) (map_fit hev hi) (map_fit hev mx)
      · cases hc
    · rename_i n e hu
      split at hc
      · rename_i i hi'
        cases hc
        exact sem_slArr hr hu hi' (hev x) (map_fit hev lo) (map_fit hev hi) (map_fit hev mx)
      · cases hc
    · cases hc
  case extract x k =>
    subst hc
    have h := hev x
    simp only [step]
    cases hcv : ev (rf x) <;> rw [hcv] at h <;> try exact Runs.bad
    rename_i l
    unfold VR at h
    obtain ⟨us, hv, hus⟩ := h
    intro hok
    have hk : k < l.length := by have hok : Nat.blt k l.length = true := hok; rwa [Nat.blt_eq] at hok
    obtain ⟨v, hv', hr'⟩ := hus.at k l[k] (List.getElem?_eq_getElem hk)
    have e : l.getD k .top = l[k] := by simp [hk]
    refine ⟨.value v, W, ρ, ?_, hr, Stp.refl (Nat.le_refl _), .inl ⟨v, rfl, ?_⟩⟩
    · simp [hv, Instr.extract, hv']
    · show VR ρ (l.getD k .top) v
      rw [e]; exact hr'
  case makeInterface t x =>
    split at hc
    · cases hc
    · rename_i d hni hu
      cases hc
      refine Runs.val hr (.iface t (a.eval x)) (fun _ => ⟨?_, ?_⟩) rfl
      · simp only [Instr.makeInterface, Sem.run_bind, run_underlying hu, Result.andThen_ok]
        cases d <;> first | rfl | exact absurd hu (hni _)
      · show VR ρ (.ifc t _) _
        unfold VR; exact ⟨_, rfl, hev x⟩
    · cases hc
  case nilCheck x =>
    subst hc
    have h := hev x
    simp only [step]
    cases hcv : ev (rf x) <;> rw [hcv] at h <;> try exact Runs.bad
    rename_i b off
    obtain ⟨c, d, hb, hv⟩ := vr_ptr h
    refine Runs.val hr _ (fun _ => ⟨by rw [hv]; rfl, ?_⟩) rfl
    show VR ρ (.ptr b off) _
    unfold VR; exact ⟨c, d, hb, rfl⟩
  case buildSlice t len parts =>
    split at hc
    · rename_i e hu
      split at hc
      · rename_i i hi
        split at hc
        · rename_i z hz
          split at hc
          rotate_left
          · cases hc
          · rename_i hb
            cases hc
            rw [Bool.and_eq_true, beq_iff_eq, Nat.ble_eq] at hb
            intro hok
            have hmap : ∀ l : List (Nat × Operand), VRs ρ ((l.map fun p => rf p.2).map ev) (l.map fun p => a.eval p.2) := by
              intro l
              induction l with
              | nil => rfl
              | cons p l ih => exact ⟨_, _, rfl, hev p.2, ih⟩
            have hlen : parts.toList.length = len := by have := congrArg List.length hb.1; simpa using this
            have hzip : ∀ (l : List (Nat × Operand)), (l.map fun p => (p.1, a.eval p.2)) = (l.map (·.1)).zip (l.map fun p => a.eval p.2) := by
              intro l
              induction l with
              | nil => rfl
              | cons p l ih => simp [ih]
            obtain ⟨v, W', ρ', h1, h2, h3, h4⟩ := bslice_sound (P := P) (n := len) hr hu hi hz hb.2 (hmap parts.toList) (by simpa using hlen) hok (parts := parts.map fun (i, x) => (i, a.eval x)) (by rw [Array.toList_map]; rw [← hb.1]; exact hzip parts.toList)
            refine ⟨.value v, W', ρ', ?_, h2, h3, .inl ⟨v, rfl, h4⟩⟩
            simp only [Sem.run_bind, h1, Result.andThen_ok]
            rfl
        · cases hc
      · cases hc
    · cases hc
  case call c =>
    obtain ⟨callee, args, ats⟩ := c
    cases callee <;> simp only [reduceCtorEq] at hc
    rename_i bi
    cases bi <;> simp only [reduceCtorEq] at hc
    case append =>
      split at hc
      · rename_i s x hargs
        split at hc
        · rename_i t tx hats
          split at hc
          · rename_i e hu
            split at hc
            · rename_i i hi
              split at hc
              · rename_i z hz
                split at hc
                rotate_left
                · cases hc
                · rename_i hb
                  rw [Bool.and_eq_true, Bool.and_eq_true, Nat.beq_eq, Nat.blt_eq, Nat.ble_eq] at hb
                  have e1 : args = #[s, x] := by apply Array.ext'; exact hargs
                  have e2 : ats = #[t, tx] := by apply Array.ext'; exact hats
                  subst e1; subst e2
                  have key : ∀ str, ((str = true ∧ P.underlying tx = some .string) ∨ (str = false ∧ ∃ e', P.underlying tx = some (.slice e'))) → Runs P (do let d ← resolve a.eval { callee := .builtin .append, args := #[s, x], argTypes := #[t, tx] } o.type; invoke d.target d.args) W ρ σ (step std ev σ (.ext (.append e str i.size) [rf s, rf x])) := by
                    intro str htx hok
                    obtain ⟨v, W', ρ', h1, h2, h3, h4⟩ := append_sound (ty := o.type) hr hu hi hz hb.1.1 hb.1.2 hb.2 htx (hev s) (hev x) hok
                    refine ⟨.value v, W', ρ', ?_, h2, h3, .inl ⟨v, rfl, h4⟩⟩
                    simp [resolve, invoke, builtin, h1]
                  split at hc
                  · rename_i htx; cases hc; exact key true (.inl ⟨rfl, htx⟩)
                  · rename_i e' htx; cases hc; exact key false (.inr ⟨rfl, e', htx⟩)
                  · cases hc
              · cases hc
            · cases hc
          · cases hc
        · cases hc
      · cases hc
    split at hc
    · rename_i t ht
      split at hc
      · rename_i hu
        split at hc
        · rename_i x hx
          cases hc
          have h := hev x
          simp only [step]
          cases hcv : ev (rf x) <;> rw [hcv] at h <;> try exact Runs.bad
          rename_i l
          simp only [VR] at h
          skip
          exact Runs.val hr (.int .i64 l.length) (fun _ => ⟨by simp [resolve, invoke, builtin, Builtin.len_, ht, hx, h, run_underlying hu, goInt, ba_size], by show VR ρ (.int .i64 _) _; unfold VR; rfl⟩) rfl
        · cases hc
      · rename_i e hu
        split at hc
        · rename_i x hx
          cases hc
          have h := hev x
          simp only [step]
          skip
          cases hcv : ev (rf x) <;> rw [hcv] at h <;> try exact Runs.bad
          · rcases vr_sl h with ⟨c, d, o', k', _, hv, _⟩ | ⟨rfl, _, _, pp, hv⟩
            rotate_left
            · exact Runs.val hr (.int .i64 0) (fun _ => ⟨by simp [resolve, invoke, builtin, Builtin.len_, ht, hx, hv, run_underlying hu, goInt], by show VR ρ (.int .i64 _) _; unfold VR; rfl⟩) rfl
            exact Runs.val hr (.int .i64 _) (fun _ => ⟨by simp [resolve, invoke, builtin, Builtin.len_, ht, hx, hv, run_underlying hu, goInt]; rfl, by show VR ρ (.int .i64 _) _; unfold VR; rfl⟩) rfl
          · simp only [VR] at h
            exact Runs.val hr (.int .i64 0) (fun _ => ⟨by simp [resolve, invoke, builtin, Builtin.len_, ht, hx, h, run_underlying hu, goInt], by show VR ρ (.int .i64 _) _; unfold VR; rfl⟩) rfl
        · cases hc
      · cases hc
    · cases hc
end
end Go.Proofs.YtjkicmlelilcaaaDoor
namespace Go.Proofs.YtjkicmlelilcaaaDoor
open Go
inductive COp where
  | aop (a : AOp)
  | call (f : Ref) (args : List Ref)
structure CRow where
  op : COp
  dst : Option Nat
  guard : Option (Ref × Bool)
/-- What is known of the functions that are called. -/
abbrev Gam := FuncId → List AV → AH → Out
def GamOk (P : Program) (G : Nat) (Γ : Gam) : Prop := ∀ f args σ, (Γ f args σ).1 = true → (∃ fn, P.funcs[f]? = some fn ∧ fn.body.isSome = true ∧ (fn.name == "runtime.NumGoroutine") = false) ∧
  ∀ ρ W vs, (∀ g, g < G → ∃ s, ρ g = some (g, (0, s))) → HR ρ σ W → VRs ρ args vs → Calls P f vs.toArray W fun e W' => ∃ v ρ', e = .returned v ∧ HR ρ' (Γ f args σ).2.2 W' ∧ Stp σ.next ρ σ W ρ' (Γ f args σ).2.2 W' ∧ VR ρ' (Γ f args σ).2.1 v
noncomputable def cstep (A : Ar) (Γ : Gam) (ev : Ref → AV) (σ : AH) : COp → Out
  | .aop a => step A ev σ a
  | .call f args => match ev f with
    | .fn (.func f) first cap => Γ f (first ++ (args.map ev ++ cap)) σ
    | _ => bad σ
noncomputable def gstep (A : Ar) (Γ : Gam) (ev : Ref → AV) (σ : AH) (r : CRow) : Out := match r.guard with
  | none => cstep A Γ ev σ r.op
  | some g => match ev g.1 with
    | .bool b => bif b == g.2 then cstep A Γ ev σ r.op else (true, .tup [], σ)
    | .tup _ => (true, .tup [], σ)
    | _ => bad σ
def guardOf (rf : Operand → Ref) (ops : Array Oper) (o : Oper) : Option (Option (Ref × Bool)) := match o.guard with
  | none => some none
  | some (j, want) => match (ops[j]?).bind (·.dst) with
    | some d => some (some (rf (.tmp d), want))
    | none => none
def copOf (P : Program) (rf : Operand → Ref) (op : Op) : Option COp := match op with
  | .call { callee := .value f, args := args, argTypes := _ } => some (.call (rf f) (args.toList.map rf))
  | op => match comp1 P rf op with
    | some a => some (.aop a)
    | none => none
def rowOf (P : Program) (nt : Nat) (rf : Operand → Ref) (ops : Array Oper) (o : Oper) : Option CRow := match guardOf rf ops o with
  | none => none
  | some g => match copOf P rf o.op with
    | none => none
    | some c => match o.dst with
      | none => some ⟨c, none, g⟩
      | some d => bif Nat.blt d nt then some ⟨c, some d, g⟩ else none
theorem rowOf_spec {P : Program} {nt : Nat} {rf : Operand → Ref} {ops : Array Oper} {o : Oper} {r : CRow} (h : rowOf P nt rf ops o = some r) :
    guardOf rf ops o = some r.guard ∧ copOf P rf o.op = some r.op ∧ r.dst = o.dst ∧ ∀ d, o.dst = some d → d < nt := by
  unfold rowOf at h
  split at h
  · cases h
  · rename_i g hg
    split at h
    · cases h
    · rename_i c hc
      split at h
      · rename_i hd
        cases h
        exact ⟨hg, hc, hd.symm, fun d e => by rw [hd] at e; cases e⟩
      · rename_i d hd
        cases hlt : Nat.blt d nt <;> rw [hlt] at h
        · cases h
        · cases h
          exact ⟨hg, hc, hd.symm, fun d' e => by rw [hd] at e; cases e; rw [Nat.blt_eq] at hlt; exact hlt⟩
section
variable {P : Program} {W : World} {ρ : Ren} {σ : AH}
theorem vrs_map {ev : Ref → AV} {rf : Operand → Ref} {a : Act} (hev : ∀ x, VR ρ (ev (rf x)) (a.eval x)) : ∀ l : List Operand, VRs ρ ((l.map rf).map ev) (l.map a.eval)
  | [] => rfl
  | x :: l => ⟨_, _, rfl, hev x, vrs_map hev l⟩
theorem cop_sound {G : Nat} {Γ : Gam} (hΓ : GamOk P G Γ) (hG : ∀ g, g < G → ∃ s, ρ g = some (g, (0, s))) {o : Oper} {c : COp} {a : Act} {rf : Operand → Ref} {ev : Ref → AV} (hc : copOf P rf o.op = some c) (hev : ∀ x, VR ρ (ev (rf x)) (a.eval x)) (hr : HR ρ σ W)
    (hok : (cstep std Γ ev σ c).1 = true) {K : Act → World → Prop} {Q : Exit → Act → World → Prop}
    (hK : ∀ v W' ρ', HR ρ' (cstep std Γ ev σ c).2.2 W' → Stp σ.next ρ σ W ρ' (cstep std Γ ev σ c).2.2 W' → VR ρ' (cstep std Γ ev σ c).2.1 v → K (a.put o.dst v) W') : o.wp P a W K Q := by
  have haop : ∀ ao, comp1 P rf o.op = some ao → c = .aop ao → o.wp P a W K Q := by
    intro ao h1 h2
    subst h2
    obtain ⟨n, W', ρ', hrun, h3, h4, h5⟩ := step_sound h1 hev hr hok
    unfold Oper.wp
    rw [hrun]
    rcases h5 with ⟨v, rfl, h5⟩ | ⟨rfl, h5⟩
    · rw [Oper.upon_value]; exact hK v W' ρ' h3 h4 h5
    · rw [Oper.upon_skip]; exact hK undef W' ρ' h3 h4 h5
  generalize hop : o.op = op at hc haop
  unfold copOf at hc
  split at hc
  · rename_i f args ats
    cases hc
    simp only [cstep] at hok hK
    have hf := hev f
    cases hcv : ev (rf f) <;> rw [hcv] at hok hK hf <;> try (cases hok; done)
    rename_i fn first cap
    cases fn <;> try (cases hok; done)
    rename_i g
    unfold VR at hf
    obtain ⟨us, vs, hv, hus, hvs⟩ := hf
    obtain ⟨⟨fn, hfn, hbody, hname⟩, hcall⟩ := hΓ _ _ _ hok
    have hargs : VRs ρ (first ++ ((args.toList.map rf).map ev ++ cap)) (us ++ ((args.toList.map a.eval) ++ vs)) := hus.append ((vrs_map hev _).append hvs)
    have hcall := hcall ρ W _ hG hr hargs
    unfold Oper.wp
    obtain ⟨body, hbn⟩ := Option.isSome_iff_exists.1 hbody
    have hname' : ¬ fn.name = "runtime.NumGoroutine" := by simpa using hname
    have hrun : (execOp a.eval o).run P W = .ok (.enter g (us ++ (args.toList.map a.eval ++ vs)).toArray) W := by
      have e1 : (us ++ (args.toList.map a.eval ++ vs)).toArray = us.toArray ++ args.map a.eval ++ vs.toArray := by
        apply Array.ext'; simp
      rw [e1]
      simp [execOp, hop, resolve, hv, Deferred.ofValue, invoke, callFunc, hfn, hbn, hname']
    rw [hrun, Oper.upon_enter]
    refine hcall.mono fun e W' ⟨v, ρ', he, h1, h2, h3⟩ => ?_
    subst he
    exact hK v W' ρ' h1 h2 h3
  · split at hc
    · rename_i ao hao
      cases hc
      exact haop ao hao rfl
    · cases hc
theorem row_sound {G : Nat} {Γ : Gam} (hΓ : GamOk P G Γ) (hG : ∀ g, g < G → ∃ s, ρ g = some (g, (0, s))) {nt : Nat} {ops : Array Oper} {o : Oper} {r : CRow} {a : Act} {rf : Operand → Ref} {ev : Ref → AV} (hc : rowOf P nt rf ops o = some r) (hev : ∀ x, VR ρ (ev (rf x)) (a.eval x)) (hr : HR ρ σ W)
    (hok : (gstep std Γ ev σ r).1 = true) {K : Act → World → Prop} {Q : Exit → Act → World → Prop}
    (hK : ∀ v W' ρ', HR ρ' (gstep std Γ ev σ r).2.2 W' → Stp σ.next ρ σ W ρ' (gstep std Γ ev σ r).2.2 W' → VR ρ' (gstep std Γ ev σ r).2.1 v → K (a.put o.dst v) W') :
    if Region.wanted o (yielded ops a.tmps) = true then o.wp P a W K Q ∨ (o.asks P a W ∧ LetsOut Q) else K (a.put o.dst undef) W := by
  obtain ⟨hg, hcop, _, _⟩ := rowOf_spec hc
  unfold gstep at hok hK
  unfold guardOf at hg
  have hskip : ∀ K' : Prop, (VR ρ (.tup []) undef → K') → K' := fun K' h => h (by unfold VR; exact ⟨[], rfl, rfl⟩)
  cases hgo : o.guard with
  | none =>
    rw [hgo] at hg
    simp only [Option.some.injEq] at hg
    rw [← hg] at hok hK
    rw [if_pos (by simp [Region.wanted, hgo])]
    exact .inl (cop_sound hΓ hG hcop hev hr hok hK)
  | some jw =>
    obtain ⟨j, want⟩ := jw
    rw [hgo] at hg
    simp only at hg
    split at hg
    · rename_i d hd
      simp only [Option.some.injEq] at hg
      rw [← hg] at hok hK
      have hv := hev (.tmp d)
      simp only at hok hK
      cases hcv : ev (rf (.tmp d)) <;> rw [hcv] at hok hK hv <;> try (cases hok; done)
      · rename_i b
        unfold VR at hv
        have hy : yielded ops a.tmps j = some b := by
          unfold yielded
          rw [hd]
          simp only [Option.bind_some]
          simp only [Act.eval] at hv
          rw [Array.getD_eq_getD_getElem?] at hv
          cases ht : a.tmps[d]? with
          | none => rw [ht] at hv; cases hv
          | some x => rw [ht] at hv; simp only [Option.getD_some] at hv; rw [hv]
        have hw : Region.wanted o (yielded ops a.tmps) = (b == want) := by
          unfold Region.wanted; rw [hgo]; simp only; rw [hy]; cases b <;> cases want <;> rfl
        rw [hw]
        cases hbw : b == want <;> simp only [hbw, cond_true, cond_false] at hok hK
        · rw [if_neg (by simp)]
          exact hskip _ fun h => hK undef W ρ hr (Stp.refl (Nat.le_refl _)) h
        · rw [if_pos rfl]
          exact .inl (cop_sound hΓ hG hcop hev hr hok hK)
      · rename_i l
        unfold VR at hv
        obtain ⟨us, hv, _⟩ := hv
        have hy : yielded ops a.tmps j = none := by
          unfold yielded
          rw [hd]
          simp only [Option.bind_some]
          simp only [Act.eval] at hv
          rw [Array.getD_eq_getD_getElem?] at hv
          cases ht : a.tmps[d]? with
          | none => rfl
          | some x => rw [ht] at hv; simp only [Option.getD_some] at hv; rw [hv]
        have hw : Region.wanted o (yielded ops a.tmps) = false := by
          unfold Region.wanted; rw [hgo]; simp only; rw [hy]; rfl
        rw [hw, if_neg (by simp)]
        exact hskip _ fun h => hK undef W ρ hr (Stp.refl (Nat.le_refl _)) h
    · cases hg
end
/-- The slots of a frame, as abstract ones say them; the package-level variables where they are. -/
structure ER (G nt : Nat) (ρ : Ren) (env : T AV) (a : Act) : Prop where
  small : nt ≤ 1048576
  size : a.tmps.size = nt
  glob : ∀ g, g < G → ∃ s, ρ g = some (g, (0, s))
  at_ : ∀ t v, env.get t = some v → VR ρ v (a.tmps.getD t undef)
noncomputable def evS (env : T AV) : Ref → AV
  | .op _ => .top
  | .slot t => match env.get t with
    | some v => v
    | none => .top
  | .lit v => v
def rfS (G : Nat) : Operand → Ref
  | .tmp t => .slot t
  | .const v => .lit (ofVal v)
  | .global g => .lit (bif Nat.blt g G then .ptr g 0 else .top)
  | .func f => .lit (.fn (.func f) [] [])
noncomputable def putD (env : T AV) (d : Option Nat) (v : AV) : T AV := match d with
  | some d => env.put d v
  | none => env
theorem ER.ev {G nt : Nat} {ρ : Ren} {env : T AV} {a : Act} (h : ER G nt ρ env a) (x : Operand) : VR ρ (evS env (rfS G x)) (a.eval x) := by
  cases x with
  | tmp t =>
    simp only [rfS, evS, Act.eval]
    cases ht : env.get t with
    | none => trivial
    | some v => exact h.at_ t v ht
  | const v => exact vr_ofVal ρ v
  | global g =>
    simp only [rfS, evS]
    cases hg : Nat.blt g G
    · trivial
    · rw [Nat.blt_eq] at hg
      show VR ρ (.ptr g 0) _
      obtain ⟨s, hs⟩ := h.glob g hg; unfold VR; exact ⟨g, _, hs, rfl⟩
  | func f => simp only [rfS, evS]; unfold VR; exact ⟨[], [], rfl, rfl, rfl⟩
theorem ER.sub {G nt : Nat} {ρ ρ' : Ren} {env : T AV} {a : Act} (h : ER G nt ρ env a) (hs : Sub ρ ρ') : ER G nt ρ' env a :=
  ⟨h.small, h.size, fun g hg => let ⟨s, h'⟩ := h.glob g hg; ⟨s, hs _ _ h'⟩, fun t v ht => (h.at_ t v ht).mono hs⟩
theorem ER.put {G nt : Nat} {ρ : Ren} {env : T AV} {a : Act} (h : ER G nt ρ env a) {d : Option Nat} (hd : ∀ t, d = some t → t < nt) {v : AV} {u : Value} (hv : VR ρ v u) : ER G nt ρ (putD env d v) (a.put d u) := by
  cases d with
  | none => exact h
  | some d =>
    have hdn := hd d rfl
    have hs := h.small
    refine ⟨h.small, by simp [Act.put, h.size], h.glob, fun t x ht => ?_⟩
    simp only [putD, T.get_put _ _ _ _ (by omega : d < 1048576)] at ht
    simp only [Act.put, Array.getD_eq_getD_getElem?]
    by_cases htd : t = d
    · subst htd
      rw [if_pos rfl] at ht; cases ht
      simp [h.size, hdn, hv]
    · rw [if_neg htd] at ht
      rw [Array.getElem?_setIfInBounds_ne (Ne.symm htd), ← Array.getD_eq_getD_getElem?]
      exact h.at_ t x ht
/-- A row of operations, one behind the other. -/
noncomputable def evP (A : Ar) (Γ : Gam) : List CRow → T AV → AH → Bool × T AV × AH
  | [], env, σ => (true, env, σ)
  | r :: l, env, σ => match gstep A Γ (evS env) σ r with
    | (ok, v, σ') => match evP A Γ l (putD env r.dst v) σ' with
      | (ok', x) => (ok && ok', x)
def rowsOf (P : Program) (nt : Nat) (rf : Operand → Ref) (ops : Array Oper) : List Oper → Option (List CRow)
  | [] => some []
  | o :: l => match rowOf P nt rf ops o with
    | none => none
    | some r => match rowsOf P nt rf ops l with
      | none => none
      | some rs => some (r :: rs)
theorem plain_sound {P : Program} {Γ : Gam} {G nt : Nat} (hΓ : GamOk P G Γ) {ops : Array Oper} {Q : Exit → Act → World → Prop} : ∀ (l : List Oper) (rows : List CRow) (i : Nat), rowsOf P nt (rfS G) ops l = some rows → (∀ j, ops[i + j]? = l[j]?) →
    ∀ {ρ : Ren} {σ : AH} {W : World} {env : T AV} {a : Act}, HR ρ σ W → ER G nt ρ env a → (evP std Γ rows env σ).1 = true →
    (∀ ρ' a' W', HR ρ' (evP std Γ rows env σ).2.2 W' → ER G nt ρ' (evP std Γ rows env σ).2.1 a' → Stp σ.next ρ σ W ρ' (evP std Γ rows env σ).2.2 W' → a'.defers = a.defers → Q .normal a' W') →
    wpOps P ops Q (List.range' i l.length) a W := by
  intro l
  induction l with
  | nil =>
    intro rows i hrows _ ρ σ W env a hr he _ hQ
    cases hrows
    exact hQ ρ a W hr he (Stp.refl (Nat.le_refl _)) rfl
  | cons o l ih =>
    intro rows i hrows hops ρ σ W env a hr he hok hQ
    unfold rowsOf at hrows
    split at hrows
    · cases hrows
    · rename_i r hro
      split at hrows
      · cases hrows
      · rename_i rs hrs
        cases hrows
        have h0 := hops 0
        simp only [Nat.add_zero, List.getElem?_cons_zero] at h0
        rw [List.length_cons, List.range'_succ, wpOps_cons]
        unfold wpOp
        simp only [h0]
        unfold evP at hok hQ
        generalize hg : gstep std Γ (evS env) σ r = g at hok hQ
        obtain ⟨ok, v, σ'⟩ := g
        simp only at hok hQ
        generalize hrest : evP std Γ rs (putD env r.dst v) σ' = rest at hok hQ
        obtain ⟨ok', env', σ''⟩ := rest
        simp only [Bool.and_eq_true] at hok hQ
        obtain ⟨_, _, hdst, hdlt⟩ := rowOf_spec hro
        refine row_sound hΓ he.glob hro (fun x => he.ev x) hr (by rw [hg]; exact hok.1) fun u W' ρ' h1 h2 h3 => ?_
        rw [hg] at h1 h2 h3
        simp only at h1 h2 h3
        have he' : ER G nt ρ' (putD env r.dst v) (a.put o.dst u) := by
          rw [hdst]; exact (he.sub (h2.sub hr)).put hdlt h3
        refine ih rs (i + 1) hrs (fun j => by have := hops (j + 1); rw [show i + 1 + j = i + (j + 1) by omega]; simpa using this) h1 he' (by rw [hrest]; exact hok.2) fun ρ'' a' W'' k1 k2 k3 k4 => ?_
        rw [hrest] at k1 k2 k3
        refine hQ ρ'' a' W'' k1 k2 (h2.trans k3 h2.next) ?_
        rw [k4]; cases o.dst <;> rfl
end Go.Proofs.YtjkicmlelilcaaaDoor
