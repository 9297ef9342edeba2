/- Part 9 of the proof: texts of the proof. -/
import Derived.Test.YtfdfdagbeeeomaaDoorQL8
import Derived.WalkSpells
import Derived.WalkLawsBesides
import Derived.Deep.QuietTactic
import Derived.BigQuiet
import Derived.Lib.Hide
import Derived.Deep.RegionHeld3
import Derived.Deep.RegionLaw
import Derived.Laws.CopyOwn
import Derived.Lib.AppendZeros
import Derived.RangeFuncBox
import Derived.RangeFuncLeaves
import Derived.OwnWalkIn
import Derived.TacticsInMore
import Derived.LoopNIn
import Derived.LoopIn
import Derived.RangeFuncWrites
import Derived.Lib.AppendZerosOnto
import Derived.Shelf.Abstract
import Derived.RangeFuncCalls
import Derived.Lib.Overlaps
import Derived.Deep.MidRow
import Derived.StillTailTactics
namespace Go.Proofs.YtfdfdagbeeeomaaDoor.V2.S
open Go
set_option maxRecDepth 100000
set_option maxHeartbeats 4000000
set_option linter.unusedVariables false
attribute [local irreducible] fN fO nM gM pM Phi.fn mp bl At Bx Ce Ac
def Hf (H:HF) (K:IntKind) (C w N:Nat) (f:Nat → Bs):Prop:=∀ {wb n:Nat} {m:T FObj} {bs:Bs} {a:Nat},WrA m n wb bs → a < w → bs.length + N ≤ 900000 → RetN C wb H [.p wb 0,.n K a] n m (fun r n' m'=>r=.p wb 0 ∧ WrA m' n' wb (bs ++ f a))
theorem two_s {O:Oz} (hO:O=zO) (Φ:Phi) (HB:Ll (Phi.fn Φ 26)):Hf (p59 O Φ) .u16 2 65536 2 D2:=fun {wb n m bs a} hW ha hl k P hn hf=>by
 have hwb:=hW.1
 conv=>lhs;whnf
 ((refine hrA hO (by kernel_rfl) ?_))
 conv=>lhs;whnf
 ((refine cv8 hO ?_))
 conv=>lhs;whnf
 ((refine cv8 hO ?_))
 conv=>lhs;whnf
 ((refine bs2 hO (by omega) (by omega) (by omega) ?_))
 conv=>lhs;whnf
 (refine HB (bs:=bs) (x:=D2 a) ((hW.kp (by exact Kq.kp (Kq.ml kr))).up (by omega)) (Sl.own (x:=D2 a) (K:=2) (by exact asm) (by omega) (Nat.le_refl 2)) (fun h=>absurd h (twoB_ne a)) (by rw [Bc];omega) _ _ (by omega) (fun v1 n1 m1 h1 g1 k1 q1=>?_);obtain ⟨rfl,w1⟩:=q1)
 conv=>lhs;whnf
 exact hf _ _ _ (by omega) (by omega) (by exact Kq.kp (Kq.tp (Kq.ml kr) k1)) ⟨rfl,w1⟩
theorem four_s {O:Oz} (hO:O=zO) (Φ:Phi) (H:Hf (Phi.fn Φ 59) .u16 2 65536 2 D2):Hf (p39 O Φ) .u32 4 4294967296 4 Ak:=fun {wb n m bs a} hW ha hl k P hn hf=>by
 have hwb:=hW.1
 have hl1:(bs ++ D2 (a / 65536 % 65536)).length=bs.length + 2:=by rw [List.length_append,Bc]
 conv=>lhs;whnf
 ((refine hrB hO (by kernel_rfl) ?_))
 conv=>lhs;whnf
 ((refine cv16 hO ?_))
 conv=>lhs;whnf
 (refine H (a:=a / 65536 % 65536) hW (by omega) (by omega) _ _ (by omega) (fun v1 n1 m1 h1 g1 k1 q1=>?_);obtain ⟨rfl,w1⟩:=q1)
 conv=>lhs;whnf
 ((refine cv16 hO ?_))
 conv=>lhs;whnf
 (refine H (a:=a % 65536) w1 (by omega) (by omega) _ _ (by omega) (fun v2 n2 m2 h2 g2 k2 q2=>?_);obtain ⟨rfl,w2⟩:=q2)
 conv=>lhs;whnf
 exact hf _ _ _ (by omega) (by omega) (by exact Kq.kp (Kq.tp (Kq.dp k1) k2)) ⟨rfl,w2.to (by rw [List.append_assoc];rfl)⟩
theorem eight_s {O:Oz} (hO:O=zO) (Φ:Phi) (H:Hf (Phi.fn Φ 39) .u32 4 4294967296 4 Ak):Hf (p25 O Φ) .u64 8 18446744073709551616 8 Ae:=fun {wb n m bs a} hW ha hl k P hn hf=>by
 have hwb:=hW.1
 have hl1:(bs ++ Ak (a / 4294967296 % 4294967296)).length=bs.length + 4:=by rw [List.length_append,Ai]
 conv=>lhs;whnf
 ((refine hrC hO (by kernel_rfl) ?_))
 conv=>lhs;whnf
 ((refine cv32 hO ?_))
 conv=>lhs;whnf
 (refine H (a:=a / 4294967296 % 4294967296) hW (by omega) (by omega) _ _ (by omega) (fun v1 n1 m1 h1 g1 k1 q1=>?_);obtain ⟨rfl,w1⟩:=q1)
 conv=>lhs;whnf
 ((refine cv32 hO ?_))
 conv=>lhs;whnf
 (refine H (a:=a % 4294967296) w1 (by omega) (by omega) _ _ (by omega) (fun v2 n2 m2 h2 g2 k2 q2=>?_);obtain ⟨rfl,w2⟩:=q2)
 conv=>lhs;whnf
 exact hf _ _ _ (by omega) (by omega) (by exact Kq.kp (Kq.tp (Kq.dp k1) k2)) ⟨rfl,w2.to (by rw [List.append_assoc];rfl)⟩
def LayT (H:HF):Prop:=∀ {wb n:Nat} {m:T FObj} {bs s:Bs},WrA m n wb bs → s.length ≤ 65535 → bs.length + 2 + s.length ≤ 900000 → RetN 5 wb H [.p wb 0,.s (Ac s)] n m (fun r n' m'=>r=.p wb 0 ∧ WrA m' n' wb (bs ++ D3 s))
theorem text_s {O:Oz} (hO:O=zO) (Φ:Phi) (HB:Ll (Phi.fn Φ 26)) (H:Hf (Phi.fn Φ 59) .u16 2 65536 2 D2):LayT (p75 O Φ):=fun {wb n m bs s} hW hs hl k P hn hf=>by
 have hwb:=hW.1
 have hl1:(bs ++ D2 s.length).length=bs.length + 2:=by rw [List.length_append,Bc]
 conv=>lhs;whnf
 (refine HB (bs:=bs) (x:=[]) hW Sl.nil (fun _=>.inl rfl) (by rw [List.length_nil];omega) _ _ (by omega) (fun v1 n1 m1 h1 g1 k1 q1=>?_);obtain ⟨rfl,w1⟩:=q1;rw [List.append_nil] at w1)
 conv=>lhs;whnf
 (refine lsS hO ?_;simp only [List.length_cons,List.length_nil,Nat.zero_add])
 conv=>lhs;whnf
 refine gtF hO hs ?_
 conv=>lhs;whnf
 (refine lsS hO ?_;simp only [List.length_cons,List.length_nil,Nat.zero_add])
 conv=>lhs;whnf
 ((refine cv16 hO ?_))
 conv=>lhs;whnf
 (rw [Nat.mod_eq_of_lt (show s.length < 65536 by omega)];refine H (a:=s.length) w1 (by omega) (by omega) _ _ (by omega) (fun v2 n2 m2 h2 g2 k2 q2=>?_);obtain ⟨rfl,w2⟩:=q2)
 conv=>lhs;whnf
 refine sBS hO (by omega) ?_
 conv=>lhs;whnf
 (refine HB (x:=s) ((w2.kp (by exact Kq.kp (Kq.ml kr))).up (by omega)) (Sl.own (by exact asm) (by omega) (Nat.le_refl _)) (fun _=>.inr (by intro h;exact twoB_ne _ (List.append_eq_nil_iff.1 h).2)) (by omega) _ _ (by omega) (fun v3 n3 m3 h3 g3 k3 q3=>?_);obtain ⟨rfl,w3⟩:=q3)
 conv=>lhs;whnf
 exact hf _ _ _ (by omega) (by omega) (by exact Kq.kp (Kq.tp (Kq.ml (Kq.tp (Kq.dp k1) k2)) k3)) ⟨rfl,w3.to (by rw [List.append_assoc];rfl)⟩
def F0 (H:HF):Prop:=∀ {n:Nat} {m:T FObj} {v:FV} {x:Bs},Sl m n v x → (x=[] → v=.o .sl) → x.length ≤ 900000 → Dc 2 [] H [v] n m (fun r n' m'=>Cp m' n n' r x)
theorem clone_s {O:Oz} (hO:O=zO) (Φ:Phi):F0 (p29 O Φ):=fun {n m v x} hv hx hl k P hn hf=>by
 rcases hv with ⟨rfl,rfl⟩ | ⟨b,o,L,K,fl,l,el,tl,g1,rfl,g2,g3,g4,rfl⟩
 ·
  conv=>lhs;whnf
  exact hf _ _ _ (by omega) (by omega) (by exact Kq.refl _ _ _) (.inl ⟨rfl,rfl⟩)
 ·have hL:0 < L:=by
   rcases Nat.eq_zero_or_pos L with h | h
   ·subst h;cases hx (List.take_zero)
   ·exact h
  have hdl:=Hn g3
  rw [hdl] at hl
  have hz:(l.drop o).take L ≠ []:=fun h=>by rw [h] at hdl;simp at hdl;omega
  conv=>lhs;whnf
  ((refine bs0 hO (by omega) ?_))
  conv=>lhs;whnf
  refine apZB hO (by exact asm) (by exact an g2) g3 hL (by omega) (by omega) ?_
  conv=>lhs;whnf
  exact hf _ _ _ (by omega) (by omega) (by exact Kq.ml (Kq.ml kr)) (.inr ⟨n + 1,by rw [hdl],by omega,by omega,(by exact asm),hz⟩)
def It (H:HF):Prop:=∀ {wb n:Nat} {m:T FObj} {bs:Bs},WrA m n wb bs → bs ≠ [] → bs.length ≤ 900000 → RetN 3 wb H [.p wb 0] n m (fun r n' m'=>∃ b,r=.tup [.sl b 0 bs.length bs.length false 1,.n .i64 0] ∧ n ≤ b ∧ b < n' ∧ Am m' b (.bs (Ac bs) 5 .more) ∧ WrA m' n' wb bs)
theorem done_s {O:Oz} (hO:O=zO) (Φ:Phi) (HB:Ll (Phi.fn Φ 26)) (H:F0 (Phi.fn Φ 29)):It (p27 O Φ):=fun {wb n m bs} hW hne hl k P hn hf=>by
 have hwb:=hW.1
 conv=>lhs;whnf
 (refine HB (bs:=bs) (x:=[]) hW Sl.nil (fun _=>.inl rfl) (by rw [List.length_nil];omega) _ _ (by omega) (fun v1 n1 m1 h1 g1 k1 q1=>?_);obtain ⟨rfl,w1⟩:=q1;rw [List.append_nil] at w1;obtain ⟨c0,w,c1,c2⟩:=w1;have w1:WrA m1 n1 wb bs:=⟨c0,w,c1,c2⟩;rcases c2 with ⟨c2,_⟩ | ⟨Db,d1,d2,rfl,d3,d4⟩;exact absurd c2 hne)
 conv=>lhs;whnf
 refine fa0 hO ?_
 conv=>lhs;whnf
 refine ldC hO c1 (by rfl) ?_
 conv=>lhs;whnf
 refine neF hO (by omega) ?_
 conv=>lhs;whnf
 refine fa0 hO ?_
 conv=>lhs;whnf
 refine ldC hO c1 (by rfl) ?_
 conv=>lhs;whnf
 (refine H (x:=bs) (Sl.own d3 d2 (Nat.le_refl _)) (fun h=>absurd h hne) hl _ _ (by omega) (fun v2 n2 m2 h2 g2 k2 q2=>?_);have k2p:=Kq.kp k2;obtain ⟨b2,rfl,c1,c2,c3⟩:=q2.ne hne)
 conv=>lhs;whnf
 exact hf _ _ _ (by omega) (by omega) (by exact Kq.kp (Kq.tp (Kq.dp k1) k2p)) ⟨b2,rfl,by omega,by omega,c3,((w1.kp k2p).up h2)⟩
def LayX (H:HF) (K:IntKind) (C w N:Nat) (f:Nat → Bs):Prop:=∀ {wb n:Nat} {m:T FObj} {bs:Bs} {a:Nat},WrA m n wb bs → a < w → bs.length + N ≤ 900000 → RetN C wb H [.p wb 0,.n K a] n m (fun r n' m'=>r=.p wb 0 ∧ WrA m' n' wb (bs ++ f a) ∧ Kx wb n m m')
theorem two_x {O:Oz} (hO:O=zO) (Φ:Phi) (HB:ByteX (Phi.fn Φ 26)):LayX (p59 O Φ) .u16 2 65536 2 D2:=fun {wb n m bs a} hW ha hl k P hn hf=>by
 have hwb:=hW.1
 conv=>lhs;whnf
 ((refine hrA hO (by kernel_rfl) ?_))
 conv=>lhs;whnf
 ((refine cv8 hO ?_))
 conv=>lhs;whnf
 ((refine cv8 hO ?_))
 conv=>lhs;whnf
 ((refine bs2 hO (by omega) (by omega) (by omega) ?_))
 conv=>lhs;whnf
 (refine HB (bs:=bs) (x:=D2 a) ((hW.kp (by exact Kq.kp (Kq.ml kr))).up (by omega)) (Sl.own (x:=D2 a) (K:=2) (by exact asm) (by omega) (Nat.le_refl 2)) (fun h=>absurd h (twoB_ne a)) (by rw [Bc];omega) _ _ (by omega) (fun v1 n1 m1 h1 g1 k1 q1=>?_);obtain ⟨rfl,w1,x1⟩:=q1)
 conv=>lhs;whnf
 exact hf _ _ _ (by omega) (by omega) (by exact Kq.kp (Kq.tp (Kq.ml kr) k1)) ⟨rfl,w1,Kx.trans (Kx.mpN (Kx.refl _ _ _) (by omega) (by omega)) x1 (by omega)⟩
theorem four_x {O:Oz} (hO:O=zO) (Φ:Phi) (H:LayX (Phi.fn Φ 59) .u16 2 65536 2 D2):LayX (p39 O Φ) .u32 4 4294967296 4 Ak:=fun {wb n m bs a} hW ha hl k P hn hf=>by
 have hwb:=hW.1
 have hl1:(bs ++ D2 (a / 65536 % 65536)).length=bs.length + 2:=by rw [List.length_append,Bc]
 conv=>lhs;whnf
 ((refine hrB hO (by kernel_rfl) ?_))
 conv=>lhs;whnf
 ((refine cv16 hO ?_))
 conv=>lhs;whnf
 (refine H (a:=a / 65536 % 65536) hW (by omega) (by omega) _ _ (by omega) (fun v1 n1 m1 h1 g1 k1 q1=>?_);obtain ⟨rfl,w1,x1⟩:=q1)
 conv=>lhs;whnf
 ((refine cv16 hO ?_))
 conv=>lhs;whnf
 (refine H (a:=a % 65536) w1 (by omega) (by omega) _ _ (by omega) (fun v2 n2 m2 h2 g2 k2 q2=>?_);obtain ⟨rfl,w2,x2⟩:=q2)
 conv=>lhs;whnf
 exact hf _ _ _ (by omega) (by omega) (by exact Kq.kp (Kq.tp (Kq.dp k1) k2)) ⟨rfl,w2.to (by rw [List.append_assoc];rfl),x1.trans x2 h1⟩
end Go.Proofs.YtfdfdagbeeeomaaDoor.V2.S
namespace Go.Proofs.YtfdfdagbeeeomaaDoor.V2.S
open Go
set_option maxRecDepth 100000
set_option maxHeartbeats 4000000
set_option linter.unusedVariables false
attribute [local irreducible] fN fO nM gM pM Phi.fn mp bl At Bx Ce Ac
def NewR (H:HF):Prop:=∀ {n:Nat} {m:T FObj} {v:FV} {x:Bs},Sl m n v x → (x=[] → v=.o .sl) → x.length ≤ 900000 → Dc 3 [] H [v] n m (fun r n' m'=>∃ rb,r=.p rb 0 ∧ n ≤ rb ∧ RdB m' n' rb x)
theorem new_r {O:Oz} (hO:O=zO) (Φ:Phi) (H:F0 (Phi.fn Φ 29)):NewR (p32 O Φ):=fun {n m v x} hv hx hl k P hn hf=>by
 conv=>lhs;whnf
 (refine H hv hx hl _ _ (by omega) (fun v1 n1 m1 h1 g1 k1 q1=>?_);have k1p:=Kq.kp k1;rcases q1 with ⟨rfl,rfl⟩ | ⟨b1,rfl,c1,c2,c3,c4⟩)
 ·conv=>lhs;whnf
  refine ubu hO ?_
  conv=>lhs;whnf
  refine bxA hO (by omega) (by rfl) ?_
  conv=>lhs;whnf
  exact hf _ _ _ (by omega) (by omega) (by exact Kq.ml (Kq.dp k1p)) ⟨n1,rfl,by omega,by omega,_,(by exact asm),Sl.nil⟩
 ·conv=>lhs;whnf
  refine ubu hO ?_
  conv=>lhs;whnf
  refine bxA hO (by omega) (by rfl) ?_
  conv=>lhs;whnf
  exact hf _ _ _ (by omega) (by omega) (by exact Kq.ml (Kq.dp k1p)) ⟨n1,rfl,by omega,by omega,_,(by exact asm),Sl.own (by exact an c3) (by omega) (Nat.le_refl _)⟩
def TakeR (H:HF):Prop:=∀ {rb n q:Nat} {m:T FObj} {p y:Bs},RdB m n rb (p ++ y) → p.length=q → (p ++ y).length ≤ 900000 → 0 < q → Dc 2 [rb] H [.p rb 0,.n .i64 q] n m (fun r n' m'=>(∃ b,r=.sl b 0 q q false 1 ∧ n ≤ b ∧ b < n' ∧ Am m' b (.bs (Ac p) 5 .more)) ∧ RdB m' n' rb y)
theorem take_r {O:Oz} (hO:O=zO) (Φ:Phi) (H:F0 (Phi.fn Φ 29)):TakeR (p55 O Φ):=fun {rb n q m p y} hR hq hl h0 k P hn hf=>by
 obtain ⟨hrb,v,ha,hv⟩:=hR
 have hpy:(p ++ y).length=p.length + y.length:=List.length_append
 have hmx:max q 0=q:=by omega
 have hpn:p ≠ []:=fun h=>by rw [h] at hq;simp at hq;omega
 rcases hv with ⟨_,h⟩ | ⟨b,o,L,K,fl,l,el,tl,g1,rfl,g2,g3,g4,g5⟩
 ·exact absurd (List.append_eq_nil_iff.1 h).1 hpn
 ·have hL:L=p.length + y.length:=by rw [← hpy,g5,Hn g3]
  have hne:b ≠ rb:=by rintro rfl;unfold Am at g2 ha;rw [g2] at ha;cases ha
  have e1:p=(l.drop o).take q:=by
   have:=congrArg (List.take q) g5
   rw [List.take_take,show min q L=q by omega] at this
   rw [← this,← hq,List.take_left'];rfl
  have e2:y=(l.drop (o + q * 1)).take (L - q):=by
   have:=congrArg (List.drop q) g5
   rw [List.drop_take,List.drop_drop] at this
   rw [Nat.mul_one,← this,← hq,List.drop_left'];rfl
  conv=>lhs;whnf
  refine mxI hO ?_
  conv=>lhs;whnf
  refine fa0 hO ?_
  conv=>lhs;whnf
  refine ldC hO ha (by rfl) ?_
  conv=>lhs;whnf
  refine fa0 hO ?_
  conv=>lhs;whnf
  refine ldC hO ha (by rfl) ?_
  conv=>lhs;whnf
  refine lvS hO ?_
  conv=>lhs;whnf
  refine gtF hO (by omega) ?_
  conv=>lhs;whnf
  refine fa0 hO ?_
  conv=>lhs;whnf
  refine ldC hO ha (by rfl) ?_
  conv=>lhs;whnf
  refine svH hO (by omega) ?_
  conv=>lhs;whnf
  (rw [hmx];refine H (x:=p) (.inr ⟨b,o,q,K,fl,l,el,tl,by omega,rfl,g2,by omega,by omega,e1⟩) (fun h=>absurd h hpn) (by omega) _ _ hn (fun v1 n1 m1 h1 g1 k1 q1=>?_);have k1p:=Kq.kp k1;obtain ⟨b1,rfl,c1,c2,c3⟩:=q1.ne hpn)
  conv=>lhs;whnf
  refine fa0 hO ?_
  conv=>lhs;whnf
  refine ldC hO (by exact ka k1p ha) (by rfl) ?_
  conv=>lhs;whnf
  refine svL hO (by omega) ?_
  conv=>lhs;whnf
  refine fa0 hO ?_
  conv=>lhs;whnf
  refine stC hO (by exact ka k1p ha) (by kernel_rfl) (fun _ _ _=>rfl) (fun _=>rfl) ?_
  conv=>lhs;whnf
  exact hf _ _ _ h1 g1 (by exact Kq.mr (Kq.dp k1p)) ⟨⟨b1,by rw [hq],by omega,by omega,(by exact an c3)⟩,by omega,_,(by exact asm),.inr ⟨b,o + q * 1,L - q,K - q,fl,l,el,tl,by omega,rfl,(by exact an (ka k1p g2)),by omega,by omega,e2⟩⟩
def NumR (H:HF):Prop:=∀ {rb n q:Nat} {m:T FObj} {p y:Bs},RdB m n rb (p ++ y) → p.length=q → (p ++ y).length ≤ 900000 → 0 < q → q ≤ 8 → Dc 2 [rb] H [.p rb 0,.n .i64 q] n m (fun r n' m'=>r=.n .u64 (beV p) ∧ RdB m' n' rb y)
theorem num_r {O:Oz} (hO:O=zO) (Φ:Phi) (H:TakeR (Phi.fn Φ 55)):NumR (p53 O Φ):=fun {rb n q m p y} hR hq hl h0 h8 k P hn hf=>by
 have hrb:=hR.1
 conv=>lhs;whnf
 (refine H hR hq hl h0 _ _ hn (fun v1 n1 m1 h1 g1 k1 q1=>?_);obtain ⟨⟨b1,rfl,c1,c2,c3⟩,q2⟩:=q1)
 conv=>lhs;whnf
 refine lvS hO ?_
 conv=>lhs;whnf
 (refine lpI hO (fun t e n' m'=>∃ i,i ≤ q ∧ t=q - i ∧ n'=n1 ∧ m'=m1 ∧ e=eof [(4,.n .u64 0),(5,.n .u64 (beV (p.take i))),(12,.n .i64 i)]) (by rintro t e n' m' ⟨i,_,_,rfl,_⟩;omega) ?_ _ q _ _ _ (by omega) ⟨0,by omega,by omega,rfl,rfl,rfl⟩;intro t e n' m' ih hI hih;obtain ⟨i,hi,rfl,rfl,rfl,rfl⟩:=hI;rcases Nat.lt_or_ge i q with hlt | hge;have h56:=beV_56 p (i:=i) (by omega);have hb:=bt_le p i;rotate_left;have hb:=bt_le p i;obtain rfl:i=q:=(by omega);rotate_left)
 ·conv=>lhs;whnf
  refine ltT hO hlt ?_
  conv=>lhs;whnf
  refine ix01 hO hlt ?_
  conv=>lhs;whnf
  refine ldB hO c3 (by omega) ?_
  conv=>lhs;whnf
  ((refine hl64 hO h56 ?_))
  conv=>lhs;whnf
  ((refine cvU (w:=18446744073709551615) hO (by omega) (by kernel_rfl) ?_))
  conv=>lhs;whnf
  ((refine ro64 hO h56 hb ?_))
  conv=>lhs;whnf
  refine adI hO (by omega) ?_
  conv=>lhs;whnf
  exact hih (q - (i + 1)) _ _ _ (by omega) ⟨i + 1,by omega,by omega,rfl,rfl,by rw [beV_take_succ (by omega)];rfl⟩
 ·conv=>lhs;whnf
  refine ltF hO hi ?_
  conv=>lhs;whnf
  (rw [List.take_of_length_le (by omega)];exact hf _ _ _ h1 g1 (by exact Kq.s1 k1) ⟨rfl,q2⟩)
def TwoR (H:HF):Prop:=∀ {rb n:Nat} {m:T FObj} {a:Nat} {y:Bs},RdB m n rb (D2 a ++ y) → a < 65536 → (D2 a ++ y).length ≤ 900000 → Dc 2 [rb] H [.p rb 0] n m (fun r n' m'=>r=.n .u16 a ∧ RdB m' n' rb y)
theorem two_r {O:Oz} (hO:O=zO) (Φ:Phi) (H:NumR (Phi.fn Φ 53)):TwoR (p81 O Φ):=fun {rb n m a y} hR ha hl k P hn hf=>by
 have hrb:=hR.1
 conv=>lhs;whnf
 (refine H (p:=D2 a) (q:=2) hR (by rfl) hl (by omega) (by omega) _ _ hn (fun v1 n1 m1 h1 g1 k1 q1=>?_);obtain ⟨rfl,r1⟩:=q1;rw [beV_two a ha])
 conv=>lhs;whnf
 ((refine cvU (w:=65536 - 1) hO (by omega) (by kernel_rfl) ?_))
 conv=>lhs;whnf
 exact hf _ _ _ h1 g1 (by exact Kq.s1 k1) ⟨rfl,r1⟩
def FourR (H:HF):Prop:=∀ {rb n:Nat} {m:T FObj} {a:Nat} {y:Bs},RdB m n rb (Ak a ++ y) → a < 4294967296 → (Ak a ++ y).length ≤ 900000 → Dc 2 [rb] H [.p rb 0] n m (fun r n' m'=>r=.n .u32 a ∧ RdB m' n' rb y)
theorem four_r {O:Oz} (hO:O=zO) (Φ:Phi) (H:NumR (Phi.fn Φ 53)):FourR (p42 O Φ):=fun {rb n m a y} hR ha hl k P hn hf=>by
 have hrb:=hR.1
 conv=>lhs;whnf
 (refine H (p:=Ak a) (q:=4) hR (by rfl) hl (by omega) (by omega) _ _ hn (fun v1 n1 m1 h1 g1 k1 q1=>?_);obtain ⟨rfl,r1⟩:=q1;rw [beV_four a ha])
 conv=>lhs;whnf
 ((refine cvU (w:=4294967296 - 1) hO (by omega) (by kernel_rfl) ?_))
 conv=>lhs;whnf
 exact hf _ _ _ h1 g1 (by exact Kq.s1 k1) ⟨rfl,r1⟩
def Hs (H:HF):Prop:=∀ {rb n:Nat} {m:T FObj} {a:Nat} {y:Bs},RdB m n rb (Ae a ++ y) → a < 18446744073709551616 → (Ae a ++ y).length ≤ 900000 → Dc 2 [rb] H [.p rb 0] n m (fun r n' m'=>r=.n .u64 a ∧ RdB m' n' rb y)
theorem eight_r {O:Oz} (hO:O=zO) (Φ:Phi) (H:NumR (Phi.fn Φ 53)):Hs (p33 O Φ):=fun {rb n m a y} hR ha hl k P hn hf=>by
 have hrb:=hR.1
 conv=>lhs;whnf
 (refine H (p:=Ae a) (q:=8) hR (by rfl) hl (by omega) (by omega) _ _ hn (fun v1 n1 m1 h1 g1 k1 q1=>?_);obtain ⟨rfl,r1⟩:=q1;rw [beV_eight a ha])
 conv=>lhs;whnf
 exact hf _ _ _ h1 g1 (by exact Kq.s1 k1) ⟨rfl,r1⟩
def ByR (H:HF):Prop:=∀ {rb n:Nat} {m:T FObj} {a:Nat} {y:Bs},RdB m n rb (UInt8.ofNat a :: y) → a < 256 → (UInt8.ofNat a :: y).length ≤ 900000 → Dc 2 [rb] H [.p rb 0] n m (fun r n' m'=>r=.n .u8 a ∧ RdB m' n' rb y)
theorem by_r {O:Oz} (hO:O=zO) (Φ:Phi) (H:NumR (Phi.fn Φ 53)):ByR (p54 O Φ):=fun {rb n m a y} hR ha hl k P hn hf=>by
 have hrb:=hR.1
 conv=>lhs;whnf
 (refine H (p:=[UInt8.ofNat a]) (q:=1) hR (by rfl) hl (by omega) (by omega) _ _ hn (fun v1 n1 m1 h1 g1 k1 q1=>?_);obtain ⟨rfl,r1⟩:=q1;rw [beV_one a ha])
 conv=>lhs;whnf
 ((refine cvU (w:=255) hO (by omega) (by kernel_rfl) ?_))
 conv=>lhs;whnf
 exact hf _ _ _ h1 g1 (by exact Kq.s1 k1) ⟨rfl,r1⟩
def TextR (H:HF):Prop:=∀ {rb n:Nat} {m:T FObj} {s y:Bs},RdB m n rb (D3 s ++ y) → s ≠ [] → s.length ≤ 65535 → (D3 s ++ y).length ≤ 900000 → Dc 4 [rb] H [.p rb 0] n m (fun r n' m'=>r=.s (Ac s) ∧ RdB m' n' rb y)
theorem text_r {O:Oz} (hO:O=zO) (Φ:Phi) (H2:TwoR (Phi.fn Φ 81)) (H:TakeR (Phi.fn Φ 55)):TextR (p69 O Φ):=fun {rb n m s y} hR hs hs2 hl k P hn hf=>by
 have hrb:=hR.1
 have hp:=List.length_pos_iff.2 hs
 have e:D3 s ++ y=D2 s.length ++ (s ++ y):=by unfold D3;rw [List.append_assoc]
 rw [e] at hR hl
 have hl1:(D2 s.length ++ (s ++ y)).length=2 + (s ++ y).length:=by rw [List.length_append,Bc]
 conv=>lhs;whnf
 (refine H2 (a:=s.length) hR (by omega) hl _ _ (by omega) (fun v1 n1 m1 h1 g1 k1 q1=>?_);obtain ⟨rfl,r1⟩:=q1)
 conv=>lhs;whnf
 refine cvI hO (by omega) ?_
 conv=>lhs;whnf
 (refine H (p:=s) r1 rfl (by omega) hp _ _ (by omega) (fun v2 n2 m2 h2 g2 k2 q2=>?_);obtain ⟨⟨b2,rfl,c1,c2,c3⟩,r2⟩:=q2)
 conv=>lhs;whnf
 ((refine bSP hO c3 (by omega) ?_))
 conv=>lhs;whnf
 (rw [tk0 rfl];exact hf _ _ _ (by omega) (by omega) (by exact Kq.tr (Kq.s1 k1) (Kq.s1 k2)) ⟨rfl,r2⟩)
def M9 (H:HF):Prop:=∀ {rb n:Nat} {m:T FObj} {y:Bs},RdB m n rb y → Ms H [.p rb 0] n m (.n .i64 y.length)
theorem left_r {O:Oz} (hO:O=zO) (Φ:Phi):M9 (p43 O Φ):=fun {rb n m y} hR k P hf=>by
 obtain ⟨hrb,v,ha,hv⟩:=hR
 rcases hv with ⟨rfl,rfl⟩ | ⟨b,o,L,K,fl,l,el,tl,g1,rfl,g2,g3,g4,rfl⟩
 ·
  conv=>lhs;whnf
  refine fa0 hO ?_
  conv=>lhs;whnf
  refine ldC hO ha (by rfl) ?_
  conv=>lhs;whnf
  refine lvN hO ?_
  conv=>lhs;whnf
  exact hf
 ·rw [Hn g3] at hf
  conv=>lhs;whnf
  refine fa0 hO ?_
  conv=>lhs;whnf
  refine ldC hO ha (by rfl) ?_
  conv=>lhs;whnf
  refine lvS hO ?_
  conv=>lhs;whnf
  exact hf
def ErrR (H:HF):Prop:=∀ {rb n:Nat} {m:T FObj} {y:Bs},RdB m n rb y → Ms H [.p rb 0] n m (.n .i64 0)
theorem err_r {O:Oz} (hO:O=zO) (Φ:Phi):ErrR (p34 O Φ):=fun {rb n m y} hR k P hf=>by
 obtain ⟨hrb,v,ha,hv⟩:=hR
 conv=>lhs;whnf
 refine fa0 hO ?_
 conv=>lhs;whnf
 refine ldC hO ha (by rfl) ?_
 conv=>lhs;whnf
 exact hf
def RestR (H:HF):Prop:=∀ {rb n:Nat} {m:T FObj} {y:Bs},RdB m n rb y → y ≠ [] → y.length ≤ 900000 → Dc 2 [rb] H [.p rb 0] n m (fun r n' m'=>(∃ b,r=.sl b 0 y.length y.length false 1 ∧ n ≤ b ∧ b < n' ∧ Am m' b (.bs (Ac y) 5 .more)) ∧ RdB m' n' rb [])
theorem rest_r {O:Oz} (hO:O=zO) (Φ:Phi) (HL:M9 (Phi.fn Φ 43)) (H:TakeR (Phi.fn Φ 55)):RestR (p36 O Φ):=fun {rb n m y} hR hy hl k P hn hf=>by
 have hrb:=hR.1
 have hp:=List.length_pos_iff.2 hy
 conv=>lhs;whnf
 (refine HL hR _ _ ?_)
 conv=>lhs;whnf
 (refine H (p:=y) (y:=[]) (hR.to (List.append_nil y).symm) rfl (by rw [List.append_nil];exact hl) hp _ _ hn (fun v1 n1 m1 h1 g1 k1 q1=>?_))
 conv=>lhs;whnf
 exact hf _ _ _ h1 g1 (by exact Kq.s1 k1) q1
def EightG (H:HF):Prop:=∀ {rb n:Nat} {m:T FObj} {p y:Bs},RdB m n rb (p ++ y) → p.length=8 → (p ++ y).length ≤ 900000 → Dc 2 [rb] H [.p rb 0] n m (fun r n' m'=>r=.n .u64 (beV p) ∧ RdB m' n' rb y)
theorem eight_g {O:Oz} (hO:O=zO) (Φ:Phi) (H:NumR (Phi.fn Φ 53)):EightG (p33 O Φ):=fun {rb n m p y} hR ha hl k P hn hf=>by
 have hrb:=hR.1
 conv=>lhs;whnf
 (refine H (p:=p) (q:=8) hR ha hl (by omega) (by omega) _ _ hn (fun v1 n1 m1 h1 g1 k1 q1=>?_);obtain ⟨rfl,r1⟩:=q1)
 conv=>lhs;whnf
 exact hf _ _ _ h1 g1 (by exact Kq.s1 k1) ⟨rfl,r1⟩
end Go.Proofs.YtfdfdagbeeeomaaDoor.V2.S
namespace Go.Proofs.YtfdfdagbeeeomaaDoor
open Go.RowKit
theorem and31 (x:Nat) (h0:0 < x) (h1:x < 32):bits .and .u64 (IntKind.u64.wrap (-(x:Int))) 31=(32:Int) - (x:Int):=by
 have:∀ y:Fin 32,0 < y.val → bits .and .u64 (IntKind.u64.wrap (-(y.val:Int))) 31=(32:Int) - (y.val:Int):=by decide +kernel
 exact this ⟨x,h1⟩ h0
theorem sub32 (x:Nat) (h1:x < 32):IntKind.u64.wrap ((32:Int) - ((32:Int) - (x:Int)))=(x:Int):=by
 have:(32:Int) - ((32:Int) - (x:Int))=(x:Int):=by omega
 rw [this,wrap_u64];omega
set_option maxHeartbeats 400000 in
theorem rot_any (n:UInt32) (x:Nat) (w:World) (h0:0 < x) (h1:x < 32) :
  Calls Tryd.prog 101 #[.int .u32 (N32 n),.int .i64 (-(x:Int))] w fun e w'=>e=.returned (.int .u32 (N32 (ror n x))) ∧ w=w':=by
 have h31:=and31 x h0 h1
 have h32:=sub32 x h1
 have HR:=Lib.hid (ror_eq n x)
 go_enter Tryd.func101,Tryd.ntmps101
 go_wp2
 go_ret
 exact ⟨ret_int HR.out,rfl⟩
theorem q_two {P:Program} {f:FuncId} {args:Array Value} {w:World} {k n:Nat} {v:Value}
  (h:Calls P f args (w.drewN (k + n)) fun e w'=>e=.returned v ∧ w.drewN (k + n)=w'):Calls P f args (w.drewN (k + n)) fun e w''=>e=.returned v ∧ ∃ m,w''=w.drewN (k + m) :=
 h.mono fun _ _ x=>⟨x.1,n,x.2.symm⟩
attribute [local go_sem] D1 E5 Du
set_option maxHeartbeats 400000 in
theorem turn_any (n:UInt32) (x y z:Nat) (w:World) (h0:0 < x) (h1:x < 32) (h2:0 < y) (h3:y < 32) (h4:0 < z) (h5:z < 32) :
  Calls Tryd.prog 98 #[.int .u32 (N32 n),.int .i64 x,.int .i64 y,.int .i64 z] w fun e w'=>e=.returned (.int .u32 (N32 (turnW n x y z))) ∧ w=w':=by
 go_enter Tryd.func98,Tryd.ntmps98
 go_wp2_with (go_at_call 101;refine (rot_any _ _ _ (by omega) (by omega)).mono ?_;rintro e w' ⟨rfl,rfl⟩)
 go_ret
 exact ⟨rfl,rfl⟩
set_option maxHeartbeats 400000 in
theorem slide_any (n:UInt32) (x y z:Nat) (w:World) (h0:0 < x) (h1:x < 32) (h2:0 < y) (h3:y < 32) (h4:0 < z) (h5:z < 32) :
  Calls Tryd.prog 100 #[.int .u32 (N32 n),.int .i64 x,.int .i64 y,.int .i64 z] w fun e w'=>e=.returned (.int .u32 (N32 (slideW n x y z))) ∧ ∃ k,w'=w.drewN k:=by
 have hs:=sror_eq n z
 have hm:min z 32=z:=by omega
 go_enter Tryd.func100,Tryd.ntmps100
 go_wp2
 go_quiet ((go_at_call 101;exact Calls.quiet_of_same ((rot_any _ _ _ (by omega) (by omega)).mono fun _ _ h=>⟨h.1,h.2.symm⟩)))
 go_wp2
 go_ret
 exact ⟨rfl,_,rfl⟩
end Go.Proofs.YtfdfdagbeeeomaaDoor
namespace Go.Proofs.YtfdfdagbeeeomaaDoor
open Go.RowKit
attribute [local go_sem] D1 E5 Du u32_add putB_eq
theorem info119:(Tryd.prog.info? 171).map (·.size)=some 64:=by kernel_rfl
def SchR (bs:List UInt8) (w:World) (i:Value) (wr:World):Prop :=
 ∃ t:Nat,t ≤ 64 ∧ i=.int .i64 t ∧ wr.heap[w.heap.size]?=some (.cells (cw (Av bs t)) 171 (0,0)) ∧ Below w.heap.size w wr
def SchI (bs:List UInt8) (w:World) (t:Nat) (i:Value) (wr:World):Prop :=
 ∃ j:Nat,j ≤ 4 ∧ i=.int .i64 j ∧ wr.heap[w.heap.size]?=some (.cells (cw ((Av bs t).set t (H7 bs t j))) 171 (0,0)) ∧ Below w.heap.size w wr
set_option maxHeartbeats 1000000 in
theorem schedule_any (bb off cap:Nat) (bs:List UInt8) (w:World) (hb:bb < w.heap.size)
  (hc:∀ i,i < 64 → w.cell? ⟨bb,off + i,none⟩=some (.int .u8 (N8 (at8 bs i)))) (hcap:64 ≤ cap) :
  Calls Tryd.prog 97 #[.slice (some ⟨bb,off,none⟩) 64 cap] w fun e w'=>e=.returned (.agg (cw (Av bs 64))) ∧ Below w.heap.size w w':=by
 have HC:=Lib.hid hc
 clear hc
 go_enter Tryd.func97,Tryd.ntmps97
 go_wp2
 go_loopw [6] (SchR bs w) (fun i _=>64 - (intOf i).toNat)
 case atStart=>exact ⟨0,by omega,rfl,Df _ _ _,(Below.refl _ _).alloc (Nat.le_refl _) _⟩
 case round =>
  obtain ⟨t,ht,rfl,hB,hbel⟩:=hrel
  have HB:=Lib.hid hB
  clear hB
  by_cases h64:t < 64
  ·have d64:decide ((t:Int) < 64)=true:=by simp;omega
   by_cases h16:t < 16
   ·have d16:decide ((t:Int) < 16)=true:=by simp;omega
    go_wp2
    obtain ⟨wo,rfl⟩:∃ wo:World,wo=wr:=⟨_,rfl⟩
    go_loopw [19] (SchI bs w t) (fun i _=>4 - (intOf i).toNat)
    case atStart=>exact ⟨0,by omega,rfl,by rw [sch_start bs t h64];exact HB.out,hbel⟩
    case round =>
     obtain ⟨j,hj,rfl,hB2,hbel2⟩:=hrel
     have HB2:=Lib.hid hB2
     clear hB2
     by_cases h4:j < 4
     ·have d4:decide ((j:Int) < 4)=true:=by simp;omega
      have c1:wr.cell? ⟨bb,off + 4 * t + j,none⟩=some (.int .u8 (N8 (at8 bs (4 * t + j)))):=by
       rw [hbel2.cell (p:=⟨bb,off + 4 * t + j,none⟩) hb,Nat.add_assoc];exact HC.out _ (by omega)
      have c2:wr.cell? ⟨w.heap.size,t,none⟩=some (.int .u32 (N32 (H7 bs t j))):=by
       rw [A8 HB2.out t (by simp [A2];omega),at32_set_self (by rw [A2];omega)]
      have c3:wr.frozen? ⟨w.heap.size,t,none⟩=false:=Do HB2.out t
      have n1:=N8_bd (at8 bs (4 * t + j))
      have HS:=Lib.hid (Kz HB2.out t (H7 bs t (j + 1)))
      go_wp2
      go_roundw
      case rel=>exact ⟨j + 1,by omega,by go_num,by rw [H7];rw [H7,List.set_set] at HS;exact HS.out,hbel2.setCell (Nat.le_refl _) _⟩
      case measure=>simp [intOf];omega
     ·have d4:decide ((j:Int) < 4)=false:=by simp;omega
      obtain rfl:j=4:=by omega
      go_wp2
      go_roundw
      case rel=>exact ⟨t + 1,by omega,by go_num,by rw [Av,if_pos h16];exact HB2.out,hbel2⟩
      case measure=>simp [intOf];omega
   ·have d16:decide ((t:Int) < 16)=false:=by simp;omega
    have c16:wr.cell? ⟨w.heap.size,t - 16,none⟩=some (.int .u32 (N32 (at32 (Av bs t) (t - 16)))):=A8 HB.out _ (by rw [A2];omega)
    have c15:wr.cell? ⟨w.heap.size,t - 15,none⟩=some (.int .u32 (N32 (at32 (Av bs t) (t - 15)))):=A8 HB.out _ (by rw [A2];omega)
    have c7:wr.cell? ⟨w.heap.size,t - 7,none⟩=some (.int .u32 (N32 (at32 (Av bs t) (t - 7)))):=A8 HB.out _ (by rw [A2];omega)
    have c2:wr.cell? ⟨w.heap.size,t - 2,none⟩=some (.int .u32 (N32 (at32 (Av bs t) (t - 2)))):=A8 HB.out _ (by rw [A2];omega)
    have c0:wr.cell? ⟨w.heap.size,t,none⟩=some (.int .u32 (N32 (at32 (Av bs t) t))):=A8 HB.out _ (by rw [A2];omega)
    have cf:wr.frozen? ⟨w.heap.size,t,none⟩=false:=Do HB.out t
    have e16:IntKind.i64.wrap ((t:Int) - 16)=(t:Int) - 16:=IntWalk.i64_in _ (by omega)
    have e15:IntKind.i64.wrap ((t:Int) - 15)=(t:Int) - 15:=IntWalk.i64_in _ (by omega)
    have e7:IntKind.i64.wrap ((t:Int) - 7)=(t:Int) - 7:=IntWalk.i64_in _ (by omega)
    have e2:IntKind.i64.wrap ((t:Int) - 2)=(t:Int) - 2:=IntWalk.i64_in _ (by omega)
    have a16:(0:Int) ≤ (t:Int) - 16:=by omega
    have a15:(0:Int) ≤ (t:Int) - 15:=by omega
    have a7:(0:Int) ≤ (t:Int) - 7:=by omega
    have a2:(0:Int) ≤ (t:Int) - 2:=by omega
    have z16:(16:Int) ≤ (t:Int):=by omega
    have z15:(15:Int) ≤ (t:Int):=by omega
    have z7:(7:Int) ≤ (t:Int):=by omega
    have z2:(2:Int) ≤ (t:Int):=by omega
    have z0:(0:Int) ≤ (t:Int):=by omega
    have b0:(t:Int) < 64:=by omega
    have k16:=off_ne (B:=w.heap.size) (i:=t) (j:=t - 16) (by omega)
    have k15:=off_ne (B:=w.heap.size) (i:=t) (j:=t - 15) (by omega)
    have k7:=off_ne (B:=w.heap.size) (i:=t) (j:=t - 7) (by omega)
    have k2:=off_ne (B:=w.heap.size) (i:=t) (j:=t - 2) (by omega)
    have HS:=Lib.hid (Kz HB.out t (nextW (Av bs t) t))
    have b16:(t:Int) - 16 < 64:=by omega
    have b15:(t:Int) - 15 < 64:=by omega
    have b7:(t:Int) - 7 < 64:=by omega
    have b2:(t:Int) - 2 < 64:=by omega
    have t16:((t:Int) - 16).toNat=t - 16:=by omega
    have t15:((t:Int) - 15).toNat=t - 15:=by omega
    have t7:((t:Int) - 7).toNat=t - 7:=by omega
    have t2:((t:Int) - 2).toNat=t - 2:=by omega
    go_wp2
    go_region_held3 (fun w'=>w'.cell? ⟨w.heap.size,t - 16,none⟩=some (.int .u32 (N32 (at32 (Av bs t) (t - 16)))) ∧ w'.cell? ⟨w.heap.size,t - 15,none⟩=some (.int .u32 (N32 (at32 (Av bs t) (t - 15)))) ∧ w'.cell? ⟨w.heap.size,t - 7,none⟩=some (.int .u32 (N32 (at32 (Av bs t) (t - 7)))) ∧ w'.cell? ⟨w.heap.size,t - 2,none⟩=some (.int .u32 (N32 (at32 (Av bs t) (t - 2))))) (go_keep)
     (first | (go_at_call 100;refine (slide_any _ _ _ _ _ (by decide) (by decide) (by decide) (by decide) (by decide) (by decide)).mono ?_;rintro e w' ⟨rfl,k,rfl⟩))
    go_wp2
    go_roundw
    case rel=>exact ⟨t + 1,by omega,by go_num,by rw [Av,if_neg h16];exact HS.out,(below_drewN hbel _).setCell (Nat.le_refl _) _⟩
    case measure=>simp [intOf];omega
  ·have d64:decide ((t:Int) < 64)=false:=by simp;omega
   obtain rfl:t=64:=by omega
   have i119:(Tryd.prog.info? 171).map (·.size)=some (cw (Av bs 64)).size:=by rw [cw_size,A2];exact info119
   have HI:=Lib.hid i119
   clear i119
   go_wp2_with (first | (refine wpList_load_row rfl 171 (.tmp 2) rfl w.heap.size rfl 171 _ (0,0) _ HB.out Tryd.underlying171 rfl HI.out ?_) | (refine wpList_store_row rfl 171 (.tmp 2) (.tmp 57) rfl w.heap.size (cw (Av bs 64)) rfl rfl 171 _ HB.out HI.out rfl (cw_one _) ?_))
   exact bodyPost_ret (v:=.agg (cw (Av bs 64))) (results_cell_row (p:=2) (ty:=171) rfl _ _ w.heap.size 171 _ (0,0) _ rfl (setRow_heap _ _ _ _ _ _ HB.out) Tryd.underlying171 rfl HI.out) rfl ⟨rfl,Cn hbel (Nat.le_refl _) _⟩
end Go.Proofs.YtfdfdagbeeeomaaDoor
namespace Go.Proofs.YtfdfdagbeeeomaaDoor
open Go.RowKit
attribute [local go_sem] D1 E5 Du u32_add Gi
theorem info88:(Tryd.prog.info? 161).map (·.size)=some 8:=by kernel_rfl
theorem info62:(Tryd.prog.info? 32).map (·.size)=some 1:=by kernel_rfl
def GlobK (w:World):Prop:=∀ i,i < 64 → w.cell? ⟨3,i,none⟩=some (.int .u32 (N32 (at32 KK i)))
theorem index_cw (l:List UInt32) (t:Nat) (hl:l.length=64) (ht:t < 64) (w:World) :
  (Instr.index 171 (.agg (cw l)) (.int .i64 (t:Int))).run Tryd.prog w=.ok (.int .u32 (N32 (at32 l t))) w:=by
 have h1:(0:Int) ≤ (t:Int) ∧ (t:Int) < 64:=by omega
 have hi:=info62
 cases hq:Tryd.prog.info? 32 with
 | none=>simp [hq] at hi
 | some i =>
  simp [hq] at hi
  have hc:=cw_at l t (by omega)
  simp [ht,hc,Instr.index,asIntOf,underlying,Tryd.underlying171,part,sizeOf,typeInfo,hq,hi,h1,go_sem]
theorem sum5 (a b c d e:UInt32):(N32 a + N32 b + N32 c + N32 d + N32 e) % 4294967296=N32 (a + b + c + d + e):=by
 unfold N32;simp only [UInt32.toNat_add];omega
theorem sum14 (x a b c d:UInt32):(N32 x + (N32 a + N32 b + N32 c + N32 d)) % 4294967296=N32 (x + (a + b + c + d)):=by
 unfold N32;simp only [UInt32.toNat_add];omega
theorem cp_len {xs:List UInt32} (hl:xs.length=8):(cwl (xs.take 7)).length=7:=by simp [cwl,hl]
theorem cp_pos {w':World} {X:Nat} {xs:List UInt32} (hX:w'.heap[X]?=some (.cells (cw xs) 161 (0,0))) (hl:xs.length=8) :
  0 < (cwl (xs.take 7)).length → (some ⟨X,1,none⟩:Option Addr)=some ⟨X,1,none⟩ ∧ ∃ ad,(some ⟨X,0,none⟩:Option Addr)=some ad ∧ ∀ j v,(cwl (xs.take 7))[j]?=some v → w'.cell? (ad.add j)=some v:=by
 refine fun _=>⟨rfl,_,rfl,fun j v hv=>?_⟩
 have hj:j < 7:=by
  have:=(List.getElem?_eq_some_iff.1 hv).1
  rw [cp_len hl] at this;exact this
 rw [Addr.add_mid,Nat.zero_add,A8 hX j (by omega),← hv]
 simp [cwl,at32,hj,show j < xs.length by omega]
theorem cp_splice {xs:List UInt32} (hl:xs.length=8) :
  splice (cwl xs) 1 (cwl (xs.take 7))=cwl [at32 xs 0,at32 xs 0,at32 xs 1,at32 xs 2,at32 xs 3,at32 xs 4,at32 xs 5,at32 xs 6]:=by
 match xs,hl with
 | [a,b,c,d,e,f,g,h],_=>rfl
def TakR (s:List UInt32) (bs:List UInt8) (w:World) (i:Value) (wr:World):Prop :=
 ∃ t:Nat,t ≤ 64 ∧ i=.int .i64 t ∧ wr.heap[w.heap.size]?=some (.cells (cw (rndTo s (Av bs 64) t)) 161 (0,0)) ∧ Below w.heap.size w wr
def TakS (s x:List UInt32) (sb:Nat) (w:World) (i:Value) (wr:World):Prop :=
 ∃ k:Nat,k ≤ 8 ∧ i=.int .i64 k ∧ wr.heap[w.heap.size]?=some (.cells (cw x) 161 (0,0)) ∧ wr.heap[sb]?=some (.cells (cw (sumTo s x k)) 161 (0,0)) ∧ But sb w wr
set_option maxHeartbeats 1000000 in
set_option maxRecDepth 100000 in
theorem take_any (sb bb off cap:Nat) (s:List UInt32) (bs:List UInt8) (w:World) (hb:bb < w.heap.size) (hsb:sb < w.heap.size) (h8:s.length=8)
  (hs:w.heap[sb]?=some (.cells (cw s) 161 (0,0)))
  (hc:∀ i,i < 64 → w.cell? ⟨bb,off + i,none⟩=some (.int .u8 (N8 (at8 bs i)))) (hcap:64 ≤ cap) (hK:GlobK w) (h3:3 < w.heap.size) :
  Calls Tryd.prog 89 #[.pointer (some ⟨sb,0,none⟩),.slice (some ⟨bb,off,none⟩) 64 cap] w fun e w'=>e=.returned (.tuple #[]) ∧ w'.heap[sb]?=some (.cells (cw (compW s bs)) 161 (0,0)) ∧ But sb w w':=by
 have HC:=Lib.hid hc
 clear hc
 have HSB:=Lib.hid hs
 clear hs
 have HI:Hid ((Tryd.prog.info? 161).map (·.size)=some (cw s).size):=by rw [cw_size,h8];exact info88
 have HN:=Lib.hid (Df w #[.int .u32 0,.int .u32 0,.int .u32 0,.int .u32 0,.int .u32 0,.int .u32 0,.int .u32 0,.int .u32 0] 161)
 have HZ:Hid ((#[.int .u32 0,.int .u32 0,.int .u32 0,.int .u32 0,.int .u32 0,.int .u32 0,.int .u32 0,.int .u32 0]:Array Value).size=(cw s).size):=by rw [cw_size,h8];rfl
 have H8:=Lib.hid h8
 clear h8
 obtain ⟨w1,hw1⟩:∃ w1,w1=(w.alloc (.cells #[.int .u32 0,.int .u32 0,.int .u32 0,.int .u32 0,.int .u32 0,.int .u32 0,.int .u32 0,.int .u32 0] 161)).setRow w.heap.size (cw s):=⟨_,rfl⟩
 have hb1:Below w.heap.size w w1:=by rw [hw1];exact Cn ((Below.refl _ _).alloc (Nat.le_refl _) _) (Nat.le_refl _) _
 have hx1:w1.heap[w.heap.size]?=some (.cells (cw s) 161 (0,0)):=by rw [hw1];exact setRow_heap _ _ _ _ _ _ HN.out
 have hz1:w1.heap.size=w.heap.size + 1:=by rw [hw1];simp
 have HW1:=Lib.hid hw1
 clear hw1
 have HX1:=Lib.hid hx1
 clear hx1
 have HZ1:=Lib.hid hz1
 clear hz1
 go_enter Tryd.func89,Tryd.ntmps89
 go_wp2_with (first | (refine wpList_load_row rfl 161 (.tmp 13) rfl sb rfl 161 _ (0,0) _ HSB.out Tryd.underlying161 rfl HI.out ?_) | (refine wpList_store_row rfl 161 (.tmp 4) (.tmp 14) rfl w.heap.size (cw s) rfl rfl 161 _ HN.out HI.out HZ.out (cw_one _) ?_))
 rw [← HW1.out]
 refine (schedule_any bb off cap bs w1 (by have:=HZ1.out;omega) (fun i hi=>by rw [hb1.cell (p:=⟨bb,off + i,none⟩) hb];exact HC.out i hi) hcap).mono ?_
 rintro e w2 ⟨rfl,hb2⟩
 have hb3:Below w.heap.size w w2:=hb1.trans (hb2.mono (by have:=HZ1.out;omega))
 have HX2:Hid (w2.heap[w.heap.size]?=some (.cells (cw s) 161 (0,0))):=by rw [hb2.block _ (by have:=HZ1.out;omega)];exact HX1.out
 have HK:Hid (GlobK w):=hK
 clear hK hb1 hb2
 go_wp2
 go_loopw [17] (TakR s bs w) (fun i _=>64 - (intOf i).toNat)
 case atStart=>exact ⟨0,by omega,rfl,HX2.out,hb3⟩
 case round =>
  obtain ⟨t,ht,rfl,hX,hbel⟩:=hrel
  have HX:=Lib.hid hX
  clear hX
  by_cases h64:t < 64
  ·have d64:decide ((t:Int) < 64)=true:=by simp;omega
   have hix:∀ w:World,(Instr.index 171 (.agg (cw (Av bs 64))) (.int .i64 (t:Int))).run Tryd.prog w=.ok (.int .u32 (N32 (at32 (Av bs 64) t))) w:=by
    exact index_cw _ _ (A2 _ _) h64
   obtain ⟨xs,hxs⟩:∃ xs,xs=rndTo s (Av bs 64) t:=⟨_,rfl⟩
   have hl:xs.length=8:=by rw [hxs];exact K0 _ _ _ H8.out
   rw [← hxs] at HX
   have HXS:=Lib.hid hxs
   clear hxs
   have c0:=A8 HX.out 0 (by omega)
   have c1:=A8 HX.out 1 (by omega)
   have c2:=A8 HX.out 2 (by omega)
   have c3:=A8 HX.out 3 (by omega)
   have c4:=A8 HX.out 4 (by omega)
   have c5:=A8 HX.out 5 (by omega)
   have c6:=A8 HX.out 6 (by omega)
   have c7:=A8 HX.out 7 (by omega)
   have cK:wr.cell? ⟨3,t,none⟩=some (.int .u32 (N32 (at32 KK t))):=by rw [hbel.cell (p:=⟨3,t,none⟩) h3];exact HK.out t h64
   have HL:=Lib.hid hl
   clear hl
   have z0:(0:Int) ≤ (t:Int):=by omega
   have b0:(t:Int) < 64:=by omega
   go_wp2
   go_quiet (fail)
   go_wp2
   go_quiet ((go_at_call 98;exact q_two (turn_any _ _ _ _ _ (by decide) (by decide) (by decide) (by decide) (by decide) (by decide))))
   go_wp2
   go_quiet ((go_at_call 98;exact q_two (turn_any _ _ _ _ _ (by decide) (by decide) (by decide) (by decide) (by decide) (by decide))))
   go_wp2
   go_region_law (refine step_copy_splice rfl (.tmp 65) (.tmp 66) 174 174 rfl 32 Tryd.underlying174 info62 (some ⟨w.heap.size,1,none⟩) (some ⟨w.heap.size,0,none⟩) 7 7 7 8 rfl rfl w.heap.size 1 (cwl xs) 161 HX.out (cwl (xs.take 7)) (cp_len HL.out) (cp_pos HX.out HL.out) (by rw [cp_len HL.out];simp [cwl,HL.out]) (fun v hv=>(Array.all_eq_true_iff_forall_mem.1 (cw_one (xs.take 7))) v (by simpa [cw] using hv)) w.heap.size w ⟨hbel.os,hbel.tape,hbel.output,hbel.size,hbel.block⟩ (Nat.le_refl _) ?_;intro w4 HG4 hb4)
   rw [cp_splice HL.out] at HG4
   have HG5:Hid (w4.heap[w.heap.size]?=some (.cells (cw [at32 xs 0,at32 xs 0,at32 xs 1,at32 xs 2,at32 xs 3,at32 xs 4,at32 xs 5,at32 xs 6]) 161 (0,0))):=HG4.out
   clear HG4 c0 c1 c2 c3 c4 c5 c6 c7 cK
   have c0:w4.cell? ⟨w.heap.size,0,none⟩=some (.int .u32 (N32 (at32 xs 0))):=A8 HG5.out 0 (by simp)
   have c4:w4.cell? ⟨w.heap.size,4,none⟩=some (.int .u32 (N32 (at32 xs 3))):=A8 HG5.out 4 (by simp)
   have f0:w4.frozen? ⟨w.heap.size,0,none⟩=false:=Do HG5.out 0
   have f4:w4.frozen? ⟨w.heap.size,4,none⟩=false:=Do HG5.out 4
   have HF:=Lib.hid (Kz (Kz HG5.out 0 (oneW xs (at32 KK t) (at32 (Av bs 64) t) + twoW xs)) 4 (at32 xs 3 + oneW xs (at32 KK t) (at32 (Av bs 64) t)))
   go_wp2
   go_roundw
   case rel =>
    rw [sum5,sum14]
    exact ⟨t + 1,by omega,by go_num,by rw [rndTo,← HXS.out];exact HF.out,(hb4.setCell (Nat.le_refl _) _).setCell (Nat.le_refl _) _⟩
   case measure=>simp [intOf];omega
  ·have d64:decide ((t:Int) < 64)=false:=by simp;omega
   obtain rfl:t=64:=by omega
   obtain ⟨xs,hxs⟩:∃ xs,xs=rndTo s (Av bs 64) 64:=⟨_,rfl⟩
   have hl:xs.length=8:=by rw [hxs];exact K0 _ _ _ H8.out
   rw [← hxs] at HX
   have HXS:=Lib.hid hxs
   clear hxs
   have HL:=Lib.hid hl
   clear hl
   have HS0:Hid (wr.heap[sb]?=some (.cells (cw s) 161 (0,0))):=by rw [hbel.block sb hsb];exact HSB.out
   have hbut:But sb w wr:=But.of_below hbel
   obtain ⟨wo,rfl⟩:∃ wo:World,wo=wr:=⟨_,rfl⟩
   go_wp2
   go_loopw [78] (TakS s xs sb w) (fun i _=>8 - (intOf i).toNat)
   case atStart=>exact ⟨0,by omega,rfl,HX.out,HS0.out,hbut⟩
   case round =>
    obtain ⟨k,hk,rfl,hx,hs,hbut2⟩:=hrel
    have HX2:=Lib.hid hx
    have HS2:=Lib.hid hs
    clear hx hs
    by_cases h8:k < 8
    ·have d8:decide ((k:Int) < 8)=true:=by simp;omega
     have z0:(0:Int) ≤ (k:Int):=by omega
     have b0:(k:Int) < 8:=by omega
     have cx:=A8 HX2.out k (by rw [HL.out];exact h8)
     have cs:=A8 HS2.out k (by rw [Ko,H8.out];exact h8)
     have fs:=Do HS2.out k
     have HF:=Lib.hid (Kz HS2.out k (at32 (sumTo s xs k) k + at32 xs k))
     go_wp2
     go_region
     go_wp2
     go_roundw
     case rel =>
      refine ⟨k + 1,by omega,by go_num,?_,HF.out,?_⟩
      ·exact (heap_setCell_other _ _ _ _ (by simp;omega)).trans HX2.out
      ·exact (hbut2.setCell _).drewN (n:=1)
     case measure=>simp [intOf];omega
    ·have d8:decide ((k:Int) < 8)=false:=by simp;omega
     obtain rfl:k=8:=by omega
     go_wp2
     go_end0
     exact ⟨rfl,by rw [compW,← HXS.out];exact HS2.out,hbut2⟩
end Go.Proofs.YtfdfdagbeeeomaaDoor
namespace Go.Proofs.YtfdfdagbeeeomaaDoor
open Go.RowKit
theorem info5:(Tryd.prog.info? 5).map (fun i=>(i.zero,i.size,i.bytes))=some (some (.int .u8 0),1,1):=by kernel_rfl
def Owned (w:World) (n:Nat) (xs:List UInt8) (e:Ending) (w':World):Prop :=
 ∃ v,e=.returned v ∧ w'.ownsRow w.heap.size 5 1 v n (c8l xs) ∧ Below w.heap.size w w'
set_option maxHeartbeats 400000 in
theorem grow_any (n:Nat) (w:World) (h:n ≤ 1000000000000):Calls Tryd.prog 95 #[.slice none 0 0,.int .i64 n] w (Owned w 0 []):=by
 obtain ⟨i0,hi,hz0,hz1,hz2⟩:=info_parts info5
 have HI:=Lib.hid hi
 have HZ:=Lib.hid hz0
 have H1:=Lib.hid hz1
 have H2:=Lib.hid hz2
 clear hi hz0 hz1 hz2
 have d0:decide ((n:Int) < 0)=false:=decide_eq_false (by omega)
 by_cases hn:0 < n
 ·have hr:=Lib.run_append_nil_zeros (P:=Tryd.prog) w 28 3 28 5 i0 (.int .u8 0) .i64 .i64 Tryd.underlying28 Tryd.underlying3 HI.out HZ.out n hn (by rw [H1.out];decide) (by omega) (by rw [H2.out];omega)
  have HR:=Lib.hid hr
  clear hr
  have d1:decide ((0:Int) < (n:Int))=true:=decide_eq_true (by omega)
  go_enter Tryd.func95,Tryd.ntmps95
  go_wp2_with (at_builtin;refine Lib.wpList_append_run w rfl (.tmp 20) (.tmp 21) 28 3 rfl (.slice none 0 0) (.int .i64 n) rfl rfl _ _ HR.out ?_)
  go_ret
  refine ⟨_,rfl,⟨by simp [c8l],.inr ⟨w.heap.size,_,_,rfl,Nat.le_refl _,Df _ _ _,by omega,grownCap_le_maxLen _ _ _ _ (by unfold maxLen;omega),?_,by simp [c8l]⟩⟩,?_⟩
  ·have:=grownCap_ge w n 0 5
   simp [size_zeroCells];omega
  ·exact (Below.refl _ _).drew.alloc (by simp) _
 ·obtain rfl:n=0:=by omega
  go_enter Tryd.func95,Tryd.ntmps95
  go_wp2
  go_ret
  exact ⟨_,rfl,⟨by simp [c8l],.inl ⟨rfl,rfl⟩⟩,Below.refl _ _⟩
def CatR (ps:List (List UInt8)) (s i:Value):Prop:=∃ k:Nat,k ≤ ps.length ∧ i=.int .i64 k ∧ s=.int .i64 (Fx ps k).length
def CatS (ps:List (List UInt8)) (w:World) (v i:Value) (wr:World):Prop :=
 ∃ k:Nat,k ≤ ps.length ∧ i=.int .i64 k ∧ wr.ownsRow w.heap.size 5 1 v (Fx ps k).length (c8l (Fx ps k)) ∧ Below w.heap.size w wr
set_option maxHeartbeats 1000000 in
theorem concat_some (b off c:Nat) (vs:List Value) (ps:List (List UInt8)) (w:World) (hlt:b < w.heap.size) (_hcap:ps.length ≤ c) (hc0:ps.length ≤ 1000000000)
  (hcell:∀ j,j < ps.length → w.cell? ⟨b,off + j,none⟩=some (atV vs j)) (hbs:∀ j,j < ps.length → BSl w (atV vs j) (atP ps j)) (ht:ps.flatten.length ≤ 1000000000000) :
  Calls Tryd.prog 87 #[.slice (some ⟨b,off,none⟩) ps.length c] w (Owned w ps.flatten.length ps.flatten):=by
 obtain ⟨i0,hi,hz0,hz1,hz2⟩:=info_parts info5
 have HI:=Lib.hid hi
 have HZ:=Lib.hid hz0
 have H1:=Lib.hid hz1
 have H2:=Lib.hid hz2
 clear hi hz0 hz1 hz2
 have HC:=Lib.hid hcell
 have HB:=Lib.hid hbs
 clear hcell hbs
 go_enter Tryd.func87,Tryd.ntmps87
 go_wp2
 go_loop [3,11] (CatR ps) (fun _ i=>ps.length - (intOf i).toNat)
 case atStart=>exact ⟨0,by omega,rfl,by simp [Fx]⟩
 case round =>
  obtain ⟨k,hk,rfl,rfl⟩:=hrel
  have hle:=catTo_le ps k
  by_cases hlt2:k < ps.length
  ·have d1:decide ((k:Int) < (ps.length:Int))=true:=decide_eq_true (by omega)
   have hp:=catTo_part ps k hlt2
   obtain ⟨a1,c1,hv⟩:=(HB.out k hlt2).len
   have g1:w.cell? ⟨b,off + k,none⟩=some (.slice a1 (atP ps k).length c1):=by rw [← hv];exact HC.out k hlt2
   clear hv
   have d2:decide (((Fx ps k).length:Int) + ((atP ps k).length:Int) < 0)=false:=decide_eq_false (by omega)
   have HS:=Lib.hid (Kf ps k hlt2)
   go_wp2
   go_round
   case rel=>exact ⟨k + 1,by omega,by go_num,by rw [HS.out,List.length_append];go_num⟩
   case measure=>simp [intOf];omega
  ·have d1:decide ((k:Int) < (ps.length:Int))=false:=decide_eq_false (by omega)
   obtain rfl:k=ps.length:=by omega
   go_wp2_with fail
   refine (grow_any (Fx ps ps.length).length w (by omega)).mono ?_
   rintro e w1 ⟨v,rfl,hown,hb1⟩
   go_wp2
   go_loopw [6,27] (CatS ps w) (fun _ i _=>ps.length - (intOf i).toNat)
   case atStart=>exact ⟨0,by omega,rfl,by simpa [Fx] using hown,hb1⟩
   case round =>
    obtain ⟨k,hk,rfl,hown2,hb2⟩:=hrel
    have hle2:=catTo_le ps k
    by_cases hlt2:k < ps.length
    ·have d3:decide ((k:Int) < (ps.length:Int))=true:=decide_eq_true (by omega)
     have hp:=catTo_part ps k hlt2
     have HS:=Lib.hid (Kf ps k hlt2)
     have g0:wr.cell? ⟨b,off + k,none⟩=some (atV vs k):=(hb2.cell (p:=⟨b,off + k,none⟩) hlt).trans (HC.out k hlt2)
     have hz:=hb2.size
     rcases (HB.out k hlt2).below hb2 (Nat.le_refl _) with ⟨hv,hn⟩ | ⟨b1,o1,c1,hv,hc1,hl1,hx1⟩ | ⟨a1,hv,hn⟩
     ·rw [hv] at g0
      have HN:=Lib.hid hn
      clear hv hn
      go_wp2_with (at_builtin;refine wpList_append_own_none rfl (.tmp 31) (.tmp 32) 28 rfl w.heap.size 5 i0 1 Tryd.underlying28 HI.out _ _ _ rfl hown2 rfl ?_)
      go_roundw
      case rel=>exact ⟨k + 1,by omega,by go_num,by rw [HS.out,HN.out,List.append_nil];exact hown2,hb2⟩
      case measure=>simp [intOf];omega
     ·rw [hv] at g0
      have HX1:=Lib.hid hx1
      clear hv hx1
      go_wp2_with (at_builtin;refine wpList_append_own _ rfl (.tmp 31) (.tmp 32) 28 rfl w.heap.size 5 i0 (.int .u8 0) 1 1 Tryd.underlying28 HI.out HZ.out H1.out H2.out rfl (by decide) _ _ _ rfl hown2 ⟨b1,o1,none⟩ (atP ps k).length c1 (c8l (atP ps k)) rfl (by rw [A6];omega) (news_of HX1.out) (Hq _) (by unfold maxLen;omega) (by omega) hz ?_)
      intro v' w2 hown3 hg3 _
      have hb3:=hb2.grown hg3 hz (fun g hg=>Cz hown2 hg)
      go_wp2
      go_roundw
      case rel=>exact ⟨k + 1,by omega,by go_num,by rw [HS.out,List.length_append,Eh];exact hown3,hb3⟩
      case measure=>simp [intOf];omega
     ·rw [hv] at g0
      have HN:=Lib.hid hn
      clear hv hn
      go_wp2_with (at_builtin;refine wpList_append_own _ rfl (.tmp 31) (.tmp 32) 28 rfl w.heap.size 5 i0 (.int .u8 0) 1 1 Tryd.underlying28 HI.out HZ.out H1.out H2.out rfl (by decide) _ _ _ rfl hown2 a1 0 0 [] rfl rfl (fun j u hu=>by simp at hu) (fun u hu=>by simp at hu) (by unfold maxLen;omega) (by omega) hz ?_)
      intro v' w2 hown3 hg3 _
      have hb3:=hb2.grown hg3 hz (fun g hg=>Cz hown2 hg)
      go_wp2
      go_roundw
      case rel=>exact ⟨k + 1,by omega,by go_num,by rw [HS.out,HN.out,List.append_nil];exact hown3,hb3⟩
      case measure=>simp [intOf];omega
    ·have d3:decide ((k:Int) < (ps.length:Int))=false:=decide_eq_false (by omega)
     obtain rfl:k=ps.length:=by omega
     go_wp2
     go_ret
     exact ⟨_,rfl,by rw [← catTo_all];exact hown2,hb2⟩
set_option maxHeartbeats 400000 in
theorem concat_nil (w:World):Calls Tryd.prog 87 #[.slice none 0 0] w (Owned w 0 []):=by
 go_enter Tryd.func87,Tryd.ntmps87
 go_wp2
 go_loop [3,11] (fun s i=>s=.int .i64 0 ∧ i=.int .i64 0) (fun _ _=>0)
 case atStart=>exact ⟨rfl,rfl⟩
 case round =>
  obtain ⟨rfl,rfl⟩:=hrel
  go_wp2_with fail
  refine (grow_any 0 w (by omega)).mono ?_
  rintro e w1 ⟨v,rfl,hown,hb1⟩
  go_wp2
  go_loopw [6,27] (fun v i wr=>i=.int .i64 0 ∧ wr.ownsRow w.heap.size 5 1 v 0 (c8l []) ∧ Below w.heap.size w wr) (fun _ _ _=>0)
  case atStart=>exact ⟨rfl,hown,hb1⟩
  case round =>
   obtain ⟨rfl,hown2,hb2⟩:=hrel
   go_wp2
   go_ret
   exact ⟨_,rfl,hown2,hb2⟩
theorem concat_any (pv:Value) (vs:List Value) (ps:List (List UInt8)) (w:World) (h:PSl w pv vs ps) (hc0:ps.length ≤ 1000000000) (ht:ps.flatten.length ≤ 1000000000000) :
  Calls Tryd.prog 87 #[pv] w (Owned w ps.flatten.length ps.flatten):=by
 rcases h.lies with ⟨rfl,rfl⟩ | ⟨b,off,c,rfl,hc,hlt,hcell⟩
 ·exact concat_nil w
 ·exact concat_some b off c vs ps w hlt hc hc0 hcell h.each ht
end Go.Proofs.YtfdfdagbeeeomaaDoor
namespace Go.Proofs.YtfdfdagbeeeomaaDoor
open Go.RowKit
set_option maxHeartbeats 400000 in
theorem chunk_any (a:Option Addr) (n c:Nat) (w:World) :
  Calls Tryd.prog 88 #[.slice a n c,.int .i64 64] w fun e w'=>e=.returned (.func (.func 96) #[] #[.pointer (some ⟨w.heap.size,0,none⟩),.pointer (some ⟨w.heap.size + 1,0,none⟩)]) ∧ (w.alloc (.cells #[.slice a n c] 28)).alloc (.cells #[.int .i64 64] 3)=w':=by
 go_enter Tryd.func88,Tryd.ntmps88
 go_wp2
 go_ret
 exact ⟨rfl,rfl⟩
attribute [local go_sem] Oper.semAt_some
def Mn (g:Nat) (k:Nat):Value:=.slice (some ⟨g,64 * k,none⟩) 64 64
def KB (Bs:Nat) (W W':World):Prop:=W'.heap[Bs]?=W.heap[Bs]? ∧ W'.heap[Bs + 1]?=W.heap[Bs + 1]?
theorem KB.refl (Bs:Nat) (W:World):KB Bs W W:=⟨rfl,rfl⟩
theorem KB.trans {Bs:Nat} {A B C:World} (h:KB Bs A B) (k:KB Bs B C):KB Bs A C:=⟨k.1.trans h.1,k.2.trans h.2⟩
theorem KB.drewN {Bs n:Nat} {A B:World} (h:KB Bs A B):KB Bs A (B.drewN n):=h
theorem KB.c0 {Bs:Nat} {A B:World} (h:KB Bs A B):B.cell? ⟨Bs,0,none⟩=A.cell? ⟨Bs,0,none⟩:=World.cell?_of_block h.1
theorem KB.c1 {Bs:Nat} {A B:World} (h:KB Bs A B):B.cell? ⟨Bs + 1,0,none⟩=A.cell? ⟨Bs + 1,0,none⟩:=World.cell?_of_block h.2
set_option maxRecDepth 100000 in
set_option maxHeartbeats 2000000 in
theorem chunk1_in (l Bs g m cap:Nat) (hm:m ≤ 100000000000) (hcap:64 * m ≤ cap) (J Jx:List Nat → World → Prop) (hJ:∀ s W n,J s W → J s (W.drewN n))
  (hY:∀ pre x W,J pre W → pre.length < m → YieldAt Fence.wide 5 Tryd.prog l #[Mn g (x % m)] W fun e W' =>
   (e=.returned (.bool true) ∧ J (pre ++ [x]) W' ∧ KB Bs W W') ∨ (e=.returned (.bool false) ∧ Jx (pre ++ [x]) W'))
  (W:World) (h1:W.cell? ⟨Bs,0,none⟩=some (.slice (some ⟨g,0,none⟩) (64 * m) cap)) (h2:W.cell? ⟨Bs + 1,0,none⟩=some (.int .i64 64)) (h0:J [] W) :
  CallsIn Fence.wide 6 Tryd.prog 96 #[.func (.yield l) #[] #[],.pointer (some ⟨Bs,0,none⟩),.pointer (some ⟨Bs + 1,0,none⟩)] W fun e W'=>(∃ v,e=.returned v) ∧
   ((∃ ys,ys=List.range m ∧ J ys W') ∨ (∃ pre,(∃ k,k ≤ m ∧ pre=List.range k) ∧ Jx pre W')):=by
 refine callsIn_of_wp Tryd.func96 rfl trivial ?_ rfl
 simp only [Tryd.ntmps96,List.size_toArray,List.length_cons,List.length_nil,Nat.reduceAdd,Nat.reduceSub,Array.replicate_succ,Array.replicate_zero,List.push_toArray,List.append_toArray,List.nil_append,List.cons_append]
 have HY:=Lib.hid hY
 have HJ:=Lib.hid hJ
 clear hY hJ
 gi_wp2
 gi_loopw [4] (fun i wr=>∃ k:Nat,k ≤ m ∧ i=.int .i64 (64 * k:Nat) ∧ J (List.range k) wr ∧ KB Bs W wr)
  (fun i _=>64 * m + 1 - (intOf i).toNat)
 case atStart=>exact ⟨0,Nat.zero_le _,rfl,by simpa using h0,KB.refl _ _⟩
 case round =>
  obtain ⟨k,hk,rfl,hJs,hnx⟩:=hrel
  have g1:wr.cell? ⟨Bs,0,none⟩=some (.slice (some ⟨g,0,none⟩) (64 * m) cap):=hnx.c0.trans h1
  have g2:wr.cell? ⟨Bs + 1,0,none⟩=some (.int .i64 64):=hnx.c1.trans h2
  by_cases hlt:k < m
  ·have d1:decide (((64 * k:Nat):Int) < ((64 * m:Nat):Int))=true:=decide_eq_true (by omega)
   have z0:(0:Int) ≤ ((64 * k:Nat):Int):=by omega
   have z1:((64 * k:Nat):Int) ≤ ((64 * m:Nat):Int):=by omega
   have z2:((64 * k:Nat):Int) ≤ (cap:Int):=by omega
   have z3:((64 * k:Nat):Int) < (cap:Int):=by omega
   gi_wp2
   refine wpIn_wide.2 ?_
   go_quiet (fail)
   have hJ2:=HJ.out _ _ nq hJs
   have hnx2:=hnx.drewN (n:=nq)
   obtain ⟨fn,tmps,assign,body,hy,hR⟩:=HY.out _ k _ hJ2 (by simpa using hlt)
   have HR:=Lib.hid hR
   clear hR
   rw [Nat.mod_eq_of_lt hlt] at hy
   unfold Mn at hy
   have e1:IntKind.i64.wrap (((64 * k:Nat):Int) + 64)=((64 * k:Nat):Int) + 64:=IntWalk.i64_in _ (by omega)
   gi_wp2
   refine HR.out.mono ?_
   rintro e W3 (⟨rfl,hJ3,hk3⟩ | ⟨rfl,hJx3⟩)
   ·have g3:W3.cell? ⟨Bs + 1,0,none⟩=some (.int .i64 64):=hk3.c1.trans g2
    gi_wp2
    go_roundw
    case rel=>exact ⟨k + 1,by omega,by simp;omega,by rw [List.range_succ];exact hJ3,hnx2.trans hk3⟩
    case measure=>simp [intOf];omega
   ·gi_wp2
    refine bodyPost_ret (results_none rfl _ _ _) rfl ?_
    exact ⟨⟨_,rfl⟩,.inr ⟨_,⟨k + 1,by omega,List.range_succ.symm⟩,hJx3⟩⟩
  ·obtain rfl:k=m:=by omega
   have d1:decide (((64 * k:Nat):Int) < ((64 * k:Nat):Int))=false:=decide_eq_false (by omega)
   gi_wp2
   go_end0
   exact ⟨⟨_,rfl⟩,.inl ⟨_,rfl,hJs⟩⟩
theorem chunk_stops (Bs g m cap:Nat) (hm:m ≤ 100000000000) (hcap:64 * m ≤ cap) (w:World) (hB:Bs + 1 < w.heap.size)
  (h1:w.cell? ⟨Bs,0,none⟩=some (.slice (some ⟨g,0,none⟩) (64 * m) cap)) (h2:w.cell? ⟨Bs + 1,0,none⟩=some (.int .i64 64)) :
  SeqStopsK Fence.wide 6 Tryd.prog 96 #[.pointer (some ⟨Bs,0,none⟩),.pointer (some ⟨Bs + 1,0,none⟩)] (fun x:Nat=>#[Mn g (x % m)]) (KB Bs)
   (fun ys=>ys=List.range m) (fun pre=>∃ k,k ≤ m ∧ pre=List.range k) m w:=fun l J Jx W hW hA _ hY h0 =>
 chunk1_in l Bs g m cap hm hcap J Jx (fun s W n hs=>hA s W _ none hs ⟨rfl,rfl,rfl,Nat.le_refl _,fun _ _ _=>rfl⟩ (fun r e=>by cases e)) hY W
  ((hW.cell (p:=⟨Bs,0,none⟩) (by simp;omega)).trans h1) ((hW.cell (p:=⟨Bs + 1,0,none⟩) (by simp;omega)).trans h2) h0
end Go.Proofs.YtfdfdagbeeeomaaDoor
namespace Go.Proofs.YtfdfdagbeeeomaaDoor
open Go.RowKit
theorem Ki (k:Nat):Builtin.zeroCells (Value.int .u8 0).cells k=c8 (List.replicate k 0):=by
 apply Array.ext'
 simp only [Builtin.zeroCells,Value.cells,c8,c8l]
 apply List.ext_getElem
 ·simp
 ·intro i h1 h2
  simp [N8,Nat.mod_one]
theorem run_zeros_ne (w:World) (base n k:Nat) (v:Value) (bs:List UInt8) (ty:TypeId) (hown:w.ownsRow base 5 1 v n (c8l bs)) (hne:v ≠ .slice none 0 0) (hnk:n + k ≤ 1000000000000) (hbase:base ≤ w.heap.size) :
  ∃ v' w',(Builtin.append_ #[28,3] ty #[v,.int .i64 k]).run Tryd.prog w=.ok v' w' ∧ w'.ownsRow base 5 1 v' (n + k) (c8l (bs ++ List.replicate k 0)) ∧ w.grownBy w' v.ownBlock:=by
 obtain ⟨i0,hi,hz0,hz1,hz2⟩:=info_parts info5
 have hbl:bs.length=n:=by have:=hown.1;rw [A6] at this;omega
 rcases hown.2 with ⟨rfl,h0⟩ | ⟨g,cap,cur,rfl,hbg,hg,hnc,hcm,hcs,htake⟩
 ·exact absurd rfl hne
 have hlen:(c8l (bs ++ List.replicate k 0)).length=(n + k) * 1:=by rw [A6];simp [hbl]
 have hw:IntKind.i64.wrap (k:Int)=k:=by rw [IntKind.wrap_i64];omega
 have hneg:¬ ((k:Int) < 0):=by omega
 by_cases hroom:n + k ≤ cap
 ·have hst:=run_storeCells_at Tryd.prog g n 5 (c8l (List.replicate k 0)) 0 cur w hg (by rw [A6];simp;omega) (Hq _)
  simp only [Nat.add_zero] at hst
  have h48:¬ (281474976710656 < (k:Int)):=by omega
  refine ⟨.slice (some ⟨g,0,none⟩) (n + k) cap,w.setRow g (cur.toList.take n ++ c8l (List.replicate k 0) ++ cur.toList.drop (n + (c8l (List.replicate k 0)).length)).toArray,?_,⟨hlen,.inr ⟨g,cap,_,rfl,hbg,setRow_heap w g cur _ 5 _ hg,hroom,hcm,?_,?_⟩⟩,⟨rfl,rfl,rfl,by simp,fun j _ hj=>setRow_other w g j _ (fun e=>hj (by simp [Value.ownBlock,e]))⟩⟩
  ·by_cases hk:k=0
   ·subst hk
    have hw0:IntKind.i64.wrap 0=0:=by decide
    have hst':(storeCells ⟨g,n,none⟩ [] 0).run Tryd.prog w=.ok () (w.setRow g (cur.toList.take n ++ c8l (List.replicate 0 0) ++ cur.toList.drop (n + (c8l (List.replicate 0 0)).length)).toArray):=hst
    simp [Builtin.append_,run_underlying Tryd.underlying28,run_underlying Tryd.underlying3,sizeOf,typeInfo,hi,hz1,hz2,asInt,asIntOf,hw0,hnc,Addr.add_lit,hst']
   ·have hzc:=Ki k
    have hst':(storeCells ⟨g,n,none⟩ (c8 (List.replicate k 0)).toList 0).run Tryd.prog w=.ok () (w.setRow g (cur.toList.take n ++ c8l (List.replicate k 0) ++ cur.toList.drop (n + (c8l (List.replicate k 0)).length)).toArray):=hst
    simp [Builtin.append_,run_underlying Tryd.underlying28,run_underlying Tryd.underlying3,sizeOf,typeInfo,zeroValue,hi,hz0,hz1,hz2,asInt,asIntOf,hw,hneg,h48,hroom,hk,hzc,Addr.add_lit,hst']
  ·simp only [List.size_toArray,List.length_append,List.length_take,List.length_drop,Array.length_toList,A6,List.length_replicate]
   omega
  ·have ht:cur.toList.take n=c8l bs:=by rw [← htake];simp
   rw [ht,← hlen,Eh]
   exact List.take_left
 ·have hk:0 < k:=by omega
  have holds:∀ j u,(c8l bs)[j]?=some u → w.drew.cell? ((⟨g,0,none⟩:Addr).add j)=some u:=fun j u hu=>hown.cells (g:=g) rfl j u hu
  have hold:=run_firstCells_some (P:=Tryd.prog) w.drew i0.size n ⟨g,0,none⟩ n cap (c8l bs) (by rw [A6,hz1];omega) holds
  have hr:=Lib.run_append_grow_zeros (P:=Tryd.prog) w 28 3 ty 5 i0 (.int .u8 0) .i64 .i64 Tryd.underlying28 Tryd.underlying3 hi hz0 (some ⟨g,0,none⟩) n cap (c8l bs) hold k hk (by rw [hz1];decide) (by omega) (by omega) (by rw [hz2];omega) (growslice_fits (by omega) (by rw [hz2];omega))
  have hge:=grownCap_ge w (n + k) cap 5
  refine ⟨_,_,hr,⟨hlen,.inr ⟨w.heap.size,_,_,rfl,hbase,heap_alloc_new w.drew _,hge,grownCap_le_maxLen w (n + k) cap 5 (by unfold maxLen;omega),?_,?_⟩⟩,⟨rfl,rfl,rfl,by simp,fun j hj _=>Below.heap_alloc w.drew _ j hj⟩⟩
  ·simp only [Array.size_append,List.size_toArray,size_zeroCells,A6,Value.cells];simp;omega
  ·rw [Ki k]
   simp only [Array.toList_append,List.append_assoc,c8]
   rw [← List.append_assoc,← Eh,← hlen]
   exact List.take_left
theorem run_zeros_own (w:World) (base n k:Nat) (v:Value) (bs:List UInt8) (ty:TypeId) (hown:w.ownsRow base 5 1 v n (c8l bs)) (hn:0 < n) (hnk:n + k ≤ 1000000000000) (hbase:base ≤ w.heap.size) :
  ∃ v' w',(Builtin.append_ #[28,3] ty #[v,.int .i64 k]).run Tryd.prog w=.ok v' w' ∧ w'.ownsRow base 5 1 v' (n + k) (c8l (bs ++ List.replicate k 0)) ∧ w.grownBy w' v.ownBlock:=by
 refine run_zeros_ne w base n k v bs ty hown (fun e=>?_) hnk hbase
 rcases hown.2 with ⟨_,h0⟩ | ⟨g,cap,cur,e2,_⟩
 ·omega
 ·rw [e] at e2;cases e2
theorem Ln {w:World} {ops:Array Oper} {rest:List Oper} {o:Oper} {a:Act} {Q:Exit → Act → World → Prop} (hgd:o.guard=none) (s x:Operand)
  (ho:o.op=.call { callee:=.builtin .append,args:=#[s,x],argTypes:=#[28,3] }) (base n k:Nat) (v:Value) (bs:List UInt8) (hs:a.eval s=v) (hx:a.eval x=.int .i64 k)
  (hown:w.ownsRow base 5 1 v n (c8l bs)) (hn:0 < n) (hnk:n + k ≤ 1000000000000) (hbase:base ≤ w.heap.size)
  (h:∀ v' w',w'.ownsRow base 5 1 v' (n + k) (c8l (bs ++ List.replicate k 0)) → w.grownBy w' v.ownBlock → wpList Tryd.prog ops Q rest (a.put o.dst v') w'):wpList Tryd.prog ops Q (o :: rest) a w:=by
 obtain ⟨v',w',hr,h1,h2⟩:=run_zeros_own w base n k v bs o.type hown hn hnk hbase
 exact Lib.wpList_append_run w hgd s x 28 3 ho v (.int .i64 k) hs hx v' w' hr (h v' w' h1 h2)
end Go.Proofs.YtfdfdagbeeeomaaDoor
namespace Go.Proofs.YtfdfdagbeeeomaaDoor
open Go
def padZ (n:Nat):Nat:=(120 - (n + 1) % 64) % 64
def pad0 (bs:List UInt8):List UInt8:=bs ++ [128] ++ List.replicate (padZ bs.length) 0
def lenB (n k:Nat):UInt8:=UInt8.ofNat (8 * n / 2 ^ (56 - 8 * k))
def Dp (bs:List UInt8) (k:Nat):List UInt8:=pad0 bs ++ (List.range k).map (lenB bs.length)
theorem padTo_succ (bs:List UInt8) (k:Nat):Dp bs (k + 1)=Dp bs k ++ [lenB bs.length k]:=by
 unfold Dp;rw [List.range_succ,List.map_append,List.append_assoc];rfl
theorem Hj (bs:List UInt8) (k:Nat):(Dp bs k).length=bs.length + 1 + padZ bs.length + k:=by
 unfold Dp pad0;simp;omega
def blocks (bs:List UInt8):Nat:=(bs.length + 9 + padZ bs.length) / 64
theorem pad_length (bs:List UInt8):(Dp bs 8).length=64 * blocks bs:=by
 rw [Hj];unfold blocks padZ;omega
theorem blocks_le (bs:List UInt8):64 * blocks bs ≤ bs.length + 73:=by
 unfold blocks padZ;omega
def blk (l:List UInt8) (k:Nat):List UInt8:=(l.drop (64 * k)).take 64
theorem at8_blk (l:List UInt8) (k i:Nat) (h:i < 64):at8 (blk l k) i=at8 l (64 * k + i):=by
 unfold at8 blk
 rw [List.getD_eq_getElem?_getD,List.getD_eq_getElem?_getD,List.getElem?_take,if_pos h,List.getElem?_drop]
def Hg (bs:List UInt8):Nat → List UInt32
 | 0=>S0
 | k + 1=>compW (Hg bs k) (blk (Dp bs 8) k)
theorem stTo_length (bs:List UInt8) (k:Nat):(Hg bs k).length=8:=by
 induction k with
 | zero=>rfl
 | succ k ih=>simp only [Hg];rw [Lc,ih]
def stL (bs:List UInt8) (l:List Nat):List UInt32:=l.foldl (fun s x=>compW s (blk (Dp bs 8) (x % blocks bs))) S0
theorem stL_snoc (bs:List UInt8) (l:List Nat) (x:Nat):stL bs (l ++ [x])=compW (stL bs l) (blk (Dp bs 8) (x % blocks bs)):=by
 unfold stL;rw [List.foldl_append];rfl
theorem stL_length (bs:List UInt8) (l:List Nat):(stL bs l).length=8:=by
 unfold stL
 suffices ∀ (l:List Nat) (s:List UInt32),s.length=8 → (l.foldl (fun s x=>compW s (blk (Dp bs 8) (x % blocks bs))) s).length=8 from this l S0 rfl
 intro l
 induction l with
 | nil=>exact fun s h=>h
 | cons x l ih=>exact fun s h=>ih _ (by rw [Lc,h])
theorem stL_range (bs:List UInt8) (k:Nat) (hk:k ≤ blocks bs):stL bs (List.range k)=Hg bs k:=by
 induction k with
 | zero=>rfl
 | succ k ih=>rw [List.range_succ,stL_snoc,ih (by omega),Hg,Nat.mod_eq_of_lt (by omega)]
def outB (s:List UInt32) (k:Nat):UInt8:=UInt8.ofNat ((at32 s (k / 4)).toNat / 2 ^ (24 - k % 4 * 8))
def Fk (s:List UInt32):Nat → List UInt8
 | 0=>List.replicate 32 0
 | k + 1=>(Fk s k).set k (outB s k)
theorem E7 (s:List UInt32) (k:Nat):(Fk s k).length=32:=by
 induction k with
 | zero=>simp [Fk]
 | succ k ih=>simp [Fk,ih]
def Lz (bs:List UInt8):List UInt8:=Fk (Hg bs (blocks bs)) 32
theorem Dw (bs:List UInt8):(Lz bs).length=32:=E7 _ _
theorem lenB_eq (n k:Nat):(((n:Int) * 8) / 2 ^ (56 - 8 * k)) % 256=N8 (lenB n k):=by
 unfold N8 lenB
 rw [UInt8.toNat_ofNat']
 have:((n:Int) * 8) / 2 ^ (56 - 8 * k)=((8 * n / 2 ^ (56 - 8 * k):Nat):Int):=by simp [Int.mul_comm]
 rw [this];omega
theorem outB_eq (s:List UInt32) (k:Nat):(N32 (at32 s (k / 4)) / 2 ^ (24 - k % 4 * 8)) % 256=N8 (outB s k):=by
 unfold N8 outB N32
 rw [UInt8.toNat_ofNat']
 have:((at32 s (k / 4)).toNat:Int) / 2 ^ (24 - k % 4 * 8)=(((at32 s (k / 4)).toNat / 2 ^ (24 - k % 4 * 8):Nat):Int):=by simp
 rw [this];omega
theorem Dn (w:World):(w.alloc (.cells #[.int .u8 0,.int .u8 0,.int .u8 0,.int .u8 0,.int .u8 0,.int .u8 0,.int .u8 0,.int .u8 0,.int .u8 0,.int .u8 0,.int .u8 0,.int .u8 0,.int .u8 0,.int .u8 0,.int .u8 0,.int .u8 0,.int .u8 0,.int .u8 0,.int .u8 0,.int .u8 0,.int .u8 0,.int .u8 0,.int .u8 0,.int .u8 0,.int .u8 0,.int .u8 0,.int .u8 0,.int .u8 0,.int .u8 0,.int .u8 0,.int .u8 0,.int .u8 0] 130)).heap[w.heap.size]?=some (.cells (c8 (List.replicate 32 0)) 130 (0,0)):=Df _ _ _
theorem I0 {w:World} {B T:Nat} {l:List UInt8} (h:w.heap[B]?=some (.cells (c8 l) T (0,0))) (i:Nat) (hi:i < l.length) :
  w.cell? ⟨B,i,none⟩=some (.int .u8 (N8 (at8 l i))):=by
 unfold World.cell?;rw [h];simp only [Option.isSome_none,Bool.false_eq_true,if_false];exact c8_at l i hi
theorem row8_set {w:World} {B T:Nat} {l:List UInt8} (h:w.heap[B]?=some (.cells (c8 l) T (0,0))) (i:Nat) (x:UInt8) :
  (w.setCell ⟨B,i,none⟩ (.int .u8 (N8 x))).heap[B]?=some (.cells (c8 (l.set i x)) T (0,0)):=by
 unfold World.setCell;simp only [Array.getElem?_modify,h,if_true,Option.map_some,Option.isSome_none,Bool.false_eq_true,if_false,c8_set]
end Go.Proofs.YtfdfdagbeeeomaaDoor
namespace Go.Proofs.YtfdfdagbeeeomaaDoor
open Go.RowKit Go.Shelf
attribute [local go_sem] Oper.semAt_some
def GlobS (w:World):Prop:=∀ i,i < 8 → w.cell? ⟨2,i,none⟩=some (.int .u32 (N32 (at32 S0 i)))
theorem padZ_eq (n:Nat):((120:Int) - ((n:Int) + 1) % 64) % 64=(padZ n:Int):=by unfold padZ;omega
theorem Ij:(Tryd.prog.info? 130).map (·.size)=some 32:=by kernel_rfl
def ShaO (st:List UInt32) (W:World) (i:Value) (W2:World):Prop :=
 ∃ k:Nat,k ≤ 32 ∧ i=.int .i64 k ∧ W2.heap[W.heap.size]?=some (.cells (c8 (Fk st k)) 130 (0,0)) ∧ Below W.heap.size W W2
def ShaL (bs:List UInt8) (w1:World) (v i:Value) (wr:World):Prop :=
 ∃ k:Nat,k ≤ 8 ∧ i=.int .i64 k ∧ wr.ownsRow w1.heap.size 5 1 v (Dp bs k).length (c8l (Dp bs k)) ∧ Below w1.heap.size w1 wr
theorem kb_put {Bs n:Nat} (hB:Bs + 1 < n) (W:World) (l:Nat) (o o':Obj) (hl:n ≤ l) (_:W.heap[l]?=some o) (_:o.isCells=false) (_:o.isWalk=false):KB Bs W (W.putObj l o'):=by
 have hg:=grownBy_putObj' W l o'
 have h1:∀ k,k < l → (W.putObj l o').heap[k]?=W.heap[k]?:=fun k hk=>by
  by_cases hs:k < W.heap.size
  ·exact hg.block k hs (fun e=>by cases e;omega)
  ·have:(W.putObj l o').heap.size=W.heap.size:=by simp [World.putObj]
   rw [Array.getElem?_eq_none (by omega),Array.getElem?_eq_none (by omega)]
 exact ⟨h1 _ (by omega),h1 _ (by omega)⟩
theorem own_st {sb n:Nat} {bs:List UInt8} {w6:World} (hn:sb < n) (hw:w6.heap.size=n:=by rfl):OwnFrom n (fun (pre:List Nat) W=>W.heap[sb]?=some (.cells (cw (stL bs pre)) 161 (0,0)) ∧ But sb w6 W):=by
 intro pre W W' row ⟨h1,h2⟩ hg hr
 have hs:sb < W.heap.size:=(Array.getElem?_eq_some_iff.1 h1).1
 have hb:∀ k,k < n → k < W.heap.size → W'.heap[k]?=W.heap[k]?:=fun k hk hk2=>hg.block k hk2 (fun e=>by have:=(hr k e.symm).1;omega)
 exact ⟨(hb sb hn hs).trans h1,⟨hg.os.trans h2.os,hg.tape.trans h2.tape,hg.output.trans h2.output,Nat.le_trans h2.size hg.size,fun k hk hne=>(hb k (by omega) (Nat.lt_of_lt_of_le hk h2.size)).trans (h2.block k hk hne)⟩⟩
set_option maxRecDepth 100000 in
set_option maxHeartbeats 2000000 in
theorem Ks (pv:Value) (vs:List Value) (ps:List (List UInt8)) (w:World) (hP:PSl w pv vs ps) (hc0:ps.length ≤ 1000000000) (ht:ps.flatten.length ≤ 100000000000)
  (hK:GlobK w) (hS:GlobS w) (h3:3 < w.heap.size) :
  Calls Tryd.prog 77 #[pv] w fun e w'=>e=.returned (.agg (c8 (Lz ps.flatten))) ∧ Below w.heap.size w w':=by
 obtain ⟨i0,hi,hz0,hz1,hz2⟩:=info_parts info5
 have HI:=Lib.hid hi
 have HZ:=Lib.hid hz0
 have H1:=Lib.hid hz1
 have H2:=Lib.hid hz2
 clear hi hz0 hz1 hz2
 have HK:Hid (GlobK w):=hK
 have HS:Hid (GlobS w):=hS
 clear hK hS
 obtain ⟨bs,hbs⟩:∃ bs,bs=ps.flatten:=⟨_,rfl⟩
 have HBS:=Lib.hid hbs
 rw [← hbs] at ht
 clear hbs
 have HR1:=Lib.hid (Dn w)
 refine callsIn_wide.1 (callsIn_of_wp_marks (n:=7) Tryd.func77 rfl trivial (wpIn_wide.2 ?_) rfl)
 simp only [Tryd.ntmps77,List.size_toArray,List.length_cons,List.length_nil,Nat.reduceAdd,Nat.reduceSub,Array.replicate_succ,Array.replicate_zero,List.push_toArray,List.append_toArray,List.nil_append,List.cons_append]
 go_wp2_with fail
 generalize hw1:w.alloc _=w1 at HR1 ⊢
 have hb1:Below w.heap.size w w1:=by rw [← hw1];exact (Below.refl _ _).alloc (Nat.le_refl _) _
 have hz1:w1.heap.size=w.heap.size + 1:=by rw [← hw1];simp
 clear hw1
 have HZ1:=Lib.hid hz1
 clear hz1
 refine (concat_any pv vs ps w1 (hP.below hb1 (Nat.le_refl _)) hc0 (by rw [← HBS.out];omega)).mono ?_
 rw [← HBS.out]
 rintro e w2 ⟨v,rfl,hown,hb2⟩
 obtain ⟨a2,c2,hv2⟩:=(BSl.of_owns hown).len
 rw [hv2] at hown ⊢
 clear hv2
 have hz2:=hb2.size
 go_wp2_with (at_builtin;refine wpList_append_own _ rfl (.tmp 16) (.tmp 17) 28 rfl w1.heap.size 5 i0 (.int .u8 0) 1 1 Tryd.underlying28 HI.out HZ.out H1.out H2.out rfl (by decide) _ _ _ rfl (hown.alloc _) ⟨w2.heap.size,0,none⟩ 1 1 (c8l [128]) rfl rfl (cell_one_new _ _ _) (Hq _) (by unfold maxLen;omega) (by omega) (by simp;omega) ?_)
 intro v3 w3 hown3 hg3 _
 rw [← Eh] at hown3
 have hb3:Below w1.heap.size w1 w3:=(hb2.alloc hz2 _).grown hg3 (by simp;omega) (fun g hg=>Cz hown hg)
 have hz3:=hb3.size
 have hl3:(bs ++ [128]).length=bs.length + 1:=by simp
 rw [← hl3] at hown3
 obtain ⟨a3,c3,hv3⟩:=(BSl.of_owns hown3).len
 rw [hv3] at hown3 ⊢
 rw [hl3] at hown3 ⊢
 clear hv3 hown hl3 hg3 hb2 hz2
 have HPZ:=Lib.hid (padZ_eq bs.length)
 have hpl:padZ bs.length ≤ 64:=by unfold padZ;omega
 go_wp2_with (at_builtin;refine Ln rfl (.tmp 19) (.tmp 24) rfl w1.heap.size (bs.length + 1) (padZ bs.length) _ (bs ++ [128]) rfl (congrArg (Value.int IntKind.i64) HPZ.out) hown3 (by omega) (by omega) hz3 ?_)
 intro v4 w4 hown4 hg4
 have hb4:Below w1.heap.size w1 w4:=hb3.grown hg4 hz3 (fun g hg=>Cz hown3 hg)
 clear hown3 hg4 hb3 hz3
 have hown5:w4.ownsRow w1.heap.size 5 1 v4 (Dp bs 0).length (c8l (Dp bs 0)):=by
  rw [Hj];simpa [Dp,pad0] using hown4
 clear hown4
 go_wp2
 go_loopw [3,26] (ShaL bs w1) (fun _ i _=>8 - (intOf i).toNat)
 case atStart=>exact ⟨0,by omega,rfl,hown5,hb4⟩
 case round =>
  obtain ⟨k,hk,rfl,hown6,hb6⟩:=hrel
  have hl6:=Hj bs k
  have hz6:=hb6.size
  by_cases h8:k < 8
  ·have d8:decide ((k:Int) < 8)=true:=decide_eq_true (by omega)
   have hle:(Dp bs k).length ≤ 200000000000:=by omega
   have HE:=Lib.hid (lenB_eq bs.length k)
   have HL6:=Lib.hid hl6
   clear hl6
   go_wp2_with (at_builtin;refine wpList_append_own _ rfl (.tmp 29) (.tmp 36) 28 rfl w1.heap.size 5 i0 (.int .u8 0) 1 1 Tryd.underlying28 HI.out HZ.out H1.out H2.out rfl (by decide) _ _ _ rfl (hown6.alloc _) ⟨wr.heap.size,0,none⟩ 1 1 [.int .u8 ((bs.length:Int) * 8 / 2 ^ (56 - 8 * k) % 256)] rfl rfl (cell_one_new _ _ _) (by simp [Value.oneCell']) (by unfold maxLen;omega) (by omega) (by simp;omega) ?_)
   intro v7 w7 hown7 hg7 _
   rw [HE.out] at hown7
   have hb7:Below w1.heap.size w1 w7:=(hb6.alloc hz6 _).grown hg7 (by simp;omega) (fun g hg=>Cz hown6 hg)
   have hown8:w7.ownsRow w1.heap.size 5 1 v7 (Dp bs (k + 1)).length (c8l (Dp bs (k + 1))):=by
    rw [padTo_succ,List.length_append,Eh];exact hown7
   clear hown7 hown6 hg7
   go_wp2
   go_roundw
   case rel=>exact ⟨k + 1,by omega,by go_num,hown8,hb7⟩
   case measure=>simp [intOf];omega
  ·obtain rfl:k=8:=by omega
   have d8:decide (((8:Nat):Int) < 8)=false:=by decide
   have d8':decide ((8:Int) < 8)=false:=by decide
   rcases hown6.2 with ⟨rfl,h0⟩ | ⟨g,cap,cur,rfl,hbg,hg,hnc,hcm,hcs,htake⟩
   ·omega
   have hpl8:=pad_length bs
   have hbl8:=blocks_le bs
   have HRD:Hid (∀ j,j < 64 * blocks bs → wr.cell? ⟨g,j,none⟩=some (.int .u8 (N8 (at8 (Dp bs 8) j)))):=by
    intro j hj
    rcases BSl.of_owns hown6 with ⟨h,_⟩ | ⟨b',o',c',e',_,_,hx⟩ | ⟨_,_,h⟩
    rotate_right
    ·rw [h] at hpl8;simp only [List.length_nil] at hpl8;omega
    ·cases h
    ·cases e'
     have:=hx j (by rw [hpl8];exact hj)
     rwa [Nat.zero_add] at this
   have hgl:g < wr.heap.size:=(Array.getElem?_eq_some_iff.1 hg).1
   rw [hpl8] at hnc ⊢
   clear hown6 hg hcs htake hl6 hpl8
   have HRS:Hid (wr.rangeAt 2 0 (cwl S0)):=by
    intro j v hj
    have hj8:j < 8:=by have:=(List.getElem?_eq_some_iff.1 hj).1;simpa [cwl,S0] using this
    rw [Nat.zero_add,hb6.cell (p:=⟨2,j,none⟩) (by have:=HZ1.out;simp;omega),hb1.cell (p:=⟨2,j,none⟩) (by simp;omega),HS.out j hj8,← hj]
    have:=cw_at S0 j hj8
    rw [cw,List.getElem?_toArray] at this
    exact this.symm
   go_wp2_with (first | (refine wpList_load_mid rfl 161 (.global 2) rfl 2 0 rfl (cwl S0) _ HRS.out Tryd.underlying161 rfl info88 ?_) | (refine wpList_store_row rfl 161 (.tmp 6) (.tmp 39) rfl wr.heap.size (cw S0) rfl rfl 161 _ (Df _ _ _) info88 rfl (cw_one _) ?_))
   obtain ⟨w5,hw5⟩:∃ w5,w5=(wr.alloc (.cells #[.int .u32 0,.int .u32 0,.int .u32 0,.int .u32 0,.int .u32 0,.int .u32 0,.int .u32 0,.int .u32 0] 161)).setRow wr.heap.size (cw S0):=⟨_,rfl⟩
   rw [← hw5]
   have hb5:Below wr.heap.size wr w5:=by rw [hw5];exact Cn ((Below.refl _ _).alloc (Nat.le_refl _) _) (Nat.le_refl _) _
   have HX5:Hid (w5.heap[wr.heap.size]?=some (.cells (cw S0) 161 (0,0))):=by rw [hw5];exact setRow_heap _ _ _ _ _ _ (Df _ _ _)
   have HZ5:Hid (w5.heap.size=wr.heap.size + 1):=by rw [hw5];simp [Hid]
   clear hw5
   refine (chunk_any _ _ _ _).mono ?_
   rintro e w6 ⟨rfl,hw6⟩
   have hb56:Below w5.heap.size w5 w6:=by rw [← hw6];exact ((Below.refl _ _).alloc (Nat.le_refl _) _).alloc (by simp) _
   have hz6':w6.heap.size=w5.heap.size + 2:=by rw [← hw6];simp
   have hx1:w6.cell? ⟨w5.heap.size,0,none⟩=some (.slice (some ⟨g,0,none⟩) (64 * blocks bs) cap):=by rw [← hw6];simp
   have hx2:w6.cell? ⟨w5.heap.size + 1,0,none⟩=some (.int .i64 64):=by
    rw [← hw6]
    have:=World.cell?_alloc_new (w5.alloc (.cells #[.slice (some ⟨g,0,none⟩) (64 * blocks bs) cap] 28)) #[.int .i64 64] 3 0
    simp
   clear hw6
   have HX1:=Lib.hid hx1
   have HX2:=Lib.hid hx2
   have HZ6:=Lib.hid hz6'
   clear hx1 hx2 hz6'
   go_wp2
   have hbm:1 ≤ blocks bs:=by unfold blocks padZ;omega
   refine wpIn_wide.1 (wpIn_rangeFunc_ownG (F:=Fence.wide) (n:=7) rfl (by decide) (gf:=96) (lb:=#[.pointer (some ⟨w5.heap.size,0,none⟩),.pointer (some ⟨w5.heap.size + 1,0,none⟩)]) rfl trivial (enters_of Tryd.func96 (by kernel_rfl) rfl)
    (chunk_stops w5.heap.size g (blocks bs) cap (by omega) hnc w6 (by have:=HZ6.out;omega) HX1.out HX2.out) KB.trans (kb_put (by have:=HZ6.out;omega)) (Below.refl _ _) (fun _=>rfl)
    (fun pre W=>W.heap[wr.heap.size]?=some (.cells (cw (stL bs pre)) 161 (0,0)) ∧ But wr.heap.size w6 W) (fun _ _ _=>False)
    (own_st (by have:=HZ6.out;have:=HZ5.out;omega)) (fun _ _ _ _ _ h _ _=>h.elim)
    ⟨by rw [hb56.block _ (by have:=HZ5.out;omega)];exact HX5.out,But.of_below (Below.refl _ _)⟩
    (fun x=>{ tmps:=#[pv,undef,.pointer (some ⟨w.heap.size,0,none⟩),.slice (some ⟨g,0,none⟩) (64 * blocks bs) cap,.int .u64 ((bs.length:Int) * 8),u5,.pointer (some ⟨wr.heap.size,0,none⟩),Mn g (x % blocks bs),undef,undef,pv,.slice a2 bs.length c2,.slice a2 bs.length c2,.int .i64 bs.length,.int .u64 bs.length,.int .u64 ((bs.length:Int) * 8),.slice a2 bs.length c2,.slice (some ⟨w2.heap.size,0,none⟩) 1 1,.slice a3 (bs.length + 1) c3,.slice a3 (bs.length + 1) c3,.slice a3 (bs.length + 1) c3,.int .i64 ((bs.length:Int) + 1),.int .i64 (((bs.length:Int) + 1) % 64),.int .i64 (120 - ((bs.length:Int) + 1) % 64),.int .i64 ((120 - ((bs.length:Int) + 1)) % 64),v4,.int .i64 8,.bool false,u28,u29,u30,u31,u32,u33,u34,u35,u36,u37,u38,.agg (cwl S0).toArray,.slice (some ⟨g,0,none⟩) (64 * blocks bs) cap,.func (.func 96) #[] #[.pointer (some ⟨w5.heap.size,0,none⟩),.pointer (some ⟨w5.heap.size + 1,0,none⟩)],Mn g (x % blocks bs),undef,undef,undef,undef,undef,undef,undef,undef,undef,undef,undef,undef,undef,undef,undef,undef,undef,undef,undef],defers:=[] }) ?assign ?body ?done ?stop)
   case assign =>
    intro l x W K hK
    gi_wp2
    exact hK
   case body =>
    rintro l pre x W ⟨hst,hbut⟩ _
    have hxm:x % blocks bs < blocks bs:=Nat.mod_lt _ (by omega)
    have hgW:W.heap[g]?=wr.heap[g]?:=(hbut.block g (by have:=HZ6.out;have:=HZ5.out;omega) (by omega)).trans ((hb56.block g (by have:=HZ5.out;omega)).trans (hb5.block g hgl))
    have h3W:W.heap[3]?=w.heap[3]?:=(hbut.block 3 (by have:=HZ6.out;have:=HZ5.out;have:=HZ1.out;omega) (by have:=HZ1.out;omega)).trans ((hb56.block 3 (by have:=HZ5.out;have:=HZ1.out;omega)).trans ((hb5.block 3 (by have:=HZ1.out;omega)).trans ((hb6.block 3 (by have:=HZ1.out;omega)).trans (hb1.block 3 h3))))
    have hWs:=hbut.size
    have HCW:Hid (∀ i,i < 64 → W.cell? ⟨g,64 * (x % blocks bs) + i,none⟩=some (.int .u8 (N8 (at8 (blk (Dp bs 8) (x % blocks bs)) i)))):=fun i hi=>by
     rw [World.cell?_of_block (w:=wr) (a:=⟨g,64 * (x % blocks bs) + i,none⟩) hgW,HRD.out _ (by omega),at8_blk _ _ _ hi]
    have HKW:Hid (GlobK W):=fun i hi=>by rw [World.cell?_of_block (w:=w) (a:=⟨3,i,none⟩) h3W];exact HK.out i hi
    have HST:=Lib.hid hst
    clear hst hgW h3W
    gi_wp2
    unfold Mn
    refine ⟨trivial,(CallsIn.inRound l (callsIn_wide.2 (take_any wr.heap.size g (64 * (x % blocks bs)) 64 (stL bs pre) (blk (Dp bs 8) (x % blocks bs)) W (by have:=HZ6.out;have:=HZ5.out;omega) (by have:=HZ6.out;have:=HZ5.out;omega) (stL_length _ _) HST.out HCW.out (by decide) HKW.out (by have:=HZ6.out;have:=HZ5.out;have:=HZ1.out;omega)))).mono ?_⟩
    rintro e W2 ⟨rfl,hst2,hbut2⟩
    have HST2:=Lib.hid hst2
    clear hst2
    gi_wp2
    refine ⟨⟨hbut2.size,fun k o hk ho _=>(hbut2.block k (Array.getElem?_eq_some_iff.1 ho).1 (by have:=HZ6.out;have:=HZ5.out;omega)).trans ho⟩,⟨hbut2.block _ (by have:=HZ6.out;omega) (by have:=HZ5.out;omega),hbut2.block _ (by have:=HZ6.out;omega) (by have:=HZ5.out;omega)⟩,by rw [stL_snoc];exact HST2.out,?_⟩
    exact ⟨hbut2.os.trans hbut.os,hbut2.tape.trans hbut.tape,hbut2.output.trans hbut.output,Nat.le_trans hbut.size hbut2.size,fun k hk hne=>(hbut2.block k (Nat.lt_of_lt_of_le hk hbut.size) hne).trans (hbut.block k hk hne)⟩
   case done =>
    rintro D ys W hD rfl ⟨hst,hbut⟩ hKD
    rw [stL_range bs _ (Nat.le_refl _)] at hst
    have HST:=Lib.hid hst
    have HKD:=Lib.hid hKD
    clear hst hKD
    have HRW:Hid (W.heap[w.heap.size]?=some (.cells (c8 (List.replicate 32 0)) 130 (0,0))):=by
     show _=_
     rw [hbut.block _ (by have:=HZ6.out;have:=HZ5.out;have:=HZ1.out;omega) (by have:=HZ1.out;omega),hb56.block _ (by have:=HZ5.out;have:=HZ1.out;omega),hb5.block _ (by have:=HZ1.out;omega),hb6.block _ (by have:=HZ1.out;omega)]
     exact HR1.out
    have HBW:Hid (Below w.heap.size w W):=by
     have a1:=hb1.trans ((hb6.mono (by have:=HZ1.out;omega)).trans ((hb5.mono (by have:=HZ1.out;omega)).trans (hb56.mono (by have:=HZ5.out;have:=HZ1.out;omega))))
     exact a1.trans ⟨hbut.os,hbut.tape,hbut.output,hbut.size,fun k hk=>hbut.block k (by have:=HZ6.out;have:=HZ5.out;have:=HZ1.out;omega) (by have:=HZ1.out;omega)⟩
    have hWz:wr.heap.size < W.heap.size:=by have:=hbut.size;have:=HZ6.out;have:=HZ5.out;omega
    have hRz:w.heap.size < wr.heap.size:=by have:=HZ1.out;omega
    go_wp2
    obtain ⟨wo,rfl⟩:∃ wo:World,wo=wr:=⟨_,rfl⟩
    go_loopw [45] (ShaO (Hg bs (blocks bs)) W) (fun i _=>32 - (intOf i).toNat)
    case atStart=>exact ⟨0,by omega,rfl,Dn W,(Below.refl _ _).alloc (Nat.le_refl _) _⟩
    case round =>
     obtain ⟨k,hk,rfl,ho,hb9⟩:=hrel
     have HO:=Lib.hid ho
     clear ho
     by_cases h32:k < 32
     ·have d32:decide ((k:Int) < 32)=true:=decide_eq_true (by omega)
      have cs:wr.cell? ⟨wo.heap.size,k / 4,none⟩=some (.int .u32 (N32 (at32 (Hg bs (blocks bs)) (k / 4)))):=by
       rw [hb9.cell (p:=⟨wo.heap.size,k / 4,none⟩) hWz];exact A8 HST.out _ (by rw [stTo_length];omega)
      have co:=I0 HO.out k (by rw [E7];exact h32)
      have fo:=Do HO.out k
      have HE:=Lib.hid (outB_eq (Hg bs (blocks bs)) k)
      have HF:=Lib.hid (row8_set HO.out k (outB (Hg bs (blocks bs)) k))
      go_wp2
      go_roundw
      case rel =>
       rw [HE.out]
       exact ⟨k + 1,by omega,by go_num,HF.out,hb9.setCell (Nat.le_refl _) _⟩
      case measure=>simp [intOf];omega
     ·have d32:decide ((k:Int) < 32)=false:=decide_eq_false (by omega)
      obtain rfl:k=32:=by omega
      have HI24:Hid ((Tryd.prog.info? 130).map (·.size)=some (c8 (Fk (Hg bs (blocks bs)) 32)).size):=by rw [Dq,E7];exact Ij
      have HR9:Hid (wr.heap[w.heap.size]?=some (.cells (c8 (List.replicate 32 0)) 130 (0,0))):=by
       show _=_
       rw [hb9.block _ (by omega)];exact HRW.out
      have HQ:Hid ((c8 (List.replicate 32 0)).size=(c8 (Fk (Hg bs (blocks bs)) 32)).size):=by rw [Dq,Dq,E7];simp [Hid]
      go_wp2_with (first | (refine wpList_load_row rfl 130 (.tmp 8) rfl W.heap.size rfl 130 _ (0,0) _ HO.out Tryd.underlying130 rfl HI24.out ?_) | (refine wpList_store_row rfl 130 (.tmp 2) (.tmp 61) rfl w.heap.size (c8 (Fk (Hg bs (blocks bs)) 32)) rfl rfl 130 _ HR9.out HI24.out HQ.out (c8_one _) ?_))
      have hD1:wr.heap[D]?=some (.deferred (some [])):=(hb9.block D (Array.getElem?_eq_some_iff.1 HKD.out).1).trans HKD.out
      have hDR:D ≠ w.heap.size:=by have:=HZ6.out;have:=HZ5.out;omega
      have hD2:(wr.setRow w.heap.size (c8 (Fk (Hg bs (blocks bs)) 32))).heap[D]?=some (.deferred (some [])):=(setRow_other _ _ _ _ hDR).trans hD1
      refine ⟨by simp,.inl ⟨_,_,rfl,run_takeDeferred hD2,?_⟩⟩
      have hR1:(wr.setRow w.heap.size (c8 (Fk (Hg bs (blocks bs)) 32))).heap[w.heap.size]?=some (.cells (c8 (Fk (Hg bs (blocks bs)) 32)) 130 (0,0)):=setRow_heap _ _ _ _ _ _ HR9.out
      have hR2:((wr.setRow w.heap.size (c8 (Fk (Hg bs (blocks bs)) 32))).putObj D (.deferred none)).heap[w.heap.size]?=some (.cells (c8 (Fk (Hg bs (blocks bs)) 32)) 130 (0,0)) :=
       ((grownBy_putObj' _ D (.deferred none)).block _ (Array.getElem?_eq_some_iff.1 hR1).1 (fun e=>by cases e;exact hDR rfl)).trans hR1
      refine ⟨.agg (c8 (Lz bs)),results_cell_row (p:=2) (ty:=130) rfl _ _ w.heap.size 130 _ (0,0) _ rfl hR2 Tryd.underlying130 rfl HI24.out,by rw [← HBS.out],?_⟩
      have hfin:Below w.heap.size w (wr.setRow w.heap.size (c8 (Fk (Hg bs (blocks bs)) 32))):=Cn (HBW.out.trans (hb9.mono (by omega))) (Nat.le_refl _) _
      exact hfin.trans (belowK_b (w:=w) (Nat.le_refl _) _ D _ _ (by have:=HZ6.out;have:=HZ5.out;omega) hD2 rfl rfl)
   case stop =>
    rintro D c pre W _ _ h _
    exact h.elim
end Go.Proofs.YtfdfdagbeeeomaaDoor
namespace Go.Proofs.YtfdfdagbeeeomaaDoor
open Go.RowKit
attribute [local go_sem] u8_bits_xor
def keyW (key:List UInt8):List UInt8:=key ++ List.replicate (64 - key.length) 0
def chgTo (key:List UInt8) (c:UInt8):Nat → List UInt8
 | 0=>keyW key
 | k + 1=>(chgTo key c k).set k (at8 (chgTo key c k) k ^^^ c)
theorem keyW_length (key:List UInt8) (h:key.length ≤ 64):(keyW key).length=64:=by simp [keyW];omega
theorem Lh (key:List UInt8) (c:UInt8) (k:Nat) (h:key.length ≤ 64):(chgTo key c k).length=64:=by
 induction k with
 | zero=>exact keyW_length key h
 | succ k ih=>simp [chgTo,ih]
def chg (key:List UInt8) (c:UInt8):List UInt8:=chgTo key c 64
theorem Eg (key:List UInt8) (c:UInt8) (h:key.length ≤ 64):(chg key c).length=64:=Lh key c 64 h
theorem info5s:(Tryd.prog.info? 5).map (·.size)=some 1:=by kernel_rfl
theorem make64 (w:World):(Instr.makeSlice 28 (.int .i64 64) (.int .i64 64)).run Tryd.prog w=.ok (.slice (some ⟨w.heap.size,0,none⟩) 64 64) (w.alloc (.cells (c8l (List.replicate 64 0)).toArray 5)):=by kernel_rfl
theorem splice_key (key:List UInt8) (_h:key.length ≤ 64):splice (c8l (List.replicate 64 0)) 0 (c8l key)=c8l (keyW key):=by
 unfold splice keyW
 rw [List.take_zero,List.nil_append,Eh,Nat.zero_add,A6]
 congr 1
 unfold c8l
 rw [← List.map_drop,List.drop_replicate]
def ChgR (key:List UInt8) (c:UInt8) (w:World) (i:Value) (wr:World):Prop :=
 ∃ k:Nat,k ≤ 64 ∧ i=.int .i64 k ∧ wr.heap[w.heap.size]?=some (.cells (c8 (chgTo key c k)) 5 (0,0)) ∧ Below w.heap.size w wr
def ChgP (key:List UInt8) (c:UInt8) (w:World) (e:Ending) (w':World):Prop :=
 e=.returned (.slice (some ⟨w.heap.size,0,none⟩) 64 64) ∧ w'.heap[w.heap.size]?=some (.cells (c8 (chg key c)) 5 (0,0)) ∧ Below w.heap.size w w'
set_option maxHeartbeats 1000000 in
theorem changed_at (a:Option Addr) (n cp:Nat) (key:List UInt8) (c:UInt8) (w:World) (hn:n=key.length) (h:BSl w (.slice a n cp) key) (hl:key.length ≤ 64) :
  Calls Tryd.prog 80 #[.slice a n cp,.int .u8 (N8 c)] w (ChgP key c w):=by
 have hb0:Below w.heap.size w (w.alloc (.cells (c8l (List.replicate 64 0)).toArray 5)):=(Below.refl _ _).alloc (Nat.le_refl _) _
 have h0:=h.below hb0 (Nat.le_refl _)
 have HN:=Lib.hid hn
 have HMK:=Lib.hid make64
 have hpos:0 < (c8l key).length → (some ⟨w.heap.size,0,none⟩:Option Addr)=some ⟨w.heap.size,0,none⟩ ∧ ∃ ad,a=some ad ∧ ∀ j v,(c8l key)[j]?=some v → (w.alloc (.cells (c8l (List.replicate 64 0)).toArray 5)).cell? (ad.add j)=some v:=by
  intro hp
  rw [A6] at hp
  rcases h0 with ⟨e,hk⟩ | ⟨b,off,c1,e,hc1,hlt,hcell⟩ | ⟨_,e,hk⟩
  rotate_right
  ·subst hk;simp at hp
  ·subst hk;simp at hp
  ·cases e
   exact ⟨rfl,_,rfl,news_of hcell⟩
 have HP:=Lib.hid hpos
 clear hpos h0 h
 have hmk:∀ w:World,(Instr.makeSlice 28 (.int .i64 64) (.int .i64 64)).run Tryd.prog w=.ok (.slice (some ⟨w.heap.size,0,none⟩) 64 64) (w.alloc (.cells (c8l (List.replicate 64 0)).toArray 5)):=make64
 clear hn
 have hn64:n ≤ 64:=by have:=HN.out;omega
 go_enter Tryd.func80,Tryd.ntmps80
 go_wp2_with (refine wpList_copy_splice rfl (.tmp 8) (.tmp 9) 28 28 rfl 5 Tryd.underlying28 info5s (some ⟨w.heap.size,0,none⟩) a 64 64 n cp rfl rfl w.heap.size 0 (c8l (List.replicate 64 0)) 5 (Df _ _ _) (c8l key) (by rw [A6,HN.out];exact (Nat.min_eq_left (by omega)).symm) HP.out (by rw [A6,A6];simp;omega) (Hq _) w.heap.size w hb0 (Nat.le_refl _) ?_;intro w2 HG2 hb2)
 rw [splice_key key hl] at HG2
 clear hmk
 go_wp2
 go_loopw [13] (ChgR key c w) (fun i _=>64 - (intOf i).toNat)
 case atStart=>exact ⟨0,by omega,rfl,HG2.out,hb2⟩
 case round =>
  obtain ⟨k,hk,rfl,hG,hb3⟩:=hrel
  have HG:=Lib.hid hG
  clear hG
  by_cases h64:k < 64
  ·have d64:decide ((k:Int) < 64)=true:=decide_eq_true (by omega)
   have ck:=I0 HG.out k (by rw [Lh _ _ _ hl];exact h64)
   have fk:=Do HG.out k
   have HF:=Lib.hid (row8_set HG.out k (at8 (chgTo key c k) k ^^^ c))
   go_wp2
   go_roundw
   case rel=>exact ⟨k + 1,by omega,by go_num,HF.out,hb3.setCell (Nat.le_refl _) _⟩
   case measure=>simp [intOf];omega
  ·have d64:decide ((k:Int) < 64)=false:=decide_eq_false (by omega)
   obtain rfl:k=64:=by omega
   go_wp2
   go_ret
   exact ⟨rfl,HG.out,hb3⟩
end Go.Proofs.YtfdfdagbeeeomaaDoor
namespace Go.Proofs.YtfdfdagbeeeomaaDoor
open Go.RowKit
theorem info22:(Tryd.prog.info? 28).map (fun i=>(i.zero,i.size,i.bytes))=some (some (.slice none 0 0),1,24):=by kernel_rfl
def OwnedV (w:World) (n:Nat) (xs:List Value) (e:Ending) (w':World):Prop :=
 ∃ v,e=.returned v ∧ w'.ownsRow w.heap.size 28 1 v n xs ∧ Below w.heap.size w w'
set_option maxHeartbeats 400000 in
theorem clone_nil (w:World):Calls Tryd.prog 79 #[.slice none 0 0] w (OwnedV w 0 []):=by
 have he:=fun w:World=>Lib.run_eql_slice_nil (P:=Tryd.prog) w 27 28 none 0 0 0 0 Tryd.underlying27
 go_enter Tryd.func79,Tryd.ntmps79
 go_wp2
 go_ret
 exact ⟨_,rfl,⟨rfl,.inl ⟨rfl,rfl⟩⟩,Below.refl _ _⟩
set_option maxHeartbeats 400000 in
theorem clone_some (b off c:Nat) (vs:List Value) (w:World) (hlt:b < w.heap.size) (hn:vs.length ≤ 1000000000)
  (hcell:∀ j u,vs[j]?=some u → w.cell? ((⟨b,off,none⟩:Addr).add j)=some u) (h1:∀ u ∈ vs,u.oneCell'=true) :
  Calls Tryd.prog 79 #[.slice (some ⟨b,off,none⟩) vs.length c] w (OwnedV w vs.length vs):=by
 obtain ⟨i0,hi,hz0,hz1,hz2⟩:=info_parts info22
 have HI:=Lib.hid hi
 have HZ:=Lib.hid hz0
 have H1:=Lib.hid hz1
 have H2:=Lib.hid hz2
 clear hi hz0 hz1 hz2
 have he:=fun w:World=>Lib.run_eql_slice_nil (P:=Tryd.prog) w 27 28 (some ⟨b,off,none⟩) vs.length c 0 0 Tryd.underlying27
 have hb0:Below w.heap.size w (w.alloc (.cells #[] 28)):=(Below.refl _ _).alloc (Nat.le_refl _) _
 have hown:(w.alloc (.cells #[] 28)).ownsRow w.heap.size 28 1 (.slice (some ⟨w.heap.size,0,none⟩) 0 0) 0 []:=⟨rfl,.inr ⟨w.heap.size,0,#[],rfl,Nat.le_refl _,Df _ _ _,Nat.le_refl _,by unfold maxLen;omega,rfl,rfl⟩⟩
 have HC:Hid (∀ j u,vs[j]?=some u → (w.alloc (.cells #[] 28)).cell? ((⟨b,off,none⟩:Addr).add j)=some u):=fun j u hu=>by
  have:=hcell j u hu
  rw [Addr.add_mid] at this ⊢
  rw [hb0.cell (p:=⟨b,off + j,none⟩) hlt];exact this
 clear hcell
 go_enter Tryd.func79,Tryd.ntmps79
 go_wp2_with (at_builtin;refine wpList_append_own _ rfl (.tmp 5) (.tmp 6) 27 rfl w.heap.size 28 i0 (.slice none 0 0) 1 24 Tryd.underlying27 HI.out HZ.out H1.out H2.out rfl (by decide) _ _ _ rfl hown ⟨b,off,none⟩ vs.length c vs rfl (by omega) HC.out h1 (by unfold maxLen;omega) (by omega) (by simp) ?_)
 intro v' w2 hown2 hg2 _
 have hb2:Below w.heap.size w w2:=hb0.grown hg2 (by simp) (fun g hg=>Cz hown hg)
 go_wp2
 go_ret
 exact ⟨_,rfl,hown2,hb2⟩
def InsP (base:Nat) (row:Option Nat) (w:World) (cv:Value) (n:Nat) (vs:List Value) (e:Ending) (w':World):Prop :=
 ∃ v,e=.returned v ∧ w'.ownsRow base 28 1 v (n + 1) (cv :: vs) ∧ w.grownBy w' row
theorem grown_of_below {w w':World} (h:Below w.heap.size w w') (row:Option Nat):w.grownBy w' row:=⟨h.os,h.tape,h.output,h.size,fun k hk _=>h.block k hk⟩
set_option maxHeartbeats 400000 in
theorem insert_empty (base vb:Nat) (sv cv:Value) (w:World) (hown:w.ownsRow base 28 1 sv 0 []) (hbase:base ≤ w.heap.size) (hcell:w.cell? ⟨vb,0,none⟩=some cv) (h1:cv.oneCell'=true) :
  Calls Tryd.prog 78 #[sv,.int .i64 0,.slice (some ⟨vb,0,none⟩) 1 1] w (InsP base sv.ownBlock w cv 0 []):=by
 obtain ⟨i0,hi,hz0,hz1,hz2⟩:=info_parts info22
 have HI:=Lib.hid hi
 have HZ:=Lib.hid hz0
 have H1:=Lib.hid hz1
 have H2:=Lib.hid hz2
 clear hi hz0 hz1 hz2
 have HC:Hid (∀ j u,[cv][j]?=some u → w.cell? ((⟨vb,0,none⟩:Addr).add j)=some u):=fun j u hu=>by
  have hj:j=0:=by have:=(List.getElem?_eq_some_iff.1 hu).1;simpa using this
  subst hj
  rw [Addr.add_mid,hcell,← hu];rfl
 clear hcell
 rcases hown.2 with ⟨rfl,_⟩ | ⟨g,cap,cur,rfl,hg,hh,_⟩
 all_goals
  go_enter Tryd.func78,Tryd.ntmps78
  go_wp2_with (at_builtin;refine wpList_append_own _ rfl (.tmp 23) (.tmp 24) 27 rfl base 28 i0 (.slice none 0 0) 1 24 Tryd.underlying27 HI.out HZ.out H1.out H2.out rfl (by decide) _ _ _ rfl hown ⟨vb,0,none⟩ 1 1 [cv] rfl rfl HC.out (by simpa using h1) (by unfold maxLen;omega) (by omega) hbase ?_)
  intro v' w2 hown2 hg2 _
  go_wp2
  go_ret
  exact ⟨_,rfl,hown2,hg2⟩
theorem Ji (k:Nat):Builtin.zeroCells (Value.slice none 0 0).cells k=(List.replicate k (Value.slice none 0 0)).toArray:=by
 apply Array.ext'
 simp only [Builtin.zeroCells,Value.cells]
 apply List.ext_getElem
 ·simp
 ·intro i h1 h2
  simp [Nat.mod_one]
theorem info22s:(Tryd.prog.info? 28).map (·.size)=some 1:=by kernel_rfl
theorem one_pos {w:World} {g b off:Nat} {cv:Value} (hcell:w.cell? ⟨b,0,none⟩=some cv) :
  0 < [cv].length → (some ⟨g,off,none⟩:Option Addr)=some ⟨g,off,none⟩ ∧ ∃ ad,(some ⟨b,0,none⟩:Option Addr)=some ad ∧ ∀ j v,[cv][j]?=some v → w.cell? (ad.add j)=some v:=by
 refine fun _=>⟨rfl,_,rfl,fun j v hv=>?_⟩
 have hj:j=0:=by have:=(List.getElem?_eq_some_iff.1 hv).1;simpa using this
 subst hj
 rw [Addr.add_mid,hcell,← hv];rfl
theorem one_src {w:World} {b:Nat} {cv:Value} (hcell:w.cell? ⟨b,0,none⟩=some cv):∀ j v,[cv][j]?=some v → w.cell? ((⟨b,0,none⟩:Addr).add j)=some v:=by
 intro j v hv
 have hj:j=0:=by have:=(List.getElem?_eq_some_iff.1 hv).1;simpa using this
 subst hj
 rw [Addr.add_mid,hcell,← hv];rfl
theorem row_pos {w:World} {g b off:Nat} {vs:List Value} (h:∀ j v,vs[j]?=some v → w.cell? ((⟨b,0,none⟩:Addr).add j)=some v) :
  0 < vs.length → (some ⟨g,off,none⟩:Option Addr)=some ⟨g,off,none⟩ ∧ ∃ ad,(some ⟨b,0,none⟩:Option Addr)=some ad ∧ ∀ j v,vs[j]?=some v → w.cell? (ad.add j)=some v :=
 fun _=>⟨rfl,_,rfl,h⟩
theorem spl_a (nc:Nat) (cv:Value) (vs:List Value) (h:vs.length + 1 ≤ nc) :
  (splice (splice (List.replicate nc (Value.slice none 0 0)) 0 [cv]) 1 vs).length=nc ∧ (splice (splice (List.replicate nc (Value.slice none 0 0)) 0 [cv]) 1 vs).take (vs.length + 1)=cv :: vs:=by
 have hl:(splice (List.replicate nc (Value.slice none 0 0)) 0 [cv]).length=nc:=by rw [length_splice _ _ _ (by simp;omega)];simp
 refine ⟨by rw [length_splice _ _ _ (by rw [hl];omega),hl],?_⟩
 have e:splice (List.replicate nc (Value.slice none 0 0)) 0 [cv]=cv :: List.replicate (nc - 1) (Value.slice none 0 0):=by simp [splice]
 rw [e]
 simp [splice]
theorem spl_b (cur:List Value) (cv:Value) (vs:List Value) (h:vs.length + 1 ≤ cur.length) :
  (splice (splice cur 1 vs) 0 [cv]).length=cur.length ∧ (splice (splice cur 1 vs) 0 [cv]).take (vs.length + 1)=cv :: vs:=by
 have hl:(splice cur 1 vs).length=cur.length:=length_splice _ _ _ (by omega)
 refine ⟨by rw [length_splice _ _ _ (by rw [hl];simp;omega),hl],?_⟩
 cases cur with
 | nil=>simp at h
 | cons x xs=>simp [splice]
set_option maxRecDepth 100000 in
set_option maxHeartbeats 400000 in
theorem insert_grow (base vb g n cap:Nat) (cv:Value) (vs:List Value) (w:World) (hown:w.ownsRow base 28 1 (.slice (some ⟨g,0,none⟩) n cap) n vs) (hbase:base ≤ w.heap.size) (hn:0 < n) (hn2:n ≤ 1000000000)
  (hcap:cap < n + 1) (hcell:w.cell? ⟨vb,0,none⟩=some cv) (h1:cv.oneCell'=true) (h2:∀ u ∈ vs,u.oneCell'=true) (hvb:vb < w.heap.size) (hgw:g < w.heap.size) :
  Calls Tryd.prog 78 #[.slice (some ⟨g,0,none⟩) n cap,.int .i64 0,.slice (some ⟨vb,0,none⟩) 1 1] w (InsP base (some g) w cv n vs):=by
 obtain ⟨i0,hi,hz0,hz1,hz2⟩:=info_parts info22
 have hvl:vs.length=n:=by have:=hown.1;omega
 have hnc:n ≤ cap:=by
  rcases hown.2 with ⟨e,_⟩ | ⟨g',cap',cur',e,_,_,h,_⟩
  ·cases e
  ·cases e;exact h
 have hvs:∀ j u,vs[j]?=some u → w.cell? ((⟨g,0,none⟩:Addr).add j)=some u:=hown.cells (g:=g) rfl
 have hold:=run_firstCells_some (P:=Tryd.prog) w.drew i0.size 0 ⟨g,0,none⟩ 0 cap [] (by simp) (fun j u hu=>by simp at hu)
 have hr:=Lib.run_append_grow_zeros (P:=Tryd.prog) w 27 3 27 28 i0 (.slice none 0 0) .i64 .i64 Tryd.underlying27 Tryd.underlying3 hi hz0 (some ⟨g,0,none⟩) 0 cap [] hold (n + 1) (by omega) (by rw [hz1];decide) (by omega) (by omega) (by rw [hz2];omega) (growslice_fits (by omega) (by rw [hz2];omega))
 rw [Nat.zero_add,Ji,Ji] at hr
 obtain ⟨nc,hnc2⟩:∃ nc,nc=grownCap w (n + 1) cap 28:=⟨_,rfl⟩
 have hge:=grownCap_ge w (n + 1) cap 28
 have hle:=grownCap_le_maxLen w (n + 1) cap 28 (by unfold maxLen;omega)
 rw [← hnc2] at hr hge hle
 clear hnc2
 have hcat:([]:List Value).toArray ++ (List.replicate (n + 1) (Value.slice none 0 0)).toArray ++ (List.replicate (nc - (n + 1)) (Value.slice none 0 0)).toArray=(List.replicate nc (Value.slice none 0 0)).toArray:=by
  apply Array.ext';simp;omega
 rw [hcat] at hr
 have HR:=Lib.hid hr
 clear hr hcat hold hi hz0 hz1 hz2
 obtain ⟨w1,hw1⟩:∃ w1,w1=w.drew.alloc (.cells (List.replicate nc (Value.slice none 0 0)).toArray 28):=⟨_,rfl⟩
 rw [← hw1] at HR
 have hb1:Below w.heap.size w w1:=by rw [hw1];exact (Below.refl _ _).drew.alloc (by simp) _
 have HG1:Hid (w1.heap[w.heap.size]?=some (.cells (List.replicate nc (Value.slice none 0 0)).toArray 28 (0,0))):=by rw [hw1];exact Df w.drew _ _
 clear hw1
 have c1:w1.cell? ⟨vb,0,none⟩=some cv:=(hb1.cell (p:=⟨vb,0,none⟩) hvb).trans hcell
 have dn:(((n:Int)) == 0)=false:=by simp;omega
 have dn':((0:Int) == (n:Int))=false:=by simp;omega
 have dc:decide ((cap:Int) < (n:Int) + 1)=true:=decide_eq_true (by omega)
 have z1:(0:Int) ≤ (n:Int):=by omega
 go_enter Tryd.func78,Tryd.ntmps78
 go_wp2_with (first | (at_builtin;refine Lib.wpList_append_run w rfl (.tmp 34) (.tmp 39) 27 3 rfl (.slice (some ⟨g,0,none⟩) 0 cap) (.int .i64 ((n + 1:Nat):Int)) rfl rfl _ _ HR.out ?_) | (refine wpList_copy_splice rfl (.tmp 43) (.tmp 44) 27 27 rfl 28 Tryd.underlying27 info22s (some ⟨w.heap.size,0,none⟩) (some ⟨vb,0,none⟩) (n + 1) nc 1 1 rfl rfl w.heap.size 0 _ 28 HG1.out [cv] (by simp) (one_pos c1) (by simp;omega) (by simpa using h1) w.heap.size w hb1 (Nat.le_refl _) ?_;intro w2 HG2 hb2))
 go_frame
 have hz2:=hb2.size
 have HV2:Hid (∀ j u,vs[j]?=some u → w2.drew.cell? ((⟨g,0,none⟩:Addr).add j)=some u):=fun j u hu=>by
  have:=hvs j u hu
  rw [Addr.add_mid] at this ⊢
  rw [hb2.drew.cell (p:=⟨g,0 + j,none⟩) hgw];exact this
 clear hvs
 have HG2d:Hid (w2.drew.heap[w.heap.size]?=some (.cells (splice (List.replicate nc (Value.slice none 0 0)) 0 [cv]).toArray 28 (0,0))):=HG2.out
 have e1:IntKind.i64.wrap 1=1:=by decide
 have ne1:¬ nc=1:=by omega
 have q1:(1:Int) ≤ (n:Int) + 1:=by omega
 have q2:(1:Int) ≤ (nc:Int):=by omega
 have q3:(1:Int) < (nc:Int):=by omega
 go_still_tail 8,(by kernel_rfl)
 change wpList _ _ _ _ _ w2.drew
 refine wpList_copy_splice rfl (.tmp 50) (.tmp 53) 27 27 rfl 28 Tryd.underlying27 info22s (some ⟨w.heap.size,1,none⟩) (some ⟨g,0,none⟩) n (nc - 1) n cap rfl rfl w.heap.size 1 _ 28 HG2d.out vs (by simp;omega) (row_pos HV2.out) (by rw [length_splice _ _ _ (by simp;omega)];simp;omega) h2 w.heap.size w hb2.drew (Nat.le_refl _) ?_
 intro w3 HG3 hb3
 go_wp2
 go_ret
 obtain ⟨t1,t2⟩:=spl_a nc cv vs (by omega)
 exact ⟨_,rfl,⟨by simp [hvl],.inr ⟨w.heap.size,nc,_,rfl,hbase,HG3.out,hge,hle,by simp [t1],by simp only [Nat.mul_one];rw [← hvl];exact t2⟩⟩,grown_of_below hb3 _⟩
theorem size22 (w:World):(Go.sizeOf 28).run Tryd.prog w=.ok 1 w:=by
 obtain ⟨i0,hi,hz0,hz1,hz2⟩:=info_parts info22
 simp [sizeOf,typeInfo,hi,hz1]
set_option maxRecDepth 100000 in
set_option maxHeartbeats 400000 in
theorem insert_room (base vb g n cap:Nat) (cv:Value) (vs:List Value) (w:World) (hown:w.ownsRow base 28 1 (.slice (some ⟨g,0,none⟩) n cap) n vs) (_hbase:base ≤ w.heap.size) (hn:0 < n) (hn2:n ≤ 1000000000)
  (hcap:n + 1 ≤ cap) (hcell:w.cell? ⟨vb,0,none⟩=some cv) (h1:cv.oneCell'=true) (h2:∀ u ∈ vs,u.oneCell'=true) (hvg:vb ≠ g) (hvr:∃ C,w.heap[vb]?=some (.cells C 28 (0,0))) :
  Calls Tryd.prog 78 #[.slice (some ⟨g,0,none⟩) n cap,.int .i64 0,.slice (some ⟨vb,0,none⟩) 1 1] w (InsP base (some g) w cv n vs):=by
 have hvl:vs.length=n:=by have:=hown.1;omega
 have hvs:∀ j u,vs[j]?=some u → w.drew.cell? ((⟨g,0,none⟩:Addr).add j)=some u:=hown.cells (g:=g) rfl
 obtain ⟨cur,hbg,hg,hcm,hcs,htake⟩:∃ cur:Array Value,base ≤ g ∧ w.heap[g]?=some (.cells cur 28 (0,0)) ∧ cap ≤ maxLen ∧ cur.size=cap ∧ cur.toList.take n=vs:=by
  rcases hown.2 with ⟨e,_⟩ | ⟨g',cap',cur',e,h1,h2,_,h3,h4,h5⟩
  ·cases e
  ·cases e;exact ⟨cur',h1,h2,h3,by simpa using h4,by simpa using h5⟩
 have HG:=Lib.hid hg
 have HV:=Lib.hid hvs
 clear hg hvs
 have hcmx:cap ≤ 9223372036854775807:=hcm
 have dn:(((n:Int)) == 0)=false:=by simp;omega
 have dn':((0:Int) == (n:Int))=false:=by simp;omega
 have dc:decide ((cap:Int) < (n:Int) + 1)=false:=decide_eq_false (by omega)
 have z1:(0:Int) ≤ (n:Int):=by omega
 have e1:IntKind.i64.wrap 1=1:=by decide
 have ne1:¬ cap=1:=by omega
 have hov:(callFunc 90 #[.slice (some ⟨vb,0,none⟩) 1 1,.slice (some ⟨g,1,none⟩) n (cap - 1)]).run Tryd.prog w=.ok (.value (.bool false)) w:=by
  obtain ⟨C,hC⟩:=hvr
  rw [run_callFunc_extern Tryd.func90 (by kernel_rfl) (by kernel_rfl) (by kernel_rfl) (e:=Extern.SlicesOverlaps.overlaps #[27,27] #[4]) (by kernel_rfl),
   Lib.run_overlaps_apart w 27 4 28 Tryd.underlying27 1 size22 ⟨vb,0,none⟩ ⟨g,1,none⟩ 1 1 n (cap - 1) hvg 28 28 C.size cur.size (by simp [World.shape?,hC]) (by have:=HG.out;simp [World.shape?,this]) (by omega) (Do hC 0) (Do hC C.size)]
  rfl
 have HGd:Hid (w.drew.heap[g]?=some (.cells cur.toList.toArray 28 (0,0))):=by rw [Array.toArray_toList];exact HG.out
 have q1:(1:Int) ≤ (n:Int) + 1:=by omega
 have q2:(1:Int) ≤ (cap:Int):=by omega
 have q3:(1:Int) < (cap:Int):=by omega
 have z2:(0:Int) ≤ (n:Int) + 1:=by omega
 have ne0:¬ cap=0:=by omega
 go_enter Tryd.func78,Tryd.ntmps78
 go_wp2
 go_still_tail 8,(by kernel_rfl)
 change wpList _ _ _ _ _ w.drew
 refine wpList_copy_own rfl (.tmp 73) (.tmp 76) 27 27 rfl 28 Tryd.underlying27 info22s g 1 n (cap - 1) ⟨g,0,none⟩ (n + 1) cap rfl rfl cur.toList.toArray 28 HGd.out vs (by simp;omega) (fun j v hv=>HV.out j v hv) (by simp;omega) h2 ?_
 have HG3:Hid ((w.drew.setRow g (splice cur.toList 1 vs).toArray).heap[g]?=some (.cells (splice cur.toList 1 vs).toArray 28 (0,0))):=setRow_heap _ _ _ _ _ _ HGd.out
 have hg3:w.grownBy (w.drew.setRow g (splice cur.toList 1 vs).toArray) (some g):=⟨rfl,rfl,rfl,by simp,fun k hk hne=>setRow_other _ _ _ _ (fun e=>hne (by rw [e]))⟩
 have c3:(w.drew.setRow g (splice cur.toList 1 vs).toArray).cell? ⟨vb,0,none⟩=some cv:=(World.cell?_of_block (setRow_other _ _ _ _ hvg)).trans hcell
 change wpList _ _ _ _ _ (w.drew.setRow g (splice cur.toList 1 vs).toArray)
 generalize w.drew.setRow g (splice cur.toList 1 vs).toArray=w3 at *
 go_wp2_with (refine wpList_copy_own rfl (.tmp 80) (.tmp 81) 27 27 rfl 28 Tryd.underlying27 info22s g 0 (n + 1) cap ⟨vb,0,none⟩ 1 1 rfl rfl (splice cur.toList 1 vs).toArray 28 HG3.out [cv] (by simp) (one_src c3) (by simp;rw [length_splice _ _ _ (by simp;omega)];simp;omega) (by simpa using h1) ?_)
 have e4:splice (splice cur.toList 1 vs) 0 [cv]=cv :: (splice cur.toList 1 vs).tail:=by
  have:∀ L:List Value,splice L 0 [cv]=cv :: L.tail:=fun L=>by simp [splice]
  exact this _
 obtain ⟨t1,t2⟩:=spl_b cur.toList cv vs (by simp;omega)
 rw [e4] at t1 t2
 go_ret
 exact ⟨_,rfl,⟨by simp [hvl],.inr ⟨g,cap,_,rfl,hbg,setRow_heap _ _ _ _ _ _ HG3.out,hcap,hcm,by rw [List.size_toArray,t1];simp [hcs],by simp only [Nat.mul_one];rw [← hvl];exact t2⟩⟩,
  ⟨hg3.os,hg3.tape,hg3.output,by simpa using hg3.size,fun k hk hne=>(setRow_other _ _ _ _ (fun e=>hne (by rw [e]))).trans (hg3.block k hk hne)⟩⟩
end Go.Proofs.YtfdfdagbeeeomaaDoor
namespace Go.Proofs.YtfdfdagbeeeomaaDoor
open Go.RowKit
theorem BSl.one {w:World} {v:Value} {bs:List UInt8} (h:BSl w v bs):v.oneCell'=true:=by
 rcases h with ⟨rfl,_⟩ | ⟨b,off,c,rfl,_⟩ | ⟨a,rfl,_⟩ <;> rfl
theorem clone_any (pv:Value) (vs:List Value) (ps:List (List UInt8)) (w:World) (h:PSl w pv vs ps) (hc0:ps.length ≤ 1000000000) :
  Calls Tryd.prog 79 #[pv] w (OwnedV w ps.length vs):=by
 rcases h.lies with ⟨rfl,rfl⟩ | ⟨b,off,c,rfl,hc,hlt,hcell⟩
 ·obtain rfl:vs=[]:=List.eq_nil_of_length_eq_zero h.len
  exact clone_nil w
 ·rw [← h.len]
  refine clone_some b off c vs w hlt (by rw [h.len];exact hc0) (fun j u hu=>?_) (fun u hu=>?_)
  ·have hj:j < vs.length:=(List.getElem?_eq_some_iff.1 hu).1
   rw [Addr.add_mid,hcell j (by rw [← h.len];exact hj)]
   simp [atV,hu]
  ·obtain ⟨j,hj,rfl⟩:=List.getElem_of_mem hu
   have:=(h.each j (by rw [← h.len];exact hj)).one
   simpa [atV,hj] using this
theorem insert_any (base vb n:Nat) (sv cv:Value) (vs:List Value) (w:World) (hown:w.ownsRow base 28 1 sv n vs) (hbase:base ≤ w.heap.size) (hn2:n ≤ 1000000000)
  (hcell:w.cell? ⟨vb,0,none⟩=some cv) (h1:cv.oneCell'=true) (h2:∀ u ∈ vs,u.oneCell'=true) (hvb:vb < w.heap.size) (hvg:∀ g,sv.ownBlock=some g → vb ≠ g) (hvr:∃ C,w.heap[vb]?=some (.cells C 28 (0,0))) :
  Calls Tryd.prog 78 #[sv,.int .i64 0,.slice (some ⟨vb,0,none⟩) 1 1] w (InsP base sv.ownBlock w cv n vs):=by
 by_cases h0:n=0
 ·subst h0
  obtain rfl:vs=[]:=List.eq_nil_of_length_eq_zero (by simpa using hown.1)
  exact insert_empty base vb sv cv w hown hbase hcell h1
 ·rcases hown.2 with ⟨rfl,h⟩ | ⟨g,cap,cur,rfl,hbg,hg,hnc,_⟩
  ·omega
  ·by_cases hc:n + 1 ≤ cap
   ·exact insert_room base vb g n cap cv vs w hown hbase (by omega) hn2 hc hcell h1 h2 (hvg g rfl) hvr
   ·exact insert_grow base vb g n cap cv vs w hown hbase (by omega) hn2 (by omega) hcell h1 h2 hvb (Array.getElem?_eq_some_iff.1 hg).1
theorem owns_below {w w':World} {base e size B n:Nat} {v:Value} {xs:List Value} (h:w.ownsRow base e size v n xs) (hb:Below B w w') (hB:w.heap.size ≤ B):w'.ownsRow base e size v n xs:=by
 refine ⟨h.1,?_⟩
 rcases h.2 with h | ⟨g,cap,cur,e1,h1,hh,h2⟩
 ·exact .inl h
 ·exact .inr ⟨g,cap,cur,e1,h1,(hb.block g (Nat.lt_of_lt_of_le (Array.getElem?_eq_some_iff.1 hh).1 hB)).trans hh,h2⟩
theorem owns_lt {w:World} {base e size n:Nat} {v:Value} {xs:List Value} (h:w.ownsRow base e size v n xs) {g:Nat} (hg:v.ownBlock=some g):g < w.heap.size:=by
 rcases h.2 with ⟨rfl,_⟩ | ⟨g',cap,cur,rfl,_,hh,_⟩
 ·cases hg
 ·cases hg;exact (Array.getElem?_eq_some_iff.1 hh).1
theorem PSl.of_owns {w:World} {base n:Nat} {v:Value} {vs:List Value} {ps:List (List UInt8)} (h:w.ownsRow base 28 1 v n vs) (hl:vs.length=ps.length) (he:∀ j,j < ps.length → BSl w (atV vs j) (atP ps j)):PSl w v vs ps:=by
 have hn:n=ps.length:=by have:=h.1;omega
 subst hn
 refine ⟨hl,?_,he⟩
 rcases h.2 with ⟨rfl,h0⟩ | ⟨g,cap,cur,rfl,hg,hh,hc,hm,hs,ht⟩
 ·exact .inl ⟨rfl,List.eq_nil_of_length_eq_zero h0⟩
 ·refine .inr ⟨g,0,cap,rfl,hc,(Array.getElem?_eq_some_iff.1 hh).1,fun j hj=>?_⟩
  rw [Nat.zero_add,cell_of_row w g j cur 28 (0,0) hh]
  have:vs[j]?=some (atV vs j):=by simp [atV,show j < vs.length by omega]
  rw [← this,← ht,List.getElem?_take,if_pos (by omega)]
  simp
theorem BSl.of_row {w:World} {g T c:Nat} {bs:List UInt8} (h:w.heap[g]?=some (.cells (c8 bs) T (0,0))) (hc:bs.length ≤ c) (n:Nat) (hn:n=bs.length):BSl w (.slice (some ⟨g,0,none⟩) n c) bs:=by
 subst hn
 exact .inr (.inl ⟨g,0,c,rfl,hc,(Array.getElem?_eq_some_iff.1 h).1,fun j hj=>by rw [Nat.zero_add];exact I0 h j hj⟩)
theorem Jt (x:Value) (vs:List Value):atV (x :: vs) 0=x:=rfl
theorem Ju (x:Value) (vs:List Value) (j:Nat):atV (x :: vs) (j + 1)=atV vs j:=rfl
theorem Jv (x:List UInt8) (ps:List (List UInt8)):atP (x :: ps) 0=x:=rfl
theorem Jw (x:List UInt8) (ps:List (List UInt8)) (j:Nat):atP (x :: ps) (j + 1)=atP ps j:=rfl
theorem GlobK.below {w w':World} (h:GlobK w) (hb:Below w.heap.size w w') (h3:3 < w.heap.size):GlobK w':=fun i hi=>(hb.cell (p:=⟨3,i,none⟩) h3).trans (h i hi)
theorem GlobS.below {w w':World} (h:GlobS w) (hb:Below w.heap.size w w') (h3:3 < w.heap.size):GlobS w':=fun i hi=>(hb.cell (p:=⟨2,i,none⟩) (by simp;omega)).trans (h i hi)
theorem I8 (a:Option Addr) (n cp:Nat) (key:List UInt8) (k:Int) (c:UInt8) (hc:N8 c=k) (w:World) (hn:n=key.length) (h:BSl w (.slice a n cp) key) (hl:key.length ≤ 64) :
  Calls Tryd.prog 80 #[.slice a n cp,.int .u8 k] w (ChgP key c w):=by
 subst hc;exact changed_at a n cp key c w hn h hl
theorem BSl.same {w w':World} {v:Value} {bs:List UInt8} (h:BSl w v bs) (e:w'.heap=w.heap):BSl w' v bs:=by
 rcases h with h | ⟨b,off,c,e1,hc,hlt,hcell⟩ | h
 ·exact .inl h
 ·exact .inr (.inl ⟨b,off,c,e1,hc,by rw [e];exact hlt,fun j hj=>by rw [← hcell j hj];unfold World.cell?;rw [e]⟩)
 ·exact .inr (.inr h)
theorem two_psl {w:World} {x y:Value} {p q:List UInt8} (hx:BSl w x p) (hy:BSl w y q):PSl (w.alloc (.cells #[x,y] 28)) (.slice (some ⟨w.heap.size,0,none⟩) 2 2) [x,y] [p,q]:=by
 have hb:Below w.heap.size w (w.alloc (.cells #[x,y] 28)):=(Below.refl _ _).alloc (Nat.le_refl _) _
 refine ⟨rfl,.inr ⟨w.heap.size,0,2,rfl,Nat.le_refl _,by simp,fun j hj=>?_⟩,fun j hj=>?_⟩
 ·rw [Nat.zero_add,cell_of_row _ _ j _ 28 (0,0) (Df _ _ _)]
  match j,hj with
  | 0,_=>rfl
  | 1,_=>rfl
 ·match j,hj with
  | 0,_=>exact hx.below hb (Nat.le_refl _)
  | 1,_=>exact hy.below hb (Nat.le_refl _)
theorem mid_psl {w5 w6 w7:World} {key hm:List UInt8} (hk64:key.length ≤ 64) (hml:hm.length=32) (hz:w5.heap.size < w6.heap.size) (hG6:w6.heap[w5.heap.size]?=some (.cells (c8 hm) 130 (0,0)))
  (hG7:w7.heap[w6.drew.heap.size]?=some (.cells (c8 (chg key 92)) 5 (0,0))) (hb7:Below w6.drew.heap.size w6.drew w7) :
  PSl (w7.alloc (.cells #[.slice (some ⟨w6.heap.size,0,none⟩) 64 64,.slice (some ⟨w5.heap.size,0,none⟩) 32 32] 28)) (.slice (some ⟨w7.heap.size,0,none⟩) 2 2) [.slice (some ⟨w6.heap.size,0,none⟩) 64 64,.slice (some ⟨w5.heap.size,0,none⟩) 32 32] [chg key 92,hm]:=by
 have hl:=Eg key 92 hk64
 refine two_psl (BSl.of_row (T:=5) (c:=64) hG7 (by omega) 64 hl.symm) (BSl.of_row (T:=130) (c:=32) ?_ (by omega) 32 hml.symm)
 exact (hb7.block _ hz).trans hG6
theorem Mv {P:Program} {fn:Func} {p:Tmp} {ty:TypeId} (h:fn.results=#[.cell p ty]) (tmps:Array Value) (w:World) (b:Nat) (cs:List Value) (d:TypeDesc)
  (hp:tmps.getD p undef=.pointer (some ⟨b,0,none⟩)) (hc:w.rangeAt b 0 cs) (hu:P.underlying ty=some d) (hd:d.isRow=true) (hi:(P.info? ty).map (·.size)=some cs.length) :
  (results fn tmps).run P w=.ok (.agg cs.toArray) w:=by
 have hp':tmps[p]?.getD undef=.pointer (some ⟨b,0,none⟩):=by simpa using hp
 simp [results,h,hp',asAddr,run_loadVar_mid w b 0 ty cs d hc hu hd hi]
theorem Km {w:World} {b T:Nat} {l:List UInt8} (h:w.heap[b]?=some (.cells (c8 l) T (0,0))):w.there b 0 l.length:=fun j hj=>by
 rw [Nat.zero_add]
 exact ⟨by rw [I0 h j hj];rfl,Do h j⟩
theorem Ch {B:Nat} {w w':World} {b o n:Nat} (h:w.there b o n) (hb:Below B w w') (hB:b < B):w'.there b o n:=fun j hj=>by
 rw [hb.cell (p:=⟨b,o + j,none⟩) hB,hb.frozen (p:=⟨b,o + j,none⟩) hB];exact h j hj
def hmS (key msg:List UInt8):List UInt8:=Lz (chg key 92 ++ Lz (chg key 54 ++ msg))
def hmB (key msg:List UInt8):List UInt8:=hmS (if key.length > 64 then Lz key else key) msg
attribute [local irreducible] chg Lz
theorem Ip {B b:Nat} {a:World} (hb:B ≤ b):∀ (vs:List Value) (o:Nat) (w:World),Below B a w → Below B a (w.setCells b o vs)
 | [],_,_,h=>h
 | _ :: r,o,_,h=>Ip hb r (o + 1) _ (h.setCell hb _)
theorem mid_len {key hm:List UInt8} (hk64:key.length ≤ 64) (hml:hm.length=32):([chg key 92,hm].flatten).length ≤ 100000000000:=by
 have hl:=Eg key 92 hk64
 simp [hl,hml]
theorem Ex {o:Obj} (w:World):Below w.heap.size w (w.alloc o):=(Below.refl _ _).alloc (Nat.le_refl _) _
theorem Cu {w w6 w7:World} {o:Obj} (h6:Below w.heap.size w w6) (h7:Below w6.drew.heap.size w6.drew w7):Below w.heap.size w (w7.alloc o) :=
 (h6.drew.trans (h7.mono h6.size)).alloc (Nat.le_trans h6.size h7.size) _
theorem mid_lt {w w':World} (h3:3 < w.heap.size) (h:Below w.heap.size w w'):3 < w'.heap.size:=Nat.lt_of_lt_of_le h3 h.size
theorem K5 {n:Nat} {w6 w7:World} (h:n < w6.heap.size) (h7:Below w6.drew.heap.size w6.drew w7):n < w7.heap.size:=Nat.lt_of_lt_of_le h h7.size
theorem mid_lt3 {n:Nat} {w6 w7:World} {o:Obj} (h:n < w6.heap.size) (h7:Below w6.drew.heap.size w6.drew w7):n < (w7.alloc o).heap.size:=by
 have:=K5 h h7;simp;omega
set_option maxRecDepth 100000 in
set_option maxHeartbeats 1000000 in
theorem hmac_short (kv pv:Value) (key:List UInt8) (vs:List Value) (ps:List (List UInt8)) (w:World) (hk:BSl w kv key) (hk64:key.length ≤ 64) (hP:PSl w pv vs ps) (hc0:ps.length ≤ 100000000) (ht:ps.flatten.length ≤ 10000000000)
  (hK:GlobK w) (hS:GlobS w) (h3:3 < w.heap.size) :
  Calls Tryd.prog 68 #[kv,pv] w fun e w'=>e=.returned (.agg (c8 (hmS key ps.flatten))) ∧ Below w.heap.size w w':=by
 have HK:Hid (GlobK w):=hK
 have HS:Hid (GlobS w):=hS
 clear hK hS
 obtain ⟨a0,c0,hkv⟩:=hk.len
 subst hkv
 have d64:decide ((64:Int) < (key.length:Int))=false:=decide_eq_false (by omega)
 have HR1:=Lib.hid (Dn w)
 go_enter Tryd.func68,Tryd.ntmps68
 go_wp2_with fail
 generalize hw1:w.alloc _=w1 at HR1 ⊢
 have hb1:Below w.heap.size w w1:=by rw [← hw1];exact (Below.refl _ _).alloc (Nat.le_refl _) _
 have HZ1:Hid (w.heap.size < w1.heap.size):=by rw [← hw1];simp [Hid]
 clear hw1
 have hk1:=hk.below hb1 (Nat.le_refl _)
 refine (clone_any pv vs ps w1 (hP.below hb1 (Nat.le_refl _)) (by omega)).mono ?_
 rintro e w2 ⟨v2,rfl,hown2,hb2⟩
 have hz2:=hb2.size
 have hbw2:Below w.heap.size w w2:=hb1.trans (hb2.mono (by have:=HZ1.out;omega))
 go_wp2_with fail
 refine (I8 a0 key.length c0 key 54 54 rfl w2 rfl (hk1.below hb2 (Nat.le_refl _)) hk64).mono ?_
 rintro e w3 ⟨rfl,hG3,hb3⟩
 have HG3:=Lib.hid hG3
 clear hG3
 have hz3:=hb3.size
 have hz3':w2.heap.size < w3.heap.size:=(Array.getElem?_eq_some_iff.1 HG3.out).1
 go_wp2_with fail
 have hb3':Below w2.heap.size w2 (w3.alloc (.cells #[.slice (some ⟨w2.heap.size,0,none⟩) 64 64] 28)):=hb3.alloc hz3 _
 refine (insert_any w1.heap.size w3.heap.size ps.length v2 (.slice (some ⟨w2.heap.size,0,none⟩) 64 64) vs _ (owns_below hown2 hb3' (Nat.le_refl _)) (by simp;omega) (by omega) (by simp) rfl ?_ (by simp) (fun g hg=>by have:=owns_lt hown2 hg;omega) ⟨_,Df _ _ _⟩).mono ?_
 ·intro u hu
  obtain ⟨j,hj,rfl⟩:=List.getElem_of_mem hu
  have:=(hP.each j (by rw [← hP.len];exact hj)).one
  simpa [atV,hj] using this
 rintro e w4 ⟨v4,rfl,hown4,hg4⟩
 have hb4:Below w1.heap.size w1 w4:=(hb2.trans (hb3'.mono hz2)).grown hg4 (by simp;omega) (fun g hg=>Cz hown2 hg)
 have hbw4:Below w.heap.size w w4:=hb1.trans (hb4.mono (by have:=HZ1.out;omega))
 have HG4:Hid (w4.heap[w2.heap.size]?=some (.cells (c8 (chg key 54)) 5 (0,0))):=by
  show _=_
  rw [hg4.block _ (by simp;omega) (fun e=>by have:=owns_lt hown2 e.symm;omega),Below.heap_alloc _ _ _ hz3']
  exact HG3.out
 have hP4:PSl w4 v4 (.slice (some ⟨w2.heap.size,0,none⟩) 64 64 :: vs) (chg key 54 :: ps):=by
  refine PSl.of_owns hown4 (by simp [hP.len]) (fun j hj=>?_)
  cases j with
  | zero =>
   rw [Jt,Jv]
   have hl:=Eg key 54 hk64
   exact BSl.of_row HG4.out (by rw [hl];exact Nat.le_refl _) 64 hl.symm
  | succ j =>
   rw [Ju,Jw]
   exact (hP.each j (by simpa using hj)).below hbw4 (Nat.le_refl _)
 have hz4:=hb4.size
 go_wp2_with fail
 refine (Ks v4 _ (chg key 54 :: ps) w4 hP4 (by simp;omega) (by rw [List.flatten_cons,List.length_append,Eg _ _ hk64];omega) (HK.out.below hbw4 h3) (HS.out.below hbw4 h3) (by have:=hbw4.size;omega)).mono ?_
 rintro e w5 ⟨rfl,hb5⟩
 have hbw5:Below w.heap.size w w5:=hbw4.trans (hb5.mono hbw4.size)
 obtain ⟨hm,hhm⟩:∃ hm,hm=Lz (chg key 54 :: ps).flatten:=⟨_,rfl⟩
 rw [← hhm]
 have hml:hm.length=32:=by rw [hhm];exact Dw _
 have HHM:=Lib.hid hhm
 clear hhm
 have HI24:Hid ((Tryd.prog.info? 130).map (·.size)=some (c8 hm).size):=by rw [Dq,hml];exact Ij
 have HQ:Hid ((c8 (List.replicate 32 0)).size=(c8 hm).size):=by rw [Dq,Dq,hml];simp [Hid]
 have HML:=Lib.hid hml
 clear hml
 go_wp2_with (refine wpList_store_row rfl 130 (.tmp 6) (.tmp 20) rfl w5.heap.size (c8 hm) rfl rfl 130 _ (Dn w5) HI24.out HQ.out (c8_one _) ?_)
 go_frame
 generalize hw6:(w5.alloc _).setRow w5.heap.size (c8 hm)=w6
 have hb6:Below w5.heap.size w5 w6:=by rw [← hw6];exact Cn ((Below.refl _ _).alloc (Nat.le_refl _) _) (Nat.le_refl _) _
 have HG6:Hid (w6.heap[w5.heap.size]?=some (.cells (c8 hm) 130 (0,0))):=by rw [← hw6];exact setRow_heap _ _ _ _ _ _ (Dn w5)
 clear hw6
 have hz6:w5.heap.size < w6.heap.size:=(Array.getElem?_eq_some_iff.1 HG6.out).1
 have hbw6:Below w.heap.size w w6:=hbw5.trans (hb6.mono hbw5.size)
 have HR6:Hid (w6.heap[w.heap.size]?=some (.cells (c8 (List.replicate 32 0)) 130 (0,0))):=by
  show _=_
  rw [hb6.block _ (by have:=HZ1.out;have:=hb5.size;omega),hb5.block _ (by have:=HZ1.out;omega),hb4.block _ (by have:=HZ1.out;omega)]
  exact HR1.out
 have hT6:w6.there w.heap.size 0 32:=by have:=Km HR6.out;rwa [List.length_replicate] at this
 obtain ⟨X,hX⟩:∃ X,X=Lz [chg key 92,hm].flatten:=⟨_,rfl⟩
 have hXl:X.length=32:=by rw [hX];exact Dw _
 have hXc:(c8l X).length=32:=by rw [A6];exact hXl
 have hX1:∀ v ∈ c8l X,v.oneCell'=true:=Hq X
 have hi24:=Ij
 have HX:=Lib.hid hX
 clear hX hXl
 have hk6:=hk1.below (hb4.trans ((hb5.mono hb4.size).trans (hb6.mono (Nat.le_trans hb4.size hb5.size)))) (Nat.le_refl _)
 have hRz6:w.heap.size < w6.heap.size:=by have:=HZ1.out;have:=hb5.size;omega
 go_region_held3 (fun W=>W.there w.heap.size 0 32) (first | exact hT6 | exact hT7 | exact Ch hT7 (Ex w7) (K5 hRz6 hb7) | exact hT8 | exact World.there_setCells hT8 _ _ _)
  (first | (go_at_call 80;refine (I8 a0 key.length c0 key 92 92 rfl _ rfl ?_ hk64).mono ?_;exact hk6.same rfl;rintro e w7 ⟨rfl,hG7,hb7⟩;have HG7:=Lib.hid hG7;clear hG7;have hT7:w7.there w.heap.size 0 32:=Ch (w:=w6.drew) hT6 hb7 hRz6) | (go_at_call 77;refine (Ks _ _ _ _ (mid_psl hk64 HML.out hz6 HG6.out HG7.out hb7) (by simp) ?_ ?_ ?_ ?_).mono ?_;exact mid_len hk64 HML.out;exact HK.out.below (Cu hbw6 hb7) h3;exact HS.out.below (Cu hbw6 hb7) h3;exact mid_lt h3 (Cu hbw6 hb7);(rw [← HX.out]);rintro e w8 ⟨rfl,hb8⟩;have hT8:w8.there w.heap.size 0 32:=Ch (Ch hT7 (Ex w7) (K5 hRz6 hb7)) hb8 (mid_lt3 hRz6 hb7)))
 go_wp2
 have hrs:(w8.setCells w.heap.size 0 (c8l X)).rangeAt w.heap.size 0 (c8l X):=World.rangeAt_setCells_same _ _ _ _ (by rw [hXc];exact hT8)
 have hfin:Below w.heap.size w (w8.setCells w.heap.size 0 (c8l X)):=Ip (Nat.le_refl _) _ _ _ ((Cu hbw6 hb7).trans (hb8.mono (Cu hbw6 hb7).size))
 refine bodyPost_ret (v:=.agg (c8 X)) (Mv (p:=4) (ty:=130) rfl _ _ w.heap.size (c8l X) _ rfl hrs Tryd.underlying130 rfl (by rw [hXc];exact Ij)) rfl ⟨?_,hfin⟩
 rw [HX.out,HHM.out]
 simp [hmS]
theorem one_psl {w:World} {x:Value} {p:List UInt8} (hx:BSl w x p):PSl (w.alloc (.cells #[x] 28)) (.slice (some ⟨w.heap.size,0,none⟩) 1 1) [x] [p]:=by
 have hb:Below w.heap.size w (w.alloc (.cells #[x] 28)):=(Below.refl _ _).alloc (Nat.le_refl _) _
 refine ⟨rfl,.inr ⟨w.heap.size,0,1,rfl,Nat.le_refl _,by simp,fun j hj=>?_⟩,fun j hj=>?_⟩
 ·rw [Nat.zero_add,cell_of_row _ _ j _ 28 (0,0) (Df _ _ _)]
  match j,hj with
  | 0,_=>rfl
 ·match j,hj with
  | 0,_=>exact hx.below hb (Nat.le_refl _)
set_option maxRecDepth 100000 in
set_option maxHeartbeats 1000000 in
theorem hmac_long (kv pv:Value) (key:List UInt8) (vs:List Value) (ps:List (List UInt8)) (w:World) (hk:BSl w kv key) (hlong:64 < key.length) (hkl:key.length ≤ 10000000000) (hP:PSl w pv vs ps) (hc0:ps.length ≤ 100000000) (ht:ps.flatten.length ≤ 10000000000)
  (hK:GlobK w) (hS:GlobS w) (h3:3 < w.heap.size) :
  Calls Tryd.prog 68 #[kv,pv] w fun e w'=>e=.returned (.agg (c8 (hmS (Lz key) ps.flatten))) ∧ Below w.heap.size w w':=by
 have HK:Hid (GlobK w):=hK
 have HS:Hid (GlobS w):=hS
 clear hK hS
 obtain ⟨a0,c0,hkv⟩:=hk.len
 subst hkv
 have d64:decide ((64:Int) < (key.length:Int))=true:=decide_eq_true (by omega)
 have HR0:=Lib.hid (Dn w)
 go_enter Tryd.func68,Tryd.ntmps68
 go_wp2_with fail
 generalize hy1:w.alloc _=y1 at HR0 ⊢
 have hby1:Below w.heap.size w y1:=by rw [← hy1];exact (Below.refl _ _).alloc (Nat.le_refl _) _
 have hyz:y1.heap.size=w.heap.size + 1:=by rw [← hy1];simp
 clear hy1
 rw [← hyz]
 have hyz1:w.heap.size < y1.heap.size:=by omega
 clear hyz
 have hby2:Below w.heap.size w (y1.alloc (.cells #[.slice a0 key.length c0] 28)):=hby1.alloc (by omega) _
 refine (Ks _ _ _ _ (one_psl (hk.below hby1 (Nat.le_refl _))) (by simp) (by simp;omega) (HK.out.below hby2 h3) (HS.out.below hby2 h3) (mid_lt h3 hby2)).mono ?_
 rintro e y3 ⟨rfl,hby3⟩
 obtain ⟨ky,hky⟩:∃ ky,ky=Lz [key].flatten:=⟨_,rfl⟩
 rw [← hky]
 have hkyl:ky.length=32:=by rw [hky];exact Dw _
 have HKY:=Lib.hid hky
 clear hky
 have HI24k:Hid ((Tryd.prog.info? 130).map (·.size)=some (c8 ky).size):=by rw [Dq,hkyl];exact Ij
 have HQk:Hid ((c8 (List.replicate 32 0)).size=(c8 ky).size):=by rw [Dq,Dq,hkyl];simp [Hid]
 have HKL:=Lib.hid hkyl
 clear hkyl
 go_wp2_with (first | (refine wpList_store_row rfl 130 (.tmp 5) (.tmp 12) rfl y3.heap.size (c8 ky) rfl rfl 130 _ (Dn y3) HI24k.out HQk.out (c8_one _) ?_))
 generalize hw1:(y3.alloc _).setRow y3.heap.size (c8 ky)=w1
 have hb31:Below y3.heap.size y3 w1:=by rw [← hw1];exact Cn (Ex _) (Nat.le_refl _) _
 have HGK:Hid (w1.heap[y3.heap.size]?=some (.cells (c8 ky) 130 (0,0))):=by rw [← hw1];exact setRow_heap _ _ _ _ _ _ (Dn y3)
 clear hw1
 have hby3s:=hby3.size
 simp only [World.size_alloc] at hby3s
 have hb1:Below w.heap.size w w1:=hby2.trans ((hby3.mono (by simp;omega)).trans (hb31.mono (by omega)))
 have HZ1:Hid (w.heap.size < w1.heap.size):=by have:=hb31.size;show _ < _;omega
 have HR1:Hid (w1.heap[w.heap.size]?=some (.cells (c8 (List.replicate 32 0)) 130 (0,0))):=by
  show _=_
  rw [hb31.block _ (by omega),hby3.block _ (by simp;omega),Below.heap_alloc _ _ _ hyz1]
  exact HR0.out
 have hk1:BSl w1 (.slice (some ⟨y3.heap.size,0,none⟩) 32 32) ky:=BSl.of_row (T:=130) HGK.out (by have:=HKL.out;omega) 32 HKL.out.symm
 have hk64:ky.length ≤ 64:=by have:=HKL.out;omega
 refine (clone_any pv vs ps w1 (hP.below hb1 (Nat.le_refl _)) (by omega)).mono ?_
 rintro e w2 ⟨v2,rfl,hown2,hb2⟩
 have hz2:=hb2.size
 have hbw2:Below w.heap.size w w2:=hb1.trans (hb2.mono (by have:=HZ1.out;omega))
 go_wp2_with fail
 refine (I8 (some ⟨y3.heap.size,0,none⟩) 32 32 ky 54 54 rfl w2 HKL.out.symm (hk1.below hb2 (Nat.le_refl _)) hk64).mono ?_
 rintro e w3 ⟨rfl,hG3,hb3⟩
 have HG3:=Lib.hid hG3
 clear hG3
 have hz3:=hb3.size
 have hz3':w2.heap.size < w3.heap.size:=(Array.getElem?_eq_some_iff.1 HG3.out).1
 go_wp2_with fail
 have hb3':Below w2.heap.size w2 (w3.alloc (.cells #[.slice (some ⟨w2.heap.size,0,none⟩) 64 64] 28)):=hb3.alloc hz3 _
 refine (insert_any w1.heap.size w3.heap.size ps.length v2 (.slice (some ⟨w2.heap.size,0,none⟩) 64 64) vs _ (owns_below hown2 hb3' (Nat.le_refl _)) (by simp;omega) (by omega) (by simp) rfl ?_ (by simp) (fun g hg=>by have:=owns_lt hown2 hg;omega) ⟨_,Df _ _ _⟩).mono ?_
 ·intro u hu
  obtain ⟨j,hj,rfl⟩:=List.getElem_of_mem hu
  have:=(hP.each j (by rw [← hP.len];exact hj)).one
  simpa [atV,hj] using this
 rintro e w4 ⟨v4,rfl,hown4,hg4⟩
 have hb4:Below w1.heap.size w1 w4:=(hb2.trans (hb3'.mono hz2)).grown hg4 (by simp;omega) (fun g hg=>Cz hown2 hg)
 have hbw4:Below w.heap.size w w4:=hb1.trans (hb4.mono (by have:=HZ1.out;omega))
 have HG4:Hid (w4.heap[w2.heap.size]?=some (.cells (c8 (chg ky 54)) 5 (0,0))):=by
  show _=_
  rw [hg4.block _ (by simp;omega) (fun e=>by have:=owns_lt hown2 e.symm;omega),Below.heap_alloc _ _ _ hz3']
  exact HG3.out
 have hP4:PSl w4 v4 (.slice (some ⟨w2.heap.size,0,none⟩) 64 64 :: vs) (chg ky 54 :: ps):=by
  refine PSl.of_owns hown4 (by simp [hP.len]) (fun j hj=>?_)
  cases j with
  | zero =>
   rw [Jt,Jv]
   have hl:=Eg ky 54 hk64
   exact BSl.of_row HG4.out (by rw [hl];exact Nat.le_refl _) 64 hl.symm
  | succ j =>
   rw [Ju,Jw]
   exact (hP.each j (by simpa using hj)).below hbw4 (Nat.le_refl _)
 have hz4:=hb4.size
 go_wp2_with fail
 refine (Ks v4 _ (chg ky 54 :: ps) w4 hP4 (by simp;omega) (by rw [List.flatten_cons,List.length_append,Eg _ _ hk64];omega) (HK.out.below hbw4 h3) (HS.out.below hbw4 h3) (by have:=hbw4.size;omega)).mono ?_
 rintro e w5 ⟨rfl,hb5⟩
 have hbw5:Below w.heap.size w w5:=hbw4.trans (hb5.mono hbw4.size)
 obtain ⟨hm,hhm⟩:∃ hm,hm=Lz (chg ky 54 :: ps).flatten:=⟨_,rfl⟩
 rw [← hhm]
 have hml:hm.length=32:=by rw [hhm];exact Dw _
 have HHM:=Lib.hid hhm
 clear hhm
 have HI24:Hid ((Tryd.prog.info? 130).map (·.size)=some (c8 hm).size):=by rw [Dq,hml];exact Ij
 have HQ:Hid ((c8 (List.replicate 32 0)).size=(c8 hm).size):=by rw [Dq,Dq,hml];simp [Hid]
 have HML:=Lib.hid hml
 clear hml
 go_wp2_with (refine wpList_store_row rfl 130 (.tmp 6) (.tmp 20) rfl w5.heap.size (c8 hm) rfl rfl 130 _ (Dn w5) HI24.out HQ.out (c8_one _) ?_)
 go_frame
 generalize hw6:(w5.alloc _).setRow w5.heap.size (c8 hm)=w6
 have hb6:Below w5.heap.size w5 w6:=by rw [← hw6];exact Cn ((Below.refl _ _).alloc (Nat.le_refl _) _) (Nat.le_refl _) _
 have HG6:Hid (w6.heap[w5.heap.size]?=some (.cells (c8 hm) 130 (0,0))):=by rw [← hw6];exact setRow_heap _ _ _ _ _ _ (Dn w5)
 clear hw6
 have hz6:w5.heap.size < w6.heap.size:=(Array.getElem?_eq_some_iff.1 HG6.out).1
 have hbw6:Below w.heap.size w w6:=hbw5.trans (hb6.mono hbw5.size)
 have HR6:Hid (w6.heap[w.heap.size]?=some (.cells (c8 (List.replicate 32 0)) 130 (0,0))):=by
  show _=_
  rw [hb6.block _ (by have:=HZ1.out;have:=hb5.size;omega),hb5.block _ (by have:=HZ1.out;omega),hb4.block _ (by have:=HZ1.out;omega)]
  exact HR1.out
 have hT6:w6.there w.heap.size 0 32:=by have:=Km HR6.out;rwa [List.length_replicate] at this
 obtain ⟨X,hX⟩:∃ X,X=Lz [chg ky 92,hm].flatten:=⟨_,rfl⟩
 have hXl:X.length=32:=by rw [hX];exact Dw _
 have hXc:(c8l X).length=32:=by rw [A6];exact hXl
 have hX1:∀ v ∈ c8l X,v.oneCell'=true:=Hq X
 have hi24:=Ij
 have HX:=Lib.hid hX
 clear hX hXl
 have hk6:=hk1.below (hb4.trans ((hb5.mono hb4.size).trans (hb6.mono (Nat.le_trans hb4.size hb5.size)))) (Nat.le_refl _)
 have hRz6:w.heap.size < w6.heap.size:=by have:=HZ1.out;have:=hb5.size;omega
 go_region_held3 (fun W=>W.there w.heap.size 0 32) (first | exact hT6 | exact hT7 | exact Ch hT7 (Ex w7) (K5 hRz6 hb7) | exact hT8 | exact World.there_setCells hT8 _ _ _)
  (first | (go_at_call 80;refine (I8 (some ⟨y3.heap.size,0,none⟩) 32 32 ky 92 92 rfl _ HKL.out.symm ?_ hk64).mono ?_;exact hk6.same rfl;rintro e w7 ⟨rfl,hG7,hb7⟩;have HG7:=Lib.hid hG7;clear hG7;have hT7:w7.there w.heap.size 0 32:=Ch (w:=w6.drew) hT6 hb7 hRz6) | (go_at_call 77;refine (Ks _ _ _ _ (mid_psl hk64 HML.out hz6 HG6.out HG7.out hb7) (by simp) ?_ ?_ ?_ ?_).mono ?_;exact mid_len hk64 HML.out;exact HK.out.below (Cu hbw6 hb7) h3;exact HS.out.below (Cu hbw6 hb7) h3;exact mid_lt h3 (Cu hbw6 hb7);(rw [← HX.out]);rintro e w8 ⟨rfl,hb8⟩;have hT8:w8.there w.heap.size 0 32:=Ch (Ch hT7 (Ex w7) (K5 hRz6 hb7)) hb8 (mid_lt3 hRz6 hb7)))
 go_wp2
 have hrs:(w8.setCells w.heap.size 0 (c8l X)).rangeAt w.heap.size 0 (c8l X):=World.rangeAt_setCells_same _ _ _ _ (by rw [hXc];exact hT8)
 have hfin:Below w.heap.size w (w8.setCells w.heap.size 0 (c8l X)):=Ip (Nat.le_refl _) _ _ _ ((Cu hbw6 hb7).trans (hb8.mono (Cu hbw6 hb7).size))
 refine bodyPost_ret (v:=.agg (c8 X)) (Mv (p:=4) (ty:=130) rfl _ _ w.heap.size (c8l X) _ rfl hrs Tryd.underlying130 rfl (by rw [hXc];exact Ij)) rfl ⟨?_,hfin⟩
 rw [HX.out,HHM.out,HKY.out]
 simp [hmS]
theorem hmac_any (kv pv:Value) (key:List UInt8) (vs:List Value) (ps:List (List UInt8)) (w:World) (hk:BSl w kv key) (hkl:key.length ≤ 10000000000) (hP:PSl w pv vs ps) (hc0:ps.length ≤ 100000000) (ht:ps.flatten.length ≤ 10000000000)
  (hK:GlobK w) (hS:GlobS w) (h3:3 < w.heap.size) :
  Calls Tryd.prog 68 #[kv,pv] w fun e w'=>e=.returned (.agg (c8 (hmB key ps.flatten))) ∧ Below w.heap.size w w':=by
 unfold hmB
 by_cases h:key.length > 64
 ·rw [if_pos h];exact hmac_long kv pv key vs ps w hk h hkl hP hc0 ht hK hS h3
 ·rw [if_neg h];exact hmac_short kv pv key vs ps w hk (by omega) hP hc0 ht hK hS h3
end Go.Proofs.YtfdfdagbeeeomaaDoor
