/- Part 1 of the proof: texts of the proof. -/
import Derived.Test.YtfdfdagbeeeomaaDoorRows
import Derived.WalkKit
import Derived.Orders
import Derived.Laws.IdiomCopy
import Derived.Deep.AppendSrc
namespace Go.Proofs.YtfdfdagbeeeomaaDoor.V2
open Go
noncomputable section
inductive T (α:Type) where
 | leaf
 | node (v:Option α) (l r:T α)
namespace T
variable {α:Type}
def sel {R:Type} (n:Nat) (a b c:R):R:=Bool.rec (Bool.rec c b (Nat.beq (Nat.mod n 2) 1)) a (Nat.beq n 0)
theorem sel_eq {R:Type} (n:Nat) (a b c:R):sel n a b c=bif Nat.beq n 0 then a else bif Nat.beq (n % 2) 1 then b else c:=by
 show sel n a b c=bif Nat.beq n 0 then a else bif Nat.beq (Nat.mod n 2) 1 then b else c
 unfold sel
 cases Nat.beq n 0 <;> cases Nat.beq (Nat.mod n 2) 1 <;> rfl
def vl (t:T α):Option α:=T.rec (motive:=fun _=>Option α) none (fun v _ _ _ _=>v) t
def le (t:T α):T α:=T.rec (motive:=fun _=>T α) leaf (fun _ l _ _ _=>l) t
def ri (t:T α):T α:=T.rec (motive:=fun _=>T α) leaf (fun _ _ r _ _=>r) t
def get (t:T α):Nat → Option α :=
 T.rec (motive:=fun _=>Nat → Option α) (fun _=>none) (fun v _ _ gl gr n=>sel n v (gl (Nat.div n 2)) (gr (Nat.pred (Nat.div n 2)))) t
def set (f:Nat):T α → Nat → α → T α :=
 Nat.rec (motive:=fun _=>T α → Nat → α → T α) (fun t _ x=>node (some x) t.le t.ri)
  (fun _ ih t n x=>sel n (node (some x) t.le t.ri) (node t.vl (ih t.le (Nat.div n 2) x) t.ri) (node t.vl t.le (ih t.ri (Nat.pred (Nat.div n 2)) x))) f
def put (t:T α) (n:Nat) (x:α):T α:=set 20 t n x
theorem beq_t {a b:Nat} (h:a=b):Nat.beq a b=true:=by subst h;exact Nat.beq_refl a
theorem beq_f {a b:Nat} (h:a ≠ b):Nat.beq a b=false:=by rw [Bool.eq_false_iff];exact fun e=>h (Nat.eq_of_beq_eq_true e)
theorem get_eq (t:T α) (n:Nat):t.get n=bif Nat.beq n 0 then t.vl else bif Nat.beq (n % 2) 1 then t.le.get (n / 2) else t.ri.get (n / 2 - 1):=by
 rw [← sel_eq]
 cases t with
 | leaf=>show none=sel n none none none;unfold sel;cases Nat.beq n 0 <;> cases Nat.beq (Nat.mod n 2) 1 <;> rfl
 | node v l r=>rfl
theorem set_succ (f:Nat) (t:T α) (n:Nat) (x:α):set (f + 1) t n x=bif Nat.beq n 0 then node (some x) t.le t.ri else bif Nat.beq (n % 2) 1 then node t.vl (set f t.le (n / 2) x) t.ri else node t.vl t.le (set f t.ri (n / 2 - 1) x):=by
 rw [← sel_eq];rfl
theorem get_set (f:Nat):∀ (t:T α) (n m:Nat) (x:α),n < 2 ^ f → (set f t n x).get m=if m=n then some x else t.get m:=by
 induction f with
 | zero =>
  intro t n m x h
  have hn:n=0:=by simpa using h
  subst hn
  show (node (some x) t.le t.ri).get m=_
  rw [get_eq,get_eq t]
  by_cases hm:m=0
  ·subst hm;simp [vl]
  ·simp only [beq_f hm,cond_false,if_neg hm];rfl
 | succ f ih =>
  intro t n m x h
  rw [Nat.pow_succ] at h
  rw [set_succ]
  by_cases hn:n=0
  ·subst hn
   rw [beq_t rfl,cond_true,get_eq,get_eq t]
   by_cases hm:m=0
   ·subst hm;simp [vl]
   ·simp only [beq_f hm,cond_false,if_neg hm];rfl
  ·rw [beq_f hn,cond_false]
   by_cases ho:n % 2=1
   ·rw [beq_t ho,cond_true,get_eq,get_eq t]
    by_cases hm:m=0
    ·subst hm;simp [vl,Ne.symm hn]
    ·rw [beq_f hm,cond_false,cond_false]
     by_cases hmo:m % 2=1
     ·rw [beq_t hmo,cond_true,cond_true]
      show (set f t.le (n / 2) x).get (m / 2)=_
      rw [ih _ _ _ _ (by omega)]
      by_cases hmn:m=n
      ·subst hmn;simp
      ·rw [if_neg (by omega),if_neg hmn]
     ·rw [beq_f hmo,cond_false,cond_false,if_neg (by rintro rfl;exact hmo ho)];rfl
   ·rw [beq_f ho,cond_false,get_eq,get_eq t]
    by_cases hm:m=0
    ·subst hm;simp [vl,Ne.symm hn]
    ·rw [beq_f hm,cond_false,cond_false]
     by_cases hmo:m % 2=1
     ·rw [beq_t hmo,cond_true,cond_true,if_neg (by rintro rfl;exact ho hmo)];rfl
     ·rw [beq_f hmo,cond_false,cond_false]
      show (set f t.ri (n / 2 - 1) x).get (m / 2 - 1)=_
      rw [ih _ _ _ _ (by omega)]
      by_cases hmn:m=n
      ·subst hmn;simp
      ·rw [if_neg (by omega),if_neg hmn]
theorem get_put (t:T α) (n m:Nat) (x:α) (h:n < 1048576):(t.put n x).get m=if m=n then some x else t.get m:=get_set 20 t n m x h
theorem get_leaf (n:Nat):(leaf:T α).get n=none:=rfl
end T
inductive AV where
 | top
 | bool (b:Bool)
 | int (k:IntKind) (n:Int)
 | str (l:List UInt8)
 | ptr (b off:Nat)
 | nilptr
 | sl (b off len cap:Nat) (exact:Bool) (sz:Nat)
 | nilsl
 | map (b:Nat)
 | nilmap
 | yld (b:Nat)
 | fn (f:Fn) (first captured:List AV)
 | nilfn
 | ifc (t:TypeId) (v:AV)
 | nilifc
 | agg (l:List AV)
 | ints (k:IntKind) (l:List Int)
 | tup (l:List AV)
instance:Inhabited AV:=⟨.top⟩
abbrev Ren:=Nat → Option (Nat × (Nat × Nat))
mutual
def VR (ρ:Ren):AV → Value → Prop
 | .top,_=>True
 | .bool b,v=>v=.bool b
 | .int k n,v=>v=.int k n
 | .str l,v=>v=.string ⟨l.toArray⟩
 | .ptr b o,v=>∃ c d,ρ b=some (c,d) ∧ v=.pointer (some ⟨c,o + d.1,none⟩)
 | .nilptr,v=>v=.pointer none
 | .sl b o n k e z,v=>(∃ c d o' k',ρ b=some (c,d) ∧ v=.slice (some ⟨c,o',none⟩) n k' ∧ (k ≠ 0 → o'=o + d.1) ∧ n ≤ k ∧ k ≤ k' ∧ (e=true → k'=k) ∧ o' + k' * z ≤ d.2) ∨ (n=0 ∧ k=0 ∧ e=false ∧ (∃ x,ρ b=some x) ∧ ∃ p,v=.slice (some p) 0 0)
 | .nilsl,v=>v=.slice none 0 0
 | .map b,v=>∃ c d,ρ b=some (c,d) ∧ v=.map (some c)
 | .nilmap,v=>v=.map none
 | .yld b,v=>∃ c d,ρ b=some (c,d) ∧ v=.func (.yield c) #[] #[]
 | .fn f xs ys,v=>∃ us vs:List Value,v=.func f us.toArray vs.toArray ∧ VRs ρ xs us ∧ VRs ρ ys vs
 | .nilfn,v=>v=.nilFunc
 | .ifc t a,v=>∃ u,v=.iface t u ∧ VR ρ a u
 | .nilifc,v=>v=.nilIface
 | .agg l,v=>∃ us:List Value,v=.agg us.toArray ∧ VRs ρ l us
 | .ints k l,v=>v=.agg (l.map (Value.int k)).toArray
 | .tup l,v=>∃ us:List Value,v=.tuple us.toArray ∧ VRs ρ l us
def VRs (ρ:Ren):List AV → List Value → Prop
 | [],vs=>vs=[]
 | a :: l,vs=>∃ v m,vs=v :: m ∧ VR ρ a v ∧ VRs ρ l m
end
def Sub (ρ ρ':Ren):Prop:=∀ b x,ρ b=some x → ρ' b=some x
mutual
theorem VR.mono {ρ ρ':Ren} (h:Sub ρ ρ'):∀ (a:AV) (v:Value),VR ρ a v → VR ρ' a v
 | .top,_,_=>trivial
 | .bool _,_,e=>e
 | .int _ _,_,e=>e
 | .str _,_,e=>e
 | .ptr _ _,_,⟨c,d,hc,e⟩=>⟨c,d,h _ _ hc,e⟩
 | .nilptr,_,e=>e
 | .sl _ _ _ _ _ _,_,.inl ⟨c,d,o,k,hc,e⟩=>.inl ⟨c,d,o,k,h _ _ hc,e⟩
 | .sl _ _ _ _ _ _,_,.inr ⟨h1,h2,h3,⟨x,hx⟩,e⟩=>.inr ⟨h1,h2,h3,⟨x,h _ _ hx⟩,e⟩
 | .nilsl,_,e=>e
 | .map _,_,⟨c,d,hc,e⟩=>⟨c,d,h _ _ hc,e⟩
 | .nilmap,_,e=>e
 | .yld _,_,⟨c,d,hc,e⟩=>⟨c,d,h _ _ hc,e⟩
 | .fn _ xs ys,_,⟨us,vs,e,h1,h2⟩=>⟨us,vs,e,VRs.mono h xs us h1,VRs.mono h ys vs h2⟩
 | .nilfn,_,e=>e
 | .ifc _ a,_,⟨u,e,hu⟩=>⟨u,e,VR.mono h a u hu⟩
 | .nilifc,_,e=>e
 | .agg l,_,⟨us,e,hu⟩=>⟨us,e,VRs.mono h l us hu⟩
 | .ints _ _,_,e=>e
 | .tup l,_,⟨us,e,hu⟩=>⟨us,e,VRs.mono h l us hu⟩
theorem VRs.mono {ρ ρ':Ren} (h:Sub ρ ρ'):∀ (l:List AV) (vs:List Value),VRs ρ l vs → VRs ρ' l vs
 | [],_,e=>e
 | a :: l,_,⟨v,m,e,hv,hm⟩=>⟨v,m,e,VR.mono h a v hv,VRs.mono h l m hm⟩
end
theorem VRs.length {ρ:Ren}:∀ {l:List AV} {vs:List Value},VRs ρ l vs → vs.length=l.length
 | [],_,e=>by rw [show _=[] from e];rfl
 | _ :: _,_,⟨_,_,e,_,hm⟩=>by rw [e];simp [VRs.length hm]
theorem VRs.at {ρ:Ren}:∀ {l:List AV} {vs:List Value},VRs ρ l vs → ∀ (i:Nat) a,l[i]?=some a → ∃ v,vs[i]?=some v ∧ VR ρ a v
 | [],_,_,i,a,h=>by simp at h
 | x :: l,_,⟨v,m,e,hv,hm⟩,i,a,h=>by
  subst e
  cases i with
  | zero=>simp only [List.getElem?_cons_zero,Option.some.injEq] at h;subst h;exact ⟨v,rfl,hv⟩
  | succ i=>exact VRs.at hm i a (by simpa using h)
theorem VRs.of {ρ:Ren}:∀ (l:List AV) (vs:List Value),vs.length=l.length → (∀ (i:Nat) a,l[i]?=some a → ∃ v,vs[i]?=some v ∧ VR ρ a v) → VRs ρ l vs
 | [],vs,hl,_=>List.length_eq_zero_iff.1 hl
 | a :: l,[],hl,_=>by simp at hl
 | a :: l,v :: m,hl,h=>by
  refine ⟨v,m,rfl,?_,VRs.of l m (by simpa using hl) fun i b hb=>?_⟩
  ·obtain ⟨u,hu,hr⟩:=h 0 a rfl
   simp only [List.getElem?_cons_zero,Option.some.injEq] at hu
   rw [hu];exact hr
  ·obtain ⟨u,hu,hr⟩:=h (i + 1) b (by simpa using hb)
   exact ⟨u,by simpa using hu,hr⟩
theorem VRs.append {ρ:Ren}:∀ {l l':List AV} {vs vs':List Value},VRs ρ l vs → VRs ρ l' vs' → VRs ρ (l ++ l') (vs ++ vs')
 | [],_,_,_,e,h=>by rw [show _=[] from e];exact h
 | _ :: _,_,_,_,⟨v,m,e,hv,hm⟩,h=>by subst e;exact ⟨v,m ++ _,rfl,hv,VRs.append hm h⟩
def AV.one:AV → Bool
 | .top | .agg _ | .ints _ _ | .tup _=>false
 | _=>true
theorem VR.one {ρ:Ren} {a:AV} {v:Value} (h:VR ρ a v) (ho:a.one=true):v.oneCell'=true:=by
 cases a <;> simp only [AV.one,Bool.false_eq_true] at ho <;> unfold VR at h
 all_goals first
  | (subst h;rfl)
  | (obtain ⟨_,_,_,h⟩:=h;subst h;rfl)
  | (rcases h with ⟨_,_,_,_,_,h,_⟩ | ⟨_,_,_,_,_,h⟩ <;> (subst h;rfl))
  | (obtain ⟨_,_,h,_⟩:=h;subst h;rfl)
  | (obtain ⟨_,h,_⟩:=h;subst h;rfl)
def AV.known:AV → Bool
 | .top=>false
 | _=>true
def AV.cells:AV → List AV
 | .agg l=>l
 | .ints k l=>l.map (AV.int k)
 | a=>[a]
theorem VRs.ints {ρ:Ren} (k:IntKind):∀ (l:List Int),VRs ρ (l.map (AV.int k)) (l.map (Value.int k))
 | []=>rfl
 | _n :: l=>⟨_,_,rfl,rfl,VRs.ints k l⟩
theorem VR.cells {ρ:Ren} {a:AV} {v:Value} (h:VR ρ a v) (hk:a.known=true):VRs ρ a.cells v.cells.toList:=by
 have sing:∀ {a:AV} {v:Value},VR ρ a v → v.cells=#[v] → VRs ρ [a] v.cells.toList:=fun h e=>by rw [e];exact ⟨_,_,rfl,h,rfl⟩
 cases a
 case top=>simp [AV.known] at hk
 case agg l=>unfold VR at h;obtain ⟨us,rfl,hu⟩:=h;simpa [Value.cells,AV.cells] using hu
 case ints k l=>unfold VR at h;subst h;simpa [Value.cells,AV.cells] using VRs.ints k l
 all_goals
  refine sing h ?_
  unfold VR at h
  first
   | (subst h;rfl)
   | (obtain ⟨_,_,_,h⟩:=h;subst h;rfl)
   | (rcases h with ⟨_,_,_,_,_,h,_⟩ | ⟨_,_,_,_,_,h⟩ <;> (subst h;rfl))
   | (obtain ⟨_,_,h,_⟩:=h;subst h;rfl)
   | (obtain ⟨_,h,_⟩:=h;subst h;rfl)
inductive Tl where
 | exact
 | more
 | ro
def Tl.wide:Tl → Bool
 | .exact=>false
 | _=>true
def Tl.isRo:Tl → Bool
 | .ro=>true
 | _=>false
inductive AObj where
 | dead
 | cells (l:List AV) (elem:TypeId) (tail:Tl)
 | ints (k:IntKind) (l:List Int) (elem:TypeId) (tail:Tl)
 | map (l:List (AV × AV))
 | hid
def AObj.len:AObj → Nat
 | .dead=>0
 | .cells l _ _=>l.length
 | .ints _ l _ _=>l.length
 | .map _=>0
 | .hid=>0
def AObj.at (o:AObj) (i:Nat):Option AV:=match o with
 | .dead=>none
 | .cells l _ _=>l[i]?
 | .ints k l _ _=>(l[i]?).map (.int k)
 | .map _=>none
 | .hid=>none
def AObj.elem:AObj → TypeId
 | .dead=>0
 | .cells _ e _=>e
 | .ints _ _ e _=>e
 | .map _=>0
 | .hid=>0
def AObj.tail:AObj → Bool
 | .dead=>true
 | .cells _ _ t=>t.wide
 | .ints _ _ _ t=>t.wide
 | .map _=>false
 | .hid=>false
def AObj.isRo:AObj → Bool
 | .dead=>false
 | .cells _ _ t=>t.isRo
 | .ints _ _ _ t=>t.isRo
 | .map _=>false
 | .hid=>true
def AObj.alive:AObj → Bool
 | .dead=>false
 | _=>true
def AObj.cellsy:AObj → Bool
 | .cells _ _ _=>true
 | .ints _ _ _ _=>true
 | _=>false
def AObj.isSh (o:AObj):Bool:=o.isRo && o.cellsy
theorem AObj.isSh_ro {o:AObj} (h:o.isSh=true):o.isRo=true:=by unfold AObj.isSh at h;rw [Bool.and_eq_true] at h;exact h.1
theorem AObj.alive_of {o:AObj} (h:o.cellsy=true):o.alive=true:=by cases o <;> first | rfl | cases h
def Free (c:Array Value) (fr:Nat × Nat):Prop:=fr.1=fr.2 ∨ c.size ≤ fr.1
theorem Free.no {c:Array Value} {fr:Nat × Nat} (h:Free c fr) (i:Nat) (hi:i < c.size):¬(fr.1 ≤ i ∧ i < fr.2):=by
 rcases h with h | h <;> omega
def MapL (ρ:Ren):List (AV × AV) → List MapEntry → Prop
 | [],es=>es=[]
 | p :: l,es=>∃ e m,es=e :: m ∧ VR ρ p.1 e.key ∧ VR ρ p.2 e.val ∧ MapL ρ l m
def MR (ρ:Ren) (l:List (AV × AV)) (x:Option Obj):Prop:=∃ es ck,x=some (.map es ck) ∧ MapL ρ l es.toList ∧ es.toList.Pairwise (fun a b=>a.born < b.born) ∧ ∀ e ∈ es.toList,e.born < ck
theorem MapL.mono {ρ ρ':Ren} (h:Sub ρ ρ'):∀ {l:List (AV × AV)} {es:List MapEntry},MapL ρ l es → MapL ρ' l es
 | [],_,e=>e
 | _ :: _,_,⟨e,m,h1,h2,h3,h4⟩=>⟨e,m,h1,h2.mono h,h3.mono h,h4.mono h⟩
def OR (ρ:Ren) (d:Nat × Nat) (o:AObj) (x:Option Obj):Prop :=
 (o.cellsy=true → o.len + d.1 ≤ d.2 ∧ ((o.isRo=true → 0 < o.len) → ∃ c e fr,x=some (.cells c e fr) ∧ (o.isRo=false → e=o.elem ∧ Free c fr ∧ c.size=d.2) ∧ o.len + d.1 ≤ c.size ∧ o.len + d.1 ≤ d.2 ∧ ∀ i a,o.at i=some a → ∃ v,c[i + d.1]?=some v ∧ VR ρ a v)) ∧
 ∀ l,o=.map l → MR ρ l x
theorem OR.mk' {ρ:Ren} {d:Nat × Nat} {o:AObj} {x:Option Obj} (hc:o.cellsy=true) (h:∃ c e fr,x=some (.cells c e fr) ∧ (o.isRo=false → e=o.elem ∧ Free c fr ∧ c.size=d.2) ∧ o.len + d.1 ≤ c.size ∧ o.len + d.1 ≤ d.2 ∧ ∀ i a,o.at i=some a → ∃ v,c[i + d.1]?=some v ∧ VR ρ a v):OR ρ d o x :=
 ⟨fun _=>⟨by obtain ⟨c,e,fr,_,_,_,h4,_⟩:=h;exact h4,fun _=>h⟩,fun l e=>(by subst e;cases hc)⟩
theorem OR.dead {ρ:Ren} {d:Nat × Nat} {x:Option Obj}:OR ρ d .dead x:=⟨fun h=>(by cases h),fun l h=>(by cases h)⟩
structure AH where
 next:Nat
 mem:T AObj
def AH.get (σ:AH) (b:Nat):Option AObj:=σ.mem.get b
def AH.put (σ:AH) (b:Nat) (o:AObj):AH:={ σ with mem:=σ.mem.put b o }
def Shr (σ:AH) (b b':Nat):Prop:=σ.get b=some .dead ∨ σ.get b'=some .dead ∨ ∃ o o',σ.get b=some o ∧ σ.get b'=some o' ∧ o.isSh=true ∧ o'.isSh=true
theorem Shr.congr {σ σ':AH} {b b':Nat} (h:Shr σ b b') (h1:σ'.get b=σ.get b) (h2:σ'.get b'=σ.get b'):Shr σ' b b':=by
 unfold Shr;rw [h1,h2];exact h
theorem Shr.left {σ:AH} {b b':Nat} {o:AObj} (h:Shr σ b b') (ho:σ.get b=some o) (hal:o.alive=true) (hro:o.isRo=false):σ.get b'=some .dead:=by
 rcases h with e | e | ⟨o1,_,e,_,e2,_⟩
 ·rw [ho] at e;cases e;cases hal
 ·exact e
 ·rw [ho] at e;cases e;have e2:=AObj.isSh_ro e2;rw [hro] at e2;cases e2
theorem Shr.symm {σ:AH} {b b':Nat} (h:Shr σ b b'):Shr σ b' b:=by
 rcases h with e | e | ⟨o1,o2,e1,e2,e3,e4⟩
 ·exact .inr (.inl e)
 ·exact .inl e
 ·exact .inr (.inr ⟨o2,o1,e2,e1,e4,e3⟩)
structure HR (ρ:Ren) (σ:AH) (W:World):Prop where
 small:σ.next ≤ 1000000
 none_:∀ b,σ.next ≤ b → σ.get b=none
 dom:∀ b c d,ρ b=some (c,d) → b < σ.next ∧ c < W.heap.size ∧ ∃ o,σ.get b=some o ∧ OR ρ d o W.heap[c]?
 inj:∀ b b' c d d',ρ b=some (c,d) → ρ b'=some (c,d') → b ≠ b' → Shr σ b b'
structure Stp (N:Nat) (ρ:Ren) (σ:AH) (W:World) (ρ':Ren) (σ':AH) (W':World):Prop where
 ext:∀ b,b < N → ρ' b=ρ b
 img:∀ b c d,ρ' b=some (c,d) → (∃ b0 d0,ρ b0=some (c,d0)) ∨ W.heap.size ≤ c
 next:N ≤ σ'.next
 keep:∀ b o,b < N → ρ b=none → σ.get b=some o → o.tail=false → σ'.get b=some o
 frame:∀ c,c < W.heap.size → (∀ b d,ρ b ≠ some (c,d)) → W'.heap[c]?=W.heap[c]?
 tape:W'.tape=W.tape
 os:W'.os=W.os
 output:W'.output=W.output
 size:W.heap.size ≤ W'.heap.size
 ro:∀ b c d o,b < N → ρ b=some (c,d) → c < W.heap.size → σ.get b=some o → o.isRo=true → σ'.get b=some o ∧ W'.heap[c]?=W.heap[c]?
theorem Stp.refl {N:Nat} {ρ:Ren} {σ:AH} {W:World} (h:N ≤ σ.next):Stp N ρ σ W ρ σ W :=
 ⟨fun _ _=>rfl,fun b _c d h=>.inl ⟨b,d,h⟩,h,fun _ _ _ _ h _=>h,fun _ _ _=>rfl,rfl,rfl,rfl,Nat.le_refl _,fun _ _ _ _ _ _ _ h _=>⟨h,rfl⟩⟩
theorem Stp.trans {N M:Nat} {ρ ρ' ρ'':Ren} {σ σ' σ'':AH} {W W' W'':World} (h:Stp N ρ σ W ρ' σ' W') (h':Stp M ρ' σ' W' ρ'' σ'' W'') (hM:N ≤ M):Stp N ρ σ W ρ'' σ'' W'' where
 ext b hb:=(h'.ext b (Nat.lt_of_lt_of_le hb hM)).trans (h.ext b hb)
 img b c d hc:=by
  rcases h'.img b c d hc with ⟨b0,d0,h0⟩ | h0
  ·exact h.img b0 c d0 h0
  ·exact .inr (Nat.le_trans h.size h0)
 next:=Nat.le_trans hM h'.next
 keep b o hb hn ho ht:=h'.keep b o (Nat.lt_of_lt_of_le hb hM) ((h.ext b hb).trans hn) (h.keep b o hb hn ho ht) ht
 frame c hc hn:=(h'.frame c (Nat.lt_of_lt_of_le hc h.size) fun b d hb=>by
  rcases h.img b c d hb with ⟨b0,d0,h0⟩ | h0
  ·exact hn b0 d0 h0
  ·exact absurd hc (by omega)).trans (h.frame c hc hn)
 tape:=h'.tape.trans h.tape
 os:=h'.os.trans h.os
 output:=h'.output.trans h.output
 size:=Nat.le_trans h.size h'.size
 ro b c d o hb hρ hc ho hr:=by
  obtain ⟨h1,h2⟩:=h.ro b c d o hb hρ hc ho hr
  obtain ⟨h3,h4⟩:=h'.ro b c d o (Nat.lt_of_lt_of_le hb hM) ((h.ext b hb).trans hρ) (Nat.lt_of_lt_of_le hc h.size) h1 hr
  exact ⟨h3,h4.trans h2⟩
theorem Stp.sub {ρ ρ':Ren} {σ σ':AH} {W W':World} (h:Stp σ.next ρ σ W ρ' σ' W') (hr:HR ρ σ W):Sub ρ ρ':=fun b x hc=>by
 rw [h.ext b (hr.dom b x.1 x.2 hc).1];exact hc
end
end Go.Proofs.YtfdfdagbeeeomaaDoor.V2
namespace Go.Proofs.YtfdfdagbeeeomaaDoor.V2
open Go
noncomputable section
structure Ar where
 add:Int → Int → Int
 sub:Int → Int → Int
 mul:Int → Int → Int
 tdiv:Int → Int → Int
 tmod:Int → Int → Int
 bits:BinOp → IntKind → Int → Int → Int
 shl:IntKind → Int → Int → Int
 shr:IntKind → Int → Int → Int
 eq:Int → Int → Bool
 lt:Int → Int → Bool
 le:Int → Int → Bool
 wr:IntKind → Int → Int
 ton:Int → Nat
 addN:Nat → Nat → Nat
 mulN:Nat → Nat → Nat
 subN:Nat → Nat → Nat
 ltN:Nat → Nat → Bool
 leN:Nat → Nat → Bool
 eqN:Nat → Nat → Bool
 len:List Int → Nat
 get:List Int → Nat → Int
 set:List Int → Nat → Int → List Int
 part:List Int → Nat → Nat → List Int
 lay:List Int → Nat → List Int → List Int
 app:List Int → List Int → List Int
 sint:List UInt8 → List Int
 slen:List UInt8 → Nat
 sapp:List UInt8 → List UInt8 → List UInt8
 spart:List UInt8 → Nat → Nat → List UInt8
 seq:List UInt8 → List UInt8 → Bool
 slt:List UInt8 → List UInt8 → Bool
 ieq:List Int → List Int → Bool
 istr:List Int → List UInt8
 zer:Nat → List Int
def wr:IntKind → Int → Int
 | .u8,n=>n % 256
 | .u16,n=>n % 65536
 | .u32,n=>n % 4294967296
 | .u64,n=>n % 18446744073709551616
 | .i8,n=>(n + 128) % 256 - 128
 | .i16,n=>(n + 32768) % 65536 - 32768
 | .i32,n=>(n + 2147483648) % 4294967296 - 2147483648
 | .i64,n=>(n + 9223372036854775808) % 18446744073709551616 - 9223372036854775808
def stdBits (op:BinOp) (k:IntKind) (a b:Int):Int:=match op with
 | .and=>((BitVec.ofInt k.bits a &&& BitVec.ofInt k.bits b).toNat:Nat)
 | .or=>((BitVec.ofInt k.bits a ||| BitVec.ofInt k.bits b).toNat:Nat)
 | .xor=>((BitVec.ofInt k.bits a ^^^ BitVec.ofInt k.bits b).toNat:Nat)
 | _=>((BitVec.ofInt k.bits a &&& ~~~(BitVec.ofInt k.bits b)).toNat:Nat)
def std:Ar where
 add a b:=a + b
 sub a b:=a - b
 mul a b:=a * b
 tdiv:=Int.tdiv
 tmod:=Int.tmod
 bits:=stdBits
 shl k a b:=a * 2 ^ (min b.toNat k.bits)
 shr k a b:=a.fdiv (2 ^ (min b.toNat k.bits))
 eq a b:=decide (a=b)
 lt a b:=decide (a < b)
 le a b:=decide (a ≤ b)
 wr:=Go.Proofs.YtfdfdagbeeeomaaDoor.V2.wr
 ton:=Int.toNat
 addN a b:=a + b
 mulN a b:=a * b
 subN a b:=a - b
 ltN a b:=Nat.blt a b
 leN a b:=Nat.ble a b
 eqN a b:=Nat.beq a b
 len:=List.length
 get l i:=l.getD i 0
 set l i x:=l.set i x
 part l o n:=(l.drop o).take n
 lay l o m:=l.take o ++ m ++ l.drop (o + m.length)
 app l m:=l ++ m
 sint l:=l.map fun b=>(b.toNat:Int)
 slen:=List.length
 sapp a b:=a ++ b
 spart l o n:=(l.drop o).take n
 seq a b:=a == b
 slt:=Op.bytesLess
 ieq a b:=decide (a=b)
 istr l:=l.map fun n=>UInt8.ofNat n.toNat
 zer n:=List.replicate n 0
def AObj.atD (A:Ar) (o:AObj) (i:Nat):AV:=match o with
 | .dead=>.top
 | .cells l _ _=>l.getD i .top
 | .ints k l _ _=>.int k (A.get l i)
 | .map _=>.top
 | .hid=>.top
def AObj.atOk (A:Ar) (o:AObj) (i:Nat):Bool:=match o with
 | .dead=>false
 | .cells l _ _=>Nat.blt i l.length
 | .ints _ l _ _=>A.ltN i (A.len l)
 | .map _=>false
 | .hid=>false
theorem AObj.at_of_ok {o:AObj} {i:Nat} (h:o.atOk std i=true):o.at i=some (o.atD std i):=by
 cases o with
 | dead=>cases h
 | map l=>cases h
 | hid=>cases h
 | cells l e t =>
  have h:Nat.blt i l.length=true:=h
  rw [Nat.blt_eq] at h
  simp [AObj.at,AObj.atD,h]
 | ints k l e t =>
  have h:Nat.blt i l.length=true:=h
  rw [Nat.blt_eq] at h
  simp [AObj.at,AObj.atD,std,h]
theorem AObj.at_cellsy {o:AObj} {i:Nat} {a:AV} (h:o.at i=some a):o.cellsy=true:=by
 cases o <;> simp [AObj.at,AObj.cellsy] at h ⊢
theorem AObj.at_lt {o:AObj} {i:Nat} {a:AV} (h:o.at i=some a):i < o.len:=by
 cases o with
 | dead=>simp [AObj.at] at h
 | map l=>simp [AObj.at] at h
 | hid=>simp [AObj.at] at h
 | cells l e t=>exact (List.getElem?_eq_some_iff.1 h).1
 | ints k l e t =>
  simp only [AObj.at,Option.map_eq_some_iff] at h
  obtain ⟨n,h,_⟩:=h
  exact (List.getElem?_eq_some_iff.1 h).1
theorem AH.get_put {σ:AH} {b:Nat} {o:AObj} (h:b < 1048576) (m:Nat):(σ.put b o).get m=if m=b then some o else σ.get m:=T.get_put _ _ _ _ h
theorem HR.load {ρ:Ren} {σ:AH} {W:World} (h:HR ρ σ W) {b c i:Nat} {d:Nat × Nat} {o:AObj} {a:AV} (hb:ρ b=some (c,d)) (ho:σ.get b=some o) (ha:o.at i=some a) :
  ∃ v,W.cell? ⟨c,i + d.1,none⟩=some v ∧ VR ρ a v:=by
 obtain ⟨_,hc,o',ho',hO⟩:=h.dom b c d hb
 rw [ho] at ho';cases ho'
 obtain ⟨cs,e,fr,hx,_,hlen,_,hat⟩:=(hO.1 (AObj.at_cellsy ha)).2 (fun _=>Nat.lt_of_le_of_lt (Nat.zero_le _) (AObj.at_lt ha))
 obtain ⟨v,hv,hr⟩:=hat i a ha
 exact ⟨v,by simp [World.cell?,hx,hv],hr⟩
theorem OR.mono {ρ ρ':Ren} (h:Sub ρ ρ') {d:Nat × Nat} {o:AObj} {x:Option Obj} (hO:OR ρ d o x):OR ρ' d o x:=⟨fun ha=>⟨(hO.1 ha).1,fun hb=>by
 obtain ⟨c,e,fr,h1,h2,h3,h4,h5⟩:=(hO.1 ha).2 hb
 exact ⟨c,e,fr,h1,h2,h3,h4,fun i a hi=>let ⟨v,hv,hr⟩:=h5 i a hi;⟨v,hv,hr.mono h⟩⟩⟩,fun l hl=>let ⟨es,ck,h1,h2,h3,h4⟩:=hO.2 l hl;⟨es,ck,h1,h2.mono h,h3,h4⟩⟩
theorem Kv (W:World) (c i:Nat) (v:Value) (k:Nat):(W.setCell ⟨c,i,none⟩ v).heap[k]?=if k=c then (W.heap[c]?).map (fun | .cells cs e fr=>.cells (cs.setIfInBounds i v) e fr | o=>o) else W.heap[k]?:=by
 unfold World.setCell
 show (W.heap.modify c _)[k]?=_
 rw [Array.getElem?_modify]
 by_cases hk:c=k
 ·subst hk
  rw [if_pos rfl,if_pos rfl]
  cases W.heap[c]? with
  | none=>rfl
  | some o=>cases o <;> rfl
 ·rw [if_neg hk,if_neg (Ne.symm hk)]
theorem HR.replace {ρ:Ren} {σ:AH} {W W':World} (h:HR ρ σ W) {b c:Nat} {d:Nat × Nat} {o o':AObj} (hb:ρ b=some (c,d)) (ho:σ.get b=some o) (hal:o.alive=true) (hro:o.isRo=false) (hO:OR ρ d o' W'.heap[c]?)
  (hother:∀ k,k ≠ c → W'.heap[k]?=W.heap[k]?) (hsz:W'.heap.size=W.heap.size) (ht:W'.tape=W.tape) (hos:W'.os=W.os) (hout:W'.output=W.output) :
  HR ρ (σ.put b o') W' ∧ Stp σ.next ρ σ W ρ (σ.put b o') W':=by
 have hbn:=(h.dom b c d hb).1
 have hs:=h.small
 have hb20:b < 1048576:=by omega
 have hdead:∀ b' d',b' ≠ b → ρ b'=some (c,d') → σ.get b'=some .dead:=fun b' d' hne hb'=>by
  exact (h.inj b b' c d d' hb hb' (Ne.symm hne)).left ho hal hro
 refine ⟨⟨h.small,fun m hm=>by rw [AH.get_put hb20,if_neg (by rintro rfl;exact absurd hm (by show ¬ σ.next ≤ _;omega))];exact h.none_ m hm,fun b' c' d' hb'=>?_,fun b1 b2 c' d1 d2 h1 h2 hne=>?_⟩,⟨fun _ _=>rfl,fun b' c' d' hb'=>.inl ⟨b',d',hb'⟩,Nat.le_refl _,fun b' ob' _ hn ho' _=>?_,fun k hk hn=>?_,ht,hos,hout,Nat.le_of_eq hsz.symm,fun b' c' d' ob _ hb' _ ho' hr'=>?ro⟩⟩
 case ro =>
  have hne:b' ≠ b:=by rintro rfl;rw [ho] at ho';cases ho';rw [hro] at hr';cases hr'
  refine ⟨by rw [AH.get_put hb20,if_neg hne];exact ho',hother c' fun e=>?_⟩
  subst e
  have:=hdead b' d' hne hb'
  rw [ho'] at this;cases this;cases hr'
 ·obtain ⟨h1,h2,o2,h3,h4⟩:=h.dom b' c' d' hb'
  refine ⟨h1,by rw [hsz];exact h2,?_⟩
  rw [AH.get_put hb20]
  by_cases hbb:b'=b
  ·subst hbb
   rw [hb] at hb';cases hb'
   exact ⟨_,if_pos rfl,hO⟩
  ·rw [if_neg hbb]
   refine ⟨o2,h3,?_⟩
   by_cases hcc:c'=c
   ·subst hcc
    have:=hdead b' d' hbb hb'
    rw [h3] at this;cases this
    exact OR.dead
   ·rw [hother c' hcc];exact h4
 ·by_cases e1:b1=b
  ·subst e1
   rw [hb] at h1;cases h1
   refine .inr (.inl ?_)
   rw [AH.get_put hb20,if_neg (Ne.symm hne)]
   exact hdead b2 d2 (Ne.symm hne) h2
  ·by_cases e2:b2=b
   ·subst e2
    rw [hb] at h2;cases h2
    refine .inl ?_
    rw [AH.get_put hb20,if_neg e1]
    exact hdead b1 d1 e1 h1
   ·exact (h.inj b1 b2 c' d1 d2 h1 h2 hne).congr (by rw [AH.get_put hb20,if_neg e1]) (by rw [AH.get_put hb20,if_neg e2])
 ·rw [AH.get_put hb20,if_neg (by rintro rfl;rw [hb] at hn;cases hn)];exact ho'
 ·rw [hother k (by rintro rfl;exact hn b d hb)]
def Gj (cs:Array Value) (o:Nat):List Value → Array Value
 | []=>cs
 | v :: r=>Gj (cs.setIfInBounds o v) (o + 1) r
theorem De:∀ (vs:List Value) (o:Nat) (cs:Array Value),(Gj cs o vs).size=cs.size
 | [],_,_=>rfl
 | v :: r,o,cs=>by rw [Gj,De r];simp
theorem Ku:∀ (vs:List Value) (o:Nat) (cs:Array Value),o + vs.length ≤ cs.size → ∀ j,(Gj cs o vs)[j]?=if o ≤ j ∧ j < o + vs.length then vs[j - o]? else cs[j]?
 | [],o,cs,_,j=>by rw [if_neg (by intro h;simp at h;omega)];rfl
 | v :: r,o,cs,h,j=>by
  simp only [List.length_cons] at h
  rw [Gj,Ku r (o + 1) _ (by simp;omega)]
  by_cases h1:o + 1 ≤ j ∧ j < o + 1 + r.length
  ·rw [if_pos h1,if_pos (by simp;omega),show j - o=(j - (o + 1)) + 1 by omega,List.getElem?_cons_succ]
  ·rw [if_neg h1]
   by_cases hj:j=o
   ·subst hj
    rw [if_pos (by simp)]
    simp [show j < cs.size by omega]
   ·rw [Array.getElem?_setIfInBounds_ne (Ne.symm hj),if_neg (by simp;omega)]
theorem Dm:∀ (vs:List Value) (W:World) (c o k:Nat),(W.setCells c o vs).heap[k]?=if k=c then (W.heap[c]?).map (fun | .cells cs e fr=>.cells (Gj cs o vs) e fr | x=>x) else W.heap[k]?
 | [],W,c,o,k=>by
  show W.heap[k]?=_
  by_cases hk:k=c
  ·subst hk;rw [if_pos rfl]
   cases W.heap[k]? with
   | none=>rfl
   | some x=>cases x <;> rfl
  ·rw [if_neg hk]
 | v :: r,W,c,o,k=>by
  rw [World.setCells,Dm r,Kv,Kv]
  by_cases hk:k=c
  ·subst hk;rw [if_pos rfl,if_pos rfl,if_pos rfl]
   cases W.heap[k]? with
   | none=>rfl
   | some x=>cases x <;> rfl
  ·rw [if_neg hk,if_neg hk,if_neg hk]
theorem Gk:∀ (vs:List Value) (W:World) (c o:Nat),(W.setCells c o vs).tape=W.tape ∧ (W.setCells c o vs).os=W.os ∧ (W.setCells c o vs).output=W.output ∧ (W.setCells c o vs).heap.size=W.heap.size
 | [],_,_,_=>⟨rfl,rfl,rfl,rfl⟩
 | v :: r,W,c,o=>by
  obtain ⟨h1,h2,h3,h4⟩:=Gk r (W.setCell ⟨c,o,none⟩ v) c (o + 1)
  rw [World.setCells]
  exact ⟨h1,h2,h3,h4.trans (by simp [World.setCell])⟩
def AObj.writeOk (A:Ar) (o:AObj) (off:Nat) (a:AV):Bool:=match o with
 | .dead=>false
 | .cells l _ t=>!t.isRo && (a.known && a.cells.all AV.one && Nat.ble (off + a.cells.length) l.length)
 | .ints k l _ t=>match a with
  | .int k' _=>!t.isRo && (decide (k=k') && A.ltN off (A.len l))
  | .ints k' m=>!t.isRo && (decide (k=k') && A.leN (A.addN off (A.len m)) (A.len l))
  | _=>false
 | .map _=>false
 | .hid=>false
def AObj.write (A:Ar) (o:AObj) (off:Nat) (a:AV):AObj:=match o with
 | .dead=>.dead
 | .cells l e t=>match a with
  | .agg m=>.cells (l.take off ++ m ++ l.drop (off + m.length)) e t
  | .ints k m=>.cells (l.take off ++ m.map (AV.int k) ++ l.drop (off + m.length)) e t
  | a=>.cells (l.set off a) e t
 | .ints k l e t=>match a with
  | .int _ n=>.ints k (A.set l off n) e t
  | .ints _ m=>.ints k (A.lay l off m) e t
  | _=>.dead
 | .map _=>.dead
 | .hid=>.dead
theorem Iw {α:Type} (l m:List α) (off:Nat) (h:off + m.length ≤ l.length) (j:Nat):(l.take off ++ m ++ l.drop (off + m.length))[j]?=if off ≤ j ∧ j < off + m.length then m[j - off]? else l[j]?:=by
 rw [List.append_assoc,List.getElem?_append,List.length_take,Nat.min_eq_left (by omega)]
 by_cases h1:j < off
 ·rw [if_pos h1,if_neg (by omega),List.getElem?_take,if_pos h1]
 ·rw [if_neg h1,List.getElem?_append]
  by_cases h2:j - off < m.length
  ·rw [if_pos h2,if_pos (by omega)]
  ·rw [if_neg h2,if_neg (by omega),List.getElem?_drop,show off + m.length + (j - off - m.length)=j by omega]
theorem Ek {α:Type} (l m:List α) (off:Nat) (h:off + m.length ≤ l.length):(l.take off ++ m ++ l.drop (off + m.length)).length=l.length:=by simp;omega
theorem set_as {α:Type} (l:List α) (off:Nat) (a:α) (h:off + 1 ≤ l.length) (j:Nat):(l.set off a)[j]?=if off ≤ j ∧ j < off + 1 then [a][j - off]? else l[j]?:=by
 rw [List.getElem?_set]
 by_cases hj:off=j
 ·subst hj;rw [if_pos rfl,if_pos (by omega),if_pos (by omega)];simp
 ·rw [if_neg hj,if_neg (by omega)]
theorem AObj.write_spec {o:AObj} {off:Nat} {a:AV} (h:o.writeOk std off a=true):o.isRo=false ∧ o.cellsy=true ∧ (o.write std off a).cellsy=true ∧ a.known=true ∧ a.cells.all AV.one=true ∧ off + a.cells.length ≤ o.len ∧ (o.write std off a).len=o.len ∧ (o.write std off a).elem=o.elem ∧ (o.write std off a).tail=o.tail ∧
  ∀ j,(o.write std off a).at j=if off ≤ j ∧ j < off + a.cells.length then a.cells[j - off]? else o.at j:=by
 cases o with
 | dead=>simp [AObj.writeOk] at h
 | map l=>simp [AObj.writeOk] at h
 | hid=>simp [AObj.writeOk] at h
 | cells l e t =>
  simp only [AObj.writeOk,Bool.and_eq_true,Nat.ble_eq] at h
  obtain ⟨h0,⟨h1,h2⟩,h3⟩:=h
  have h0:(AObj.cells l e t).isRo=false:=by simpa [AObj.isRo] using h0
  cases a
  case agg m =>
   simp only [AV.cells] at h3
   exact ⟨h0,rfl,rfl,h1,h2,h3,Ek l m off h3,rfl,rfl,Iw l m off h3⟩
  case ints k m =>
   have h3':off + m.length ≤ l.length:=by simpa [AV.cells] using h3
   have e:l.take off ++ m.map (AV.int k) ++ l.drop (off + m.length)=l.take off ++ m.map (AV.int k) ++ l.drop (off + (m.map (AV.int k)).length):=by rw [List.length_map]
   refine ⟨h0,rfl,rfl,h1,h2,h3,?_,rfl,rfl,fun j=>?_⟩
   ·show (l.take off ++ m.map (AV.int k) ++ l.drop (off + m.length)).length=_
    rw [e];exact Ek l _ off h3
   ·show (l.take off ++ m.map (AV.int k) ++ l.drop (off + m.length))[j]?=_
    rw [e];exact Iw l _ off h3 j
  all_goals exact ⟨h0,rfl,rfl,h1,h2,h3,by simp [AObj.write,AObj.len],rfl,rfl,set_as l off _ h3⟩
 | ints k l e t =>
  cases a with
  | int k' n =>
   simp only [AObj.writeOk,std,Bool.and_eq_true,decide_eq_true_eq,Nat.blt_eq] at h
   obtain ⟨h0,rfl,h⟩:=h
   have h0:(AObj.ints k l e t).isRo=false:=by simpa [AObj.isRo] using h0
   refine ⟨h0,rfl,rfl,rfl,rfl,h,by simp [AObj.write,AObj.len,std],rfl,rfl,fun j=>?_⟩
   show ((l.set off n)[j]?).map _=_
   show _=if off ≤ j ∧ j < off + 1 then [AV.int k n][j - off]? else (l[j]?).map (AV.int k)
   rw [set_as l off n h]
   by_cases hj:off ≤ j ∧ j < off + 1
   ·rw [if_pos hj,if_pos hj,show j - off=0 by omega];rfl
   ·rw [if_neg hj,if_neg hj]
  | ints k' m =>
   simp only [AObj.writeOk,std,Bool.and_eq_true,decide_eq_true_eq,Nat.ble_eq] at h
   obtain ⟨h0,rfl,h⟩:=h
   have h0:(AObj.ints k l e t).isRo=false:=by simpa [AObj.isRo] using h0
   refine ⟨h0,rfl,rfl,rfl,?_,by simp only [AV.cells,List.length_map];exact h,Ek l m off h,rfl,rfl,fun j=>?_⟩
   ·simp [AV.cells,AV.one]
   ·show ((l.take off ++ m ++ l.drop (off + m.length))[j]?).map _=_
    rw [Iw l m off h]
    simp only [AV.cells,List.length_map]
    by_cases hj:off ≤ j ∧ j < off + m.length
    ·rw [if_pos hj,if_pos hj];simp
    ·rw [if_neg hj,if_neg hj];rfl
  | _=>simp [AObj.writeOk] at h
theorem HR.store {ρ:Ren} {σ:AH} {W:World} (h:HR ρ σ W) (P:Program) {b c off:Nat} {d:Nat × Nat} {o:AObj} {a:AV} {v:Value} (hb:ρ b=some (c,d)) (ho:σ.get b=some o) (ha:o.writeOk std off a=true) (hv:VR ρ a v) :
  ∃ W',(storeCells ⟨c,off + d.1,none⟩ v.cells.toList).run P W=.ok () W' ∧ HR ρ (σ.put b (o.write std off a)) W' ∧ Stp σ.next ρ σ W ρ (σ.put b (o.write std off a)) W':=by
 obtain ⟨hro,hal,hal',hkn,hone,hlen0,hl,he,ht,hset⟩:=AObj.write_spec ha
 have hvs:=hv.cells hkn
 have hvl:=hvs.length
 obtain ⟨_,hc,o',ho',hO⟩:=h.dom b c d hb
 rw [ho] at ho';cases ho'
 obtain ⟨cs,e0,fr,hx,hrw,hlen,hlen2,hat⟩:=(hO.1 hal).2 (fun h=>by rw [hro] at h;cases h)
 obtain ⟨rfl,hfr,hsz⟩:=hrw hro
 have hrun:=run_storeCells_cells (P:=P) c (off + d.1) v.cells.toList 0 W (fun j hj=>by simp [World.cell?,hx];omega) (fun j hj=>by
   have:=hfr.no (off + d.1 + 0 + j) (by omega)
   simp only [World.frozen?,hx]
   rw [Bool.eq_false_iff]
   intro e
   rw [Bool.and_eq_true,decide_eq_true_eq,decide_eq_true_eq] at e
   exact this e) (fun u hu=>by
   obtain ⟨i,hi⟩:=List.mem_iff_getElem?.1 hu
   have hil:=(List.getElem?_eq_some_iff.1 hi).1
   have ha':a.cells[i]?=some a.cells[i]:=List.getElem?_eq_getElem (by omega)
   obtain ⟨u',hu',hr⟩:=hvs.at i _ ha'
   rw [hi] at hu';cases hu'
   exact hr.one (List.all_eq_true.1 hone _ (List.getElem_mem _)))
 rw [Nat.add_zero] at hrun
 obtain ⟨r1,r2,r3,r4⟩:=Gk v.cells.toList W c (off + d.1)
 obtain ⟨g1,g2⟩:=h.replace (W':=W.setCells c (off + d.1) v.cells.toList) (o':=o.write std off a) hb ho (AObj.alive_of hal) hro (OR.mk' hal' (by
  refine ⟨Gj cs (off + d.1) v.cells.toList,o.elem,fr,by rw [Dm,if_pos rfl,hx];rfl,fun _=>⟨he.symm,by unfold Free;rw [De];exact hfr,by rw [De];exact hsz⟩,by rw [hl,De];exact hlen,by rw [hl];exact hlen2,fun j x hj=>?_⟩
  rw [hset] at hj
  rw [Ku _ _ _ (by omega),hvl,show j + d.1 - (off + d.1)=j - off by omega]
  by_cases hjr:off ≤ j ∧ j < off + a.cells.length
  ·rw [if_pos hjr] at hj;rw [if_pos (by omega)];exact hvs.at _ _ hj
  ·rw [if_neg hjr] at hj;rw [if_neg (by omega)];exact hat j x hj)) (fun k hk=>by rw [Dm,if_neg hk]) r4 r1 r2 r3
 exact ⟨_,hrun,g1,g2⟩
def AH.new (σ:AH) (o:AObj):AH:=⟨σ.next + 1,σ.mem.put σ.next o⟩
theorem HR.new {ρ:Ren} {σ:AH} {W:World} (h:HR ρ σ W) {o:AObj} {x:Obj} {s:Nat} (hs:Nat.blt σ.next 1000000=true) (hO:OR ρ (0,s) o (some x)) :
  ∃ ρ',ρ' σ.next=some (W.heap.size,(0,s)) ∧ Sub ρ ρ' ∧ HR ρ' (σ.new o) { W with heap:=W.heap.push x } ∧ Stp σ.next ρ σ W ρ' (σ.new o) { W with heap:=W.heap.push x }:=by
 have hs:σ.next < 1000000:=by rw [Nat.blt_eq] at hs;exact hs
 have hn:ρ σ.next=none:=by
  cases hc:ρ σ.next with
  | none=>rfl
  | some c=>have:=(h.dom _ c.1 c.2 hc).1;omega
 have hget:∀ m,(σ.new o).get m=if m=σ.next then some o else σ.get m:=fun m=>T.get_put _ _ _ _ (by omega)
 have hsub:Sub ρ (fun b=>if b=σ.next then some (W.heap.size,(0,s)) else ρ b):=fun b x hc=>by
  have hne:b ≠ σ.next:=by rintro rfl;rw [hn] at hc;cases hc
  simp only [if_neg hne];exact hc
 refine ⟨fun b=>if b=σ.next then some (W.heap.size,(0,s)) else ρ b,if_pos rfl,hsub,⟨by show σ.next + 1 ≤ _;omega,fun m hm=>by have hm:σ.next + 1 ≤ m:=hm;rw [hget,if_neg (by omega)];exact h.none_ m (by omega),fun b c d hc=>?_,fun b b' c d d' h1 h2 hne=>?_⟩,⟨fun b hb=>if_neg (by omega),fun b c d hc=>?_,by show σ.next ≤ σ.next + 1;omega,fun b ob hb _ ho' _=>?_,fun c hc _=>?_,rfl,rfl,rfl,by simp,fun b c d ob hb _ hc ho' _=>⟨by rw [hget,if_neg (by omega)];exact ho',by show (W.heap.push x)[c]?=_;rw [Array.getElem?_push,if_neg (by omega)]⟩⟩⟩
 ·rw [hget]
  by_cases hb:b=σ.next
  ·subst hb
   simp only [if_true,Option.some.injEq,Prod.mk.injEq] at hc
   obtain ⟨rfl,rfl⟩:=hc
   refine ⟨Nat.lt_succ_self _,by simp,o,if_pos rfl,?_⟩
   have:(W.heap.push x)[W.heap.size]?=some x:=by simp
   rw [this]
   exact hO.mono hsub
  ·simp only [if_neg hb] at hc ⊢
   obtain ⟨h1,h2,o2,h3,h4⟩:=h.dom b c d hc
   refine ⟨by show b < σ.next + 1;omega,by simp;omega,o2,h3,?_⟩
   have:(W.heap.push x)[c]?=W.heap[c]?:=by rw [Array.getElem?_push,if_neg (by omega)]
   rw [this]
   exact h4.mono hsub
 ·by_cases e1:b=σ.next
  ·subst e1
   simp only [if_true,Option.some.injEq,Prod.mk.injEq] at h1
   obtain ⟨rfl,rfl⟩:=h1
   simp only [if_neg (Ne.symm hne)] at h2
   have:=(h.dom _ _ _ h2).2.1
   omega
  ·by_cases e2:b'=σ.next
   ·subst e2
    simp only [if_true,Option.some.injEq,Prod.mk.injEq] at h2
    obtain ⟨rfl,rfl⟩:=h2
    simp only [if_neg e1] at h1
    have:=(h.dom _ _ _ h1).2.1
    omega
   ·simp only [if_neg e1,if_neg e2] at h1 h2
    exact (h.inj b b' c d d' h1 h2 hne).congr (by rw [hget,if_neg e1]) (by rw [hget,if_neg e2])
 ·by_cases hb:b=σ.next
  ·subst hb
   simp only [if_true,Option.some.injEq,Prod.mk.injEq] at hc
   exact .inr (Nat.le_of_eq hc.1)
  ·simp only [if_neg hb] at hc
   exact .inl ⟨b,d,hc⟩
 ·rw [hget,if_neg (by omega)];exact ho'
 ·show (W.heap.push x)[c]?=_
  rw [Array.getElem?_push,if_neg (by omega)]
theorem HR.drew {ρ:Ren} {σ:AH} {W:World} (h:HR ρ σ W) (n:Nat):HR ρ σ { W with drawn:=n }:=⟨h.small,h.none_,h.dom,h.inj⟩
theorem Stp.drew {N:Nat} {ρ ρ':Ren} {σ σ':AH} {W W':World} {n:Nat} (h:Stp N ρ σ { W with drawn:=n } ρ' σ' W'):Stp N ρ σ W ρ' σ' W':=⟨h.ext,h.img,h.next,h.keep,h.frame,h.tape,h.os,h.output,h.size,h.ro⟩
def Ei (k:IntKind):List AV → Option (List Int)
 | []=>some []
 | .int k' n :: l=>if k=k' then (Ei k l).map (n :: ·) else none
 | _ :: _=>none
def AObj.of (l:List AV) (e:TypeId) (t:Tl):AObj:=match l with
 | .int k n :: l'=>match Ei k l' with
  | some ns=>.ints k (n :: ns) e t
  | none=>.cells l e t
 | _=>.cells l e t
theorem Is (k:IntKind):∀ (l:List AV) ns,Ei k l=some ns → l=ns.map (AV.int k)
 | [],ns,h=>by cases h;rfl
 | a :: l,ns,h=>by
  cases a <;> simp [Ei] at h
  obtain ⟨rfl,m,hm,rfl⟩:=h
  rw [Is _ l m hm];rfl
theorem AObj.of_spec (l:List AV) (e:TypeId) (t:Tl):(AObj.of l e t).cellsy=true ∧ (AObj.of l e t).len=l.length ∧ (AObj.of l e t).elem=e ∧ (AObj.of l e t).tail=t.wide ∧ ∀ i,(AObj.of l e t).at i=l[i]?:=by
 unfold AObj.of
 split
 ·rename_i k n l'
  split
  ·rename_i ns hns
   have:=Is k l' ns hns
   subst this
   refine ⟨rfl,by simp [AObj.len],rfl,rfl,fun i=>?_⟩
   show ((n :: ns)[i]?).map _=_
   cases i <;> simp
  ·exact ⟨rfl,rfl,rfl,rfl,fun _=>rfl⟩
 ·exact ⟨rfl,rfl,rfl,rfl,fun _=>rfl⟩
theorem OR.of {ρ:Ren} {l:List AV} {vs:List Value} {e:TypeId} (h:VRs ρ l vs):OR ρ (0,vs.length) (AObj.of l e .exact) (some (.cells vs.toArray e)):=by
 obtain ⟨h1,h2,h3,h4,h5⟩:=AObj.of_spec l e .exact
 refine OR.mk' h1 ?_
 refine ⟨vs.toArray,e,(0,0),rfl,fun _=>⟨h3.symm,.inl rfl,by simp⟩,by rw [h2,List.size_toArray,h.length];exact Nat.le_refl _,by rw [h2,h.length];exact Nat.le_refl _,fun i a hi=>?_⟩
 rw [h5] at hi
 obtain ⟨v,hv,hr⟩:=h.at i a hi
 exact ⟨v,by simpa using hv,hr⟩
end
end Go.Proofs.YtfdfdagbeeeomaaDoor.V2
namespace Go.Proofs.YtfdfdagbeeeomaaDoor.V2
open Go
noncomputable section
inductive Ref where
 | op (k:Nat)
 | slot (t:Nat)
 | lit (v:AV)
def Ba (l:List AV):AV:=match l with
 | .int k n :: l'=>match Ei k l' with
  | some ns=>.ints k (n :: ns)
  | none=>.agg l
 | _=>.agg l
theorem Gx {ρ:Ren} {l:List AV} {us:List Value} (h:VRs ρ l us):VR ρ (Ba l) (.agg us.toArray):=by
 unfold Ba
 split
 ·rename_i k n l'
  split
  ·rename_i ns hns
   have:=Is k l' ns hns
   subst this
   obtain ⟨v,m,rfl,hv,hm⟩:=h
   unfold VR at hv;subst hv
   have:m=ns.map (Value.int k):=by
    have h1:=hm
    clear hns
    induction ns generalizing m with
    | nil=>exact h1
    | cons x ns ih =>
     obtain ⟨v,m',rfl,hv,hm'⟩:=h1
     unfold VR at hv;subst hv
     rw [ih m' hm' hm'];rfl
   subst this
   unfold VR;rfl
  ·unfold VR;exact ⟨us,rfl,h⟩
 ·unfold VR;exact ⟨us,rfl,h⟩
def C0:Value → AV
 | .bool b=>.bool b
 | .int k n=>.int k n
 | .string s=>.str s.data.toList
 | .pointer none=>.nilptr
 | .slice none 0 0=>.nilsl
 | .map none=>.nilmap
 | .nilFunc=>.nilfn
 | .nilIface=>.nilifc
 | .func f ⟨[]⟩ ⟨[]⟩=>.fn f [] []
 | _=>.top
theorem Iu (ρ:Ren) (v:Value):VR ρ (C0 v) v:=by
 unfold C0
 split <;> unfold VR <;> first | rfl | trivial | exact ⟨[],[],rfl,rfl,rfl⟩
def Jo:Value → AV
 | .agg cs=>Ba (cs.toList.map C0)
 | .iface t v=>.ifc t (C0 v)
 | .tuple cs=>.tup (cs.toList.map C0)
 | v=>C0 v
theorem D8 (ρ:Ren):∀ l:List Value,VRs ρ (l.map C0) l
 | []=>rfl
 | v :: l=>⟨v,l,rfl,Iu ρ v,D8 ρ l⟩
theorem Gw (ρ:Ren) (v:Value):VR ρ (Jo v) v:=by
 unfold Jo
 split
 ·rename_i cs;exact Gx (us:=cs.toList) (D8 ρ cs.toList)
 ·unfold VR;exact ⟨_,rfl,Iu ρ _⟩
 ·rename_i cs;unfold VR;exact ⟨cs.toList,rfl,D8 ρ _⟩
 ·exact Iu ρ v
theorem wr_eq (k:IntKind) (n:Int):k.wrap n=wr k n:=by
 cases k <;> simp [IntKind.wrap,IntKind.bits,IntKind.signed,wr] <;> (try split) <;> omega
def Ay (A:Ar) (op:BinOp) (k:IntKind) (a b:Int):Bool × AV:=match op with
 | .add=>(true,.int k (A.wr k (A.add a b)))
 | .sub=>(true,.int k (A.wr k (A.sub a b)))
 | .mul=>(true,.int k (A.wr k (A.mul a b)))
 | .quo=>(!A.eq b 0,.int k (A.wr k (A.tdiv a b)))
 | .rem=>(!A.eq b 0,.int k (A.tmod a b))
 | .and=>(true,.int k (A.wr k (A.bits .and k a b)))
 | .or=>(true,.int k (A.wr k (A.bits .or k a b)))
 | .xor=>(true,.int k (A.wr k (A.bits .xor k a b)))
 | .andNot=>(true,.int k (A.wr k (A.bits .andNot k a b)))
 | .shl=>(!A.lt b 0,.int k (A.wr k (A.shl k a b)))
 | .shr=>(!A.lt b 0,.int k (A.shr k a b))
 | .eql=>(true,.bool (A.eq a b))
 | .neq=>(true,.bool (!A.eq a b))
 | .lss=>(true,.bool (A.lt a b))
 | .leq=>(true,.bool (A.le a b))
 | .gtr=>(true,.bool (A.lt b a))
 | .geq=>(true,.bool (A.le b a))
def K7:BinOp → Bool
 | .shl | .shr=>true
 | _=>false
def Jf (A:Ar) (op:BinOp) (a b:List UInt8):Bool × AV:=match op with
 | .add=>(A.leN (A.addN (A.slen a) (A.slen b)) 9223372036854775807,.str (A.sapp a b))
 | .eql=>(true,.bool (A.seq a b))
 | .neq=>(true,.bool (!A.seq a b))
 | .lss=>(true,.bool (A.slt a b))
 | .leq=>(true,.bool (A.slt a b || A.seq a b))
 | .gtr=>(true,.bool (!(A.slt a b || A.seq a b)))
 | .geq=>(true,.bool (!A.slt a b))
 | _=>(false,.top)
theorem binI_run {P:Program} {W:World} {op:BinOp} {t:TypeId} {x y:Operand} {k k':IntKind} {a b:Int} (hk:(K7 op || decide (k=k'))=true) (h:(Ay std op k a b).1=true) (ρ:Ren) :
  ∃ v,(do eqGuard op t x y (.int k a) (.int k' b);binOp op t (.int k a) (.int k' b)).run P W=.ok v W ∧ VR ρ (Ay std op k a b).2 v:=by
 have hg:(eqGuard op t x y (.int k a) (.int k' b)).run P W=.ok () W:=by
  unfold eqGuard;cases op <;> rfl
 rw [Sem.run_bind,hg,Result.andThen_ok]
 cases op
 case shl =>
  simp only [Ay,std,Bool.not_eq_true',decide_eq_false_iff_not] at h
  refine ⟨.int k (k.wrap (a * 2 ^ (min b.toNat k.bits))),?_,?_⟩
  ·simp [binOp,Op.shift,h]
  ·simp only [Ay,std,VR,wr_eq]
 case shr =>
  simp only [Ay,std,Bool.not_eq_true',decide_eq_false_iff_not] at h
  refine ⟨.int k (a.fdiv (2 ^ (min b.toNat k.bits))),?_,?_⟩
  ·simp [binOp,Op.shift,h]
  ·simp only [Ay,std,VR]
 all_goals
  simp only [K7,Bool.false_or,decide_eq_true_eq] at hk
  subst hk
 case quo =>
  simp only [Ay,std,Bool.not_eq_true',decide_eq_false_iff_not] at h
  exact ⟨.int k (k.wrap (a.tdiv b)),by simp [binOp,Op.intDiv,h],by simp only [Ay,std,VR,wr_eq]⟩
 case rem =>
  simp only [Ay,std,Bool.not_eq_true',decide_eq_false_iff_not] at h
  exact ⟨.int k (a.tmod b),by simp [binOp,Op.intDiv,h],by simp only [Ay,std,VR]⟩
 case eql=>exact ⟨.bool (a == b),by simp [binOp,Op.intCmp],by show VR ρ (.bool _) _;unfold VR;rfl⟩
 case neq=>exact ⟨.bool (a != b),by simp [binOp,Op.intCmp],by show VR ρ (.bool _) _;unfold VR;rfl⟩
 all_goals first
  | exact ⟨_,by simp [binOp,Op.intArith];rfl,by simp only [Ay,std,stdBits,VR,wr_eq]⟩
  | exact ⟨_,by simp [binOp,Op.intBits];rfl,by simp only [Ay,std,stdBits,VR,wr_eq]⟩
  | exact ⟨_,by simp [binOp,Op.intCmp];rfl,by simp [Ay,std,VR]⟩
theorem ba_toList_loop (s:ByteArray):∀ (n i:Nat) (r:List UInt8),s.size - i=n → ByteArray.toList.loop s i r=r.reverse ++ s.data.toList.drop i:=by
 intro n
 induction n with
 | zero =>
  intro i r h
  unfold ByteArray.toList.loop
  rw [if_neg (by omega),List.drop_eq_nil_of_le (by have:s.data.toList.length=s.size:=rfl;omega)];simp
 | succ n ih =>
  intro i r h
  unfold ByteArray.toList.loop
  rw [if_pos (by omega),ih (i + 1) _ (by omega)]
  have hl:i < s.data.toList.length:=by have:s.data.toList.length=s.size:=rfl;omega
  rw [List.reverse_cons,List.append_assoc,List.drop_eq_getElem_cons hl]
  congr 2
  have:s.get! i=s.data.toList[i]:=by
   have hi:i < s.data.size:=by have:s.data.size=s.size:=rfl;omega
   simp [ByteArray.get!,getElem!_pos s.data i hi]
  rw [this];rfl
theorem Jb (l:List UInt8):(⟨l.toArray⟩:ByteArray).toList=l:=by
 unfold ByteArray.toList
 rw [ba_toList_loop _ _ 0 [] rfl];simp
theorem ba_append (a b:List UInt8):(⟨a.toArray⟩:ByteArray) ++ ⟨b.toArray⟩=⟨(a ++ b).toArray⟩:=by
 have:∀ x y:ByteArray,(x ++ y).data=x.data ++ y.data:=fun x y=>ByteArray.data_append ..
 have e:=this ⟨a.toArray⟩ ⟨b.toArray⟩
 rw [show ((⟨a.toArray⟩:ByteArray) ++ ⟨b.toArray⟩)=⟨((⟨a.toArray⟩:ByteArray) ++ ⟨b.toArray⟩).data⟩ from rfl,e];simp
theorem ba_size (a:List UInt8):(⟨a.toArray⟩:ByteArray).size=a.length:=rfl
theorem binS_run {P:Program} {W:World} {op:BinOp} {t:TypeId} {x y:Operand} {a b:List UInt8} (h:(Jf std op a b).1=true) (ρ:Ren) :
  ∃ v,(do eqGuard op t x y (.string ⟨a.toArray⟩) (.string ⟨b.toArray⟩);binOp op t (.string ⟨a.toArray⟩) (.string ⟨b.toArray⟩)).run P W=.ok v W ∧ VR ρ (Jf std op a b).2 v:=by
 have hg:(eqGuard op t x y (.string ⟨a.toArray⟩) (.string ⟨b.toArray⟩)).run P W=.ok () W:=by
  unfold eqGuard;cases op <;> rfl
 rw [Sem.run_bind,hg,Result.andThen_ok]
 cases op
 case add =>
  simp only [Jf,std,Nat.ble_eq] at h
  refine ⟨.string ⟨(a ++ b).toArray⟩,?_,rfl⟩
  have e:binOp .add t (.string ⟨a.toArray⟩) (.string ⟨b.toArray⟩)=Op.stringOp .add ⟨a.toArray⟩ ⟨b.toArray⟩:=rfl
  have hm:IntKind.i64.max=9223372036854775807:=by decide
  rw [e,← ba_append]
  unfold Op.stringOp
  simp only [ba_size,hm]
  rw [if_neg (by omega)];rfl
 all_goals first
  | (simp [Jf] at h;done)
  | (refine ⟨_,rfl,?_⟩;simp only [Jf,std,VR,Jb];done)
  | (refine ⟨_,rfl,?_⟩;simp only [Jf,std,VR,Jb,Bool.or_comm])
end
end Go.Proofs.YtfdfdagbeeeomaaDoor.V2
namespace Go.Proofs.YtfdfdagbeeeomaaDoor.V2
open Go
noncomputable section
abbrev Out:=Bool × AV × AH
def AV.sure:AV → Bool
 | .sl _ _ _ 0 e _=>e
 | _=>true
def bad (σ:AH):Out:=(false,.top,σ)
inductive Row where
 | ints (k:IntKind) (l:List Int)
 | cells (l:List AV)
def Row.list:Row → List AV
 | .ints k l=>l.map (AV.int k)
 | .cells l=>l
def Br (A:Ar) (str:Bool) (size:Nat) (σ:AH) (v:AV):Bool × Nat × Row:=match v with
 | .nilsl=>(!str,0,.cells [])
 | .sl b o n _ _ z=>match σ.get b with
  | some ob=>match ob with
   | .ints ik l _ _=>(!str && Nat.beq z size && A.leN (A.addN o (A.mulN n size)) (A.len l),n,.ints ik (A.part l o (A.mulN n size)))
   | .cells l _ _=>(!str && Nat.beq z size && Nat.ble (o + n * size) l.length && l.all AV.one,n,.cells ((l.drop o).take (n * size)))
   | .dead=>(!str && Nat.beq n 0,0,.cells [])
   | .map _=>(false,0,.cells [])
   | .hid=>(false,0,.cells [])
  | none=>(false,0,.cells [])
 | .str l=>(str && Nat.beq size 1,A.slen l,.ints .u8 (A.sint l))
 | _=>(false,0,.cells [])
def Hp (A:Ar) (e:TypeId):Row → Row → Bool × AObj
 | .ints k l,.ints k' m=>(decide (k=k'),.ints k (A.app l m) e .more)
 | .ints k l,.cells m=>match m with
  | []=>(true,.ints k l e .more)
  | _=>match AObj.of m e .more with
   | .ints k' m' _ _=>(decide (k=k'),.ints k (A.app l m') e .more)
   | _=>(false,.dead)
 | .cells l,.ints k m=>match l with
  | []=>(true,.ints k m e .more)
  | _=>match AObj.of l e .more with
   | .ints k' l' _ _=>(decide (k=k'),.ints k (A.app l' m) e .more)
   | _=>(false,.dead)
 | .cells l,.cells m=>(true,AObj.of (l ++ m) e .more)
def Hv (A:Ar) (σ:AH) (N:Nat):AV → AH
 | .sl b _ _ k e _=>match e with
  | true=>bif A.ltN k N then σ else σ.put b .dead
  | false=>σ.put b .dead
 | _=>σ
def Hr (A:Ar) (σ:AH) (e:TypeId) (N:Nat):AV → Bool
 | .nilsl=>true
 | .sl b _ _ k ex _=>match σ.get b with
  | some ob=>ob.cellsy && ((Nat.beq ob.elem e && !ob.isRo) || (ex && A.ltN k N))
  | none=>false
 | _=>false
inductive CK where
 | int
 | str
 | bool
def CK.isInt:CK → Bool
 | .int=>true
 | _=>false
def B5 (A:Ar):CK → AV → AV → Bool × Bool
 | .int,.int k a,.int k' b=>(decide (k=k'),A.eq a b)
 | .str,.str a,.str b=>(true,A.seq a b)
 | .bool,.bool a,.bool b=>(true,a == b)
 | _,_,_=>(false,false)
def Ax (A:Ar):List CK → List AV → List AV → Bool × Bool
 | [],[],[]=>(true,true)
 | k :: ks,a :: l,b :: m=>((B5 A k a b).1 && (Ax A ks l m).1,(B5 A k a b).2 && (Ax A ks l m).2)
 | _,_,_=>(false,false)
def B3 (A:Ar) (sc:Bool) (ks:List CK) (a b:AV):Bool × Bool:=match sc with
 | true=>Ax A ks [a] [b]
 | false=>match a with
  | .ints k l=>match b with
   | .ints k' m=>(decide (k=k') && ks.all CK.isInt && A.eqN (A.len l) ks.length && A.eqN (A.len m) ks.length,A.ieq l m)
   | .agg m=>Ax A ks (l.map (AV.int k)) m
   | _=>(false,false)
  | .agg l=>match b with
   | .agg m=>Ax A ks l m
   | .ints k m=>Ax A ks l (m.map (AV.int k))
   | _=>(false,false)
  | _=>(false,false)
def B4 (A:Ar) (sc:Bool) (ks:List CK) (k:AV):List (AV × AV) → Nat → Bool × Option (Nat × AV)
 | [],_=>(true,none)
 | p :: l,i=>match B3 A sc ks k p.1 with
  | (ok,e)=>match e with
   | true=>(ok,some (i,p.2))
   | false=>match B4 A sc ks k l (i + 1) with
    | (ok',r)=>(ok && ok',r)
def AV.isInts:AV → Bool
 | .ints _ _=>true
 | _=>false
inductive XOp where
 | append (e:TypeId) (str:Bool) (size:Nat)
 | appz (e:TypeId) (k:IntKind)
 | copy (size:Nat) (str:Bool)
 | mapUpd (sc:Bool) (ks:List CK)
 | mapDel (sc:Bool) (ks:List CK)
 | mark
inductive NOp where
 | bslice (e:TypeId) (size n:Nat)
 | str2sl (e:TypeId)
 | makeSl (e:TypeId) (size:Nat) (zero:List AV)
 | makeMap
def C8 (A:Ar) (n:Nat) (e:TypeId) (zero:List AV):AObj:=match zero with
 | [.int k z]=>bif A.eq z 0 then .ints k (A.zer n) e .exact else .cells (List.replicate n (.int k z)) e .exact
 | zero=>.cells ((List.replicate n zero).flatten) e .exact
def Bt (A:Ar):NOp → List AV → Bool × (Nat → AV) × AObj
 | .bslice e size n,args=>(Nat.beq (args.flatMap AV.cells).length (n * size) && args.all fun a=>a.known && Nat.beq a.cells.length size,fun b=>.sl b 0 n n true size,AObj.of (args.flatMap AV.cells) e .exact)
 | .str2sl e,args=>match args with
  | [.str l]=>(true,fun b=>.sl b 0 (A.slen l) (A.slen l) false 1,.ints .u8 (A.sint l) e .exact)
  | _=>(false,fun _=>.top,.dead)
 | .makeSl e size zero,args=>match args with
  | [.int _ n,.int _ c]=>(A.le 0 n && A.le n c && A.leN (A.ton c) 1000000,fun b=>.sl b 0 (A.ton n) (A.ton c) true size,C8 A (A.ton c) e zero)
  | _=>(false,fun _=>.top,.dead)
 | .makeMap,args=>match args with
  | []=>(true,fun b=>.map b,.map [])
  | [.int _ _]=>(true,fun b=>.map b,.map [])
  | _=>(false,fun _=>.top,.dead)
def isSl (size:Nat):AV → Bool
 | .sl _ _ _ _ _ z=>Nat.beq z size
 | .nilsl=>true
 | _=>false
def appR (A:Ar) (σ:AH) (e:TypeId) (size:Nat) (s:AV) (q:Bool × Nat × Row):Out:=match Br A false size σ s with
 | (ok1,n,r1)=>match q with
  | (ok2,m,r2)=>match Hp A e r1 r2 with
   | (ok3,o)=>(!A.eqN m 0 && ok1 && ok2 && ok3 && Hr A σ e (A.addN n m) s && A.leN (A.addN n m) 1000000000000 && Nat.blt σ.next 1000000,.sl σ.next 0 (A.addN n m) (A.addN n m) false size,(Hv A σ (A.addN n m) s).new o)
def appN (A:Ar) (σ:AH) (e:TypeId) (str:Bool) (size:Nat) (s x:AV):Out:=appR A σ e size s (Br A str size σ x)
def appX (A:Ar) (σ:AH) (e:TypeId) (size:Nat) (s:AV) (q:Bool × Nat × Row):Out:=match q with
 | (ok2,m,r2)=>bif A.eqN m 0 && isSl size s then (ok2,s,σ) else appR A σ e size s (ok2,m,r2)
def zrow (A:Ar) (k:IntKind) (n:Int):Bool × Nat × Row:=(A.le 0 n && A.leN (A.ton n) 1000000,A.ton n,.ints k (A.zer (A.ton n)))
def L6 (A:Ar) (n:Nat):Row → AV
 | .ints k l=>.ints k (A.part l 0 n)
 | .cells l=>Ba (l.take n)
def cpyA (A:Ar) (σ:AH) (size b o z:Nat) (ok:Bool) (r:Row) (cnt:Nat):Out:=bif A.eqN cnt 0 then (ok && Nat.beq z size,.int .i64 0,σ) else match σ.get b with
 | some ob=>(ok && Nat.beq z size && ob.writeOk A o (L6 A (A.mulN cnt size) r),.int .i64 cnt,σ.put b (ob.write A o (L6 A (A.mulN cnt size) r)))
 | none=>bad σ
def Bb (A:Ar) (σ:AH):XOp → List AV → Out
 | .append e str size,args=>match args with
  | [s,x]=>match Br A str size σ x with
   | (ok2,m,_)=>bif A.eqN m 0 && isSl size s then (ok2,s,σ) else appN A σ e str size s x
  | _=>bad σ
 | .appz e k,args=>match args with
  | [s,.int _ n]=>appX A σ e 1 s (zrow A k n)
  | _=>bad σ
 | .copy size str,args=>match args with
  | [.sl b o n _ _ z,x]=>match Br A str size σ x with
   | (ok,m,r)=>cpyA A σ size b o z ok r (bif A.leN m n then m else n)
  | [.nilsl,x]=>match Br A str size σ x with
   | (ok,_,_)=>(ok,.int .i64 0,σ)
  | _=>bad σ
 | .mapUpd sc ks,args=>match args with
  | [.map b,k,v]=>match σ.get b with
   | some (.map l)=>match B4 A sc ks k l 0 with
    | (ok,r)=>(ok && (B3 A sc ks k k).1 && (sc || (r.isNone && k.isInts)),.tup [],σ.put b (.map (match r with | some (i,_)=>l.set i (k,v) | none=>l ++ [(k,v)])))
   | _=>bad σ
  | _=>bad σ
 | .mapDel sc ks,args=>match args with
  | [.map b,k]=>match σ.get b with
   | some (.map l)=>match B4 A sc ks k l 0 with
    | (ok,r)=>(ok,.tup [],σ.put b (.map (match r with | some (i,_)=>l.eraseIdx i | none=>l)))
   | _=>bad σ
  | [.nilmap,k]=>((B3 A sc ks k k).1,.tup [],σ)
  | _=>bad σ
 | .mark,args=>match args with
  | [.sl b o n c e z]=>match σ.get b with
   | some ob=>(ob.cellsy && !ob.isRo && AV.sure (.sl b o n c e z),.sl b o n c e z,σ.put b ob)
   | none=>bad σ
  | _=>bad σ
end
end Go.Proofs.YtfdfdagbeeeomaaDoor.V2
namespace Go.Proofs.YtfdfdagbeeeomaaDoor.V2
open Go
noncomputable section
inductive EK where
 | bool
 | ptr
 | sl
 | map
 | fn
 | ifc
inductive POp where
 | build (zero:List AV) (spots:List (Nat × Nat))
 | fieldN (off size:Nat)
 | field1 (off:Nat)
 | idxArr (len size:Nat) (agg:Bool)
 | idxStr
 | minI
 | maxI
 | eqv (neg:Bool) (k:EK)
 | eqF (neg:Bool) (ks:List CK)
 | mkFn (f:Fn) (n:Nat)
 | same
 | assertT (t:TypeId) (commaOk:Bool) (zero:AV)
 | capSl
inductive LOp where
 | sl2str
 | lenMap
 | lookup (sc:Bool) (ks:List CK) (commaOk:Bool) (zero:AV)
def Hm:List AV → List (Nat × Nat) → List AV → Bool × List AV
 | cs,[],[]=>(true,cs)
 | cs,p :: ss,a :: m=>match a.known && Nat.beq a.cells.length p.2 && Nat.ble (p.1 + p.2) cs.length with
  | true=>Hm (cs.take p.1 ++ a.cells ++ cs.drop (p.1 + p.2)) ss m
  | false=>(false,[])
 | _,_,_=>(false,[])
def minL (A:Ar) (mx:Bool) (k:IntKind) (n:Int):List AV → Bool × AV
 | []=>(true,.int k n)
 | .int k' m :: l=>match minL A mx k (bif (bif mx then A.lt n m else A.lt m n) then m else n) l with
  | (ok,v)=>(decide (k=k') && ok,v)
 | _ :: _=>(false,.top)
def eqvA (A:Ar):EK → AV → AV → Bool × Bool
 | .bool,.bool x,.bool y=>(true,x == y)
 | .ptr,.nilptr,.nilptr=>(true,true)
 | .ptr,.nilptr,.ptr _ _=>(true,false)
 | .ptr,.ptr _ _,.nilptr=>(true,false)
 | .ptr,.ptr x i,.ptr y j=>(Nat.beq x y && A.eqN i j,true)
 | .sl,.nilsl,.nilsl=>(true,true)
 | .sl,.nilsl,.sl _ _ _ _ _ _=>(true,false)
 | .sl,.sl _ _ _ _ _ _,.nilsl=>(true,false)
 | .map,.nilmap,.nilmap=>(true,true)
 | .map,.nilmap,.map _=>(true,false)
 | .map,.map _,.nilmap=>(true,false)
 | .fn,.nilfn,.nilfn=>(true,true)
 | .fn,.nilfn,.fn _ _ _=>(true,false)
 | .fn,.fn _ _ _,.nilfn=>(true,false)
 | .ifc,.nilifc,.nilifc=>(true,true)
 | .ifc,.nilifc,.ifc _ _=>(true,false)
 | .ifc,.ifc _ _,.nilifc=>(true,false)
 | _,_,_=>(false,false)
def Ib (A:Ar) (x:AV) (off size:Nat):Bool × AV:=match x with
 | .agg l=>(Nat.ble (off + size) l.length,Ba ((l.drop off).take size))
 | .ints k l=>(A.leN (A.addN off size) (A.len l),.ints k (A.part l off size))
 | _=>(false,.top)
def Ic (A:Ar) (x:AV) (off:Nat):Bool × AV:=match x with
 | .agg l=>(Nat.blt off l.length,l.getD off .top)
 | .ints k l=>(A.ltN off (A.len l),.int k (A.get l off))
 | _=>(false,.top)
def Al (A:Ar):POp → List AV → Bool × AV
 | .build zero spots,args=>match Hm zero spots args with
  | (ok,l)=>(ok,Ba l)
 | .fieldN off size,args=>match args with
  | [x]=>Ib A x off size
  | _=>(false,.top)
 | .field1 off,args=>match args with
  | [x]=>Ic A x off
  | _=>(false,.top)
 | .idxArr len size agg,args=>match args with
  | [x,.int _ n]=>match (match agg with | true=>Ib A x (A.mulN (A.ton n) size) size | false=>Ic A x (A.mulN (A.ton n) size)) with
   | (ok,v)=>(A.le 0 n && A.ltN (A.ton n) len && ok,v)
  | _=>(false,.top)
 | .idxStr,args=>match args with
  | [.str l,.int _ n]=>(A.le 0 n && A.ltN (A.ton n) (A.slen l),.int .u8 (A.get (A.sint l) (A.ton n)))
  | _=>(false,.top)
 | .minI,args=>match args with
  | .int k n :: l=>minL A false k n l
  | _=>(false,.top)
 | .maxI,args=>match args with
  | .int k n :: l=>minL A true k n l
  | _=>(false,.top)
 | .eqv neg k,args=>match args with
  | [a,b]=>match eqvA A k a b with
   | (ok,e)=>(ok,.bool (bif neg then !e else e))
  | _=>(false,.top)
 | .eqF neg ks,args=>match args with
  | [a,b]=>match B3 A false ks a b with
   | (ok,e)=>(ok,.bool (bif neg then !e else e))
  | _=>(false,.top)
 | .mkFn f n,args=>(true,.fn f (args.take n) (args.drop n))
 | .same,args=>match args with
  | [.str l]=>(true,.str l)
  | _=>(false,.top)
 | .assertT t commaOk zero,args=>match args with
  | [.ifc t' v]=>match Nat.beq t' t with
   | true=>(true,bif commaOk then .tup [v,.bool true] else v)
   | false=>(commaOk,.tup [zero,.bool false])
  | [.nilifc]=>(commaOk,.tup [zero,.bool false])
  | _=>(false,.top)
 | .capSl,args=>match args with
  | [.sl _ _ _ k e _]=>(true,bif e then .int .i64 k else .top)
  | [.nilsl]=>(true,.int .i64 0)
  | _=>(false,.top)
def Bn (A:Ar) (σ:AH):LOp → List AV → Bool × AV
 | .sl2str,args=>match args with
  | [x]=>match Br A false 1 σ x with
   | (ok,_,r)=>match r with
    | .ints k l=>(ok && decide (k=.u8),.str (A.istr l))
    | .cells l=>match l with
     | []=>(ok,.str [])
     | _=>(false,.top)
  | _=>(false,.top)
 | .lenMap,args=>match args with
  | [.map b]=>match σ.get b with
   | some (.map l)=>(true,.int .i64 l.length)
   | _=>(false,.top)
  | [.nilmap]=>(true,.int .i64 0)
  | _=>(false,.top)
 | .lookup sc ks commaOk zero,args=>match args with
  | [.map b,k]=>match σ.get b with
   | some (.map l)=>match B4 A sc ks k l 0 with
    | (ok,r)=>match r with
     | some (_,v)=>(ok,bif commaOk then .tup [v,.bool true] else v)
     | none=>(ok,bif commaOk then .tup [zero,.bool false] else zero)
   | _=>(false,.top)
  | [.nilmap,k]=>((B3 A sc ks k k).1,bif commaOk then .tup [zero,.bool false] else zero)
  | _=>(false,.top)
theorem rowA_mono {A:Ar} {str:Bool} {size:Nat} {σ σ':AH} (hg:∀ b o,σ.get b=some o → σ'.get b=some o) {v:AV} (h:(Br A str size σ v).1=true):Br A str size σ' v=Br A str size σ v:=by
 unfold Br at h ⊢
 cases v <;> try rfl
 rename_i b _ _ _ _ _
 dsimp only at h ⊢
 cases hb:σ.get b with
 | none=>rw [hb] at h;cases h
 | some o=>rw [hg _ _ hb]
theorem lstep_mono {A:Ar} {σ σ':AH} (hg:∀ b o,σ.get b=some o → σ'.get b=some o) {x:LOp} {args:List AV} (h:(Bn A σ x args).1=true):Bn A σ' x args=Bn A σ x args:=by
 cases x with
 | sl2str =>
  simp only [Bn] at h ⊢
  match args with
  | []=>rfl
  | [v] =>
   simp only at h ⊢
   have hr:(Br A false 1 σ v).1=true:=by
    generalize Br A false 1 σ v=r at h
    obtain ⟨ok,n,row⟩:=r
    cases row with
    | ints k l=>simp only [Bool.and_eq_true] at h;exact h.1
    | cells l=>cases l <;> first | exact h | cases h
   rw [rowA_mono hg hr]
  | _ :: _ :: _=>rfl
 | lenMap =>
  simp only [Bn] at h ⊢
  split at h
  ·rename_i b
   cases hb:σ.get b with
   | none=>rw [hb] at h;cases h
   | some o=>rw [hg _ _ hb]
  ·rfl
  ·cases h
 | lookup sc ks c z =>
  simp only [Bn] at h ⊢
  split at h
  ·rename_i b k
   cases hb:σ.get b with
   | none=>rw [hb] at h;cases h
   | some o=>rw [hg _ _ hb]
  ·rfl
  ·cases h
end
end Go.Proofs.YtfdfdagbeeeomaaDoor.V2
namespace Go.Proofs.YtfdfdagbeeeomaaDoor.V2
open Go
noncomputable section
def Bp:TypeDesc → Bool
 | .struct _ | .array _ _=>true
 | _=>false
inductive AOp where
 | mov (x:Ref)
 | pick (c a b:Ref)
 | bin (op:BinOp) (x y:Ref)
 | un (op:UnOp) (x:Ref)
 | conv (k:IntKind) (x:Ref)
 | alloc (e:TypeId) (l:List AV)
 | box (e:TypeId) (x:Ref)
 | load1 (x:Ref)
 | loadN (n:Nat) (x:Ref)
 | store (n:Nat) (p x:Ref)
 | fieldAddr (off:Nat) (x:Ref)
 | idxArr (len size:Nat) (x i:Ref)
 | idxSl (size:Nat) (x i:Ref)
 | slStr (x:Ref) (lo hi:Option Ref)
 | slSl (size:Nat) (x:Ref) (lo hi mx:Option Ref)
 | slArr (len size:Nat) (x:Ref) (lo hi mx:Option Ref)
 | extract (x:Ref) (k:Nat)
 | mkIface (t:TypeId) (x:Ref)
 | nilCheck (x:Ref)
 | lenStr (x:Ref)
 | lenSl (x:Ref)
 | ext (x:XOp) (args:List Ref)
 | pur (x:POp) (args:List Ref)
 | rd (x:LOp) (args:List Ref)
 | mk (x:NOp) (args:List Ref)
 | badop
def AObj.readOk (A:Ar) (o:AObj) (off n:Nat):Bool:=match o with
 | .dead=>false
 | .map _=>false
 | .hid=>false
 | .cells l _ _=>Nat.ble (off + n) l.length
 | .ints _ l _ _=>A.leN (A.addN off n) (A.len l)
def AObj.read (A:Ar) (o:AObj) (off n:Nat):AV:=match o with
 | .dead=>.top
 | .map _=>.top
 | .hid=>.top
 | .cells l _ _=>Ba ((l.drop off).take n)
 | .ints k l _ _=>.ints k (A.part l off n)
def bnd (A:Ar) (x:Option AV) (dflt top:Nat):Bool × Nat:=match x with
 | none=>(true,dflt)
 | some (.int _ n)=>(A.le 0 n && A.leN (A.ton n) top,A.ton n)
 | some _=>(false,0)
def unI (A:Ar) (op:UnOp) (v:AV):Bool × AV:=match op,v with
 | .neg,.int k n=>(true,.int k (A.wr k (A.sub 0 n)))
 | .xor,.int k n=>Ay A .xor k (if k.signed then -1 else k.max) n
 | .not,.bool b=>(true,.bool !b)
 | _,_=>(false,.top)
def Bk (A:Ar) (op:BinOp) (ax ay:AV) (σ:AH):Out:=match ax with
 | .int k a=>match ay with
  | .int k' b=>((Ay A op k a b).1 && (K7 op || decide (k=k')),(Ay A op k a b).2,σ)
  | _=>bad σ
 | .str a=>match ay with
  | .str b=>((Jf A op a b).1,(Jf A op a b).2,σ)
  | _=>bad σ
 | _=>bad σ
def C6 (A:Ar) (ax:AV) (σ:AH):Out:=match ax with
 | .ptr b off=>match σ.get b with
  | some o=>(o.atOk A off,o.atD A off,σ)
  | none=>bad σ
 | _=>bad σ
def C5 (A:Ar) (n:Nat) (ax:AV) (σ:AH):Out:=match ax with
 | .ptr b off=>match σ.get b with
  | some o=>(o.readOk A off n,o.read A off n,σ)
  | none=>bad σ
 | _=>bad σ
def AV.size (A:Ar):AV → Nat
 | .agg l=>l.length
 | .ints _ l=>A.len l
 | _=>1
theorem AV.size_eq (a:AV):a.size std=a.cells.length:=by cases a <;> simp [AV.size,AV.cells,std]
def L7 (A:Ar) (n:Nat) (ap ax:AV) (σ:AH):Out:=match ap with
 | .ptr b off=>match σ.get b with
  | some o=>(o.writeOk A off ax && A.eqN (ax.size A) n,.tup [],σ.put b (o.write A off ax))
  | none=>bad σ
 | _=>bad σ
def I2 (A:Ar) (len size:Nat) (ax ai:AV) (σ:AH):Out:=match ax with
 | .ptr b o=>match ai with
  | .int _ n=>(A.le 0 n && A.ltN (A.ton n) len,.ptr b (A.addN o (A.mulN (A.ton n) size)),σ)
  | _=>bad σ
 | _=>bad σ
def Ma (A:Ar) (size:Nat) (ax ai:AV) (σ:AH):Out:=match ax with
 | .sl b o len _ _ _=>match ai with
  | .int _ n=>(A.le 0 n && A.ltN (A.ton n) len,.ptr b (A.addN o (A.mulN (A.ton n) size)),σ)
  | _=>bad σ
 | _=>bad σ
def L8 (A:Ar) (ax:AV) (lo hi:Option AV) (σ:AH):Out:=match ax with
 | .str l =>
  let h:=bnd A hi (A.slen l) (A.slen l)
  let m:=bnd A lo 0 h.2
  (h.1 && m.1,.str (A.spart l m.2 (A.subN h.2 m.2)),σ)
 | _=>bad σ
def oSlSl (A:Ar) (size:Nat) (ax:AV) (lo hi mx:Option AV) (σ:AH):Out:=match ax with
 | .sl b o n c e z =>
  let m:=bnd A mx c c
  let h:=bnd A hi n m.2
  let l:=bnd A lo 0 h.2
  (m.1 && h.1 && l.1 && (hi.isSome || mx.isNone) && Nat.beq z size,.sl b (A.addN o (A.mulN l.2 size)) (A.subN h.2 l.2) (A.subN m.2 l.2) e z,σ)
 | .nilsl =>
  let m:=bnd A mx 0 0
  let h:=bnd A hi 0 0
  let l:=bnd A lo 0 0
  (m.1 && h.1 && l.1 && (hi.isSome || mx.isNone),.nilsl,σ)
 | _=>bad σ
def L9 (A:Ar) (len size:Nat) (ax:AV) (lo hi mx:Option AV) (σ:AH):Out:=match ax with
 | .ptr b o=>match σ.get b with
  | some ob =>
   let m:=bnd A mx len len
   let h:=bnd A hi len m.2
   let l:=bnd A lo 0 h.2
   (m.1 && h.1 && l.1 && (hi.isSome || mx.isNone) && ob.readOk A o (len * size),.sl b (A.addN o (A.mulN l.2 size)) (A.subN h.2 l.2) (A.subN m.2 l.2) true size,σ)
  | none=>bad σ
 | _=>bad σ
def Mp (v:AV) (e:TypeId):AObj:=bif v.known then AObj.of v.cells e .exact else .cells [] e .exact
theorem boxO_or {ρ:Ren} {v:AV} {x:Value} {e:TypeId} (h:VR ρ v x):OR ρ (0,x.cells.size) (Mp v e) (some (.cells x.cells e)):=by
 unfold Mp
 cases hk:v.known with
 | false=>exact OR.mk' rfl ⟨x.cells,e,(0,0),rfl,fun _=>⟨rfl,.inl rfl,rfl⟩,Nat.zero_le _,Nat.zero_le _,fun i a hi=>by cases hi⟩
 | true=>simpa using OR.of (e:=e) (h.cells hk)
theorem boxO_tail {v:AV} {e:TypeId}:(Mp v e).tail=false:=by
 unfold Mp
 cases v.known with
 | false=>rfl
 | true=>exact (AObj.of_spec _ _ _).2.2.2.1
def step (A:Ar) (ev:Ref → AV) (σ:AH):AOp → Out
 | .mov x=>(true,ev x,σ)
 | .pick c a b=>match ev c with
  | .bool t=>(true,bif t then ev a else ev b,σ)
  | _=>bad σ
 | .bin op x y=>Bk A op (ev x) (ev y) σ
 | .un op x=>((unI A op (ev x)).1,(unI A op (ev x)).2,σ)
 | .conv k x=>match ev x with
  | .int _ n=>(true,.int k (A.wr k n),σ)
  | _=>bad σ
 | .alloc e l=>(Nat.blt σ.next 1000000,.ptr σ.next 0,σ.new (AObj.of l e .exact))
 | .box e x=>(Nat.blt σ.next 1000000,.ptr σ.next 0,σ.new (Mp (ev x) e))
 | .load1 x=>C6 A (ev x) σ
 | .loadN n x=>C5 A n (ev x) σ
 | .store n p x=>L7 A n (ev p) (ev x) σ
 | .fieldAddr off x=>match ev x with
  | .ptr b o=>(true,.ptr b (o + off),σ)
  | _=>bad σ
 | .idxArr len size x i=>I2 A len size (ev x) (ev i) σ
 | .idxSl size x i=>Ma A size (ev x) (ev i) σ
 | .slStr x lo hi=>L8 A (ev x) (lo.map ev) (hi.map ev) σ
 | .slSl size x lo hi mx=>oSlSl A size (ev x) (lo.map ev) (hi.map ev) (mx.map ev) σ
 | .slArr len size x lo hi mx=>L9 A len size (ev x) (lo.map ev) (hi.map ev) (mx.map ev) σ
 | .extract x k=>match ev x with
  | .tup l=>(Nat.blt k l.length,l.getD k .top,σ)
  | _=>bad σ
 | .mkIface t x=>(true,.ifc t (ev x),σ)
 | .nilCheck x=>match ev x with
  | .ptr b o=>(true,.ptr b o,σ)
  | .fn (.func f) first cap=>(true,.fn (.func f) first cap,σ)
  | _=>bad σ
 | .lenStr x=>match ev x with
  | .str l=>(true,.int .i64 (A.slen l),σ)
  | _=>bad σ
 | .lenSl x=>match ev x with
  | .sl _ _ n _ _ _=>(true,.int .i64 n,σ)
  | .nilsl=>(true,.int .i64 0,σ)
  | _=>bad σ
 | .ext x args=>Bb A σ x (args.map ev)
 | .pur x args=>match Al A x (args.map ev) with
  | (ok,v)=>(ok,v,σ)
 | .rd x args=>match Bn A σ x (args.map ev) with
  | (ok,v)=>(ok,v,σ)
 | .mk x args=>match Bt A x (args.map ev) with
  | (ok,v,o)=>(ok && Nat.blt σ.next 1000000,v σ.next,σ.new o)
 | .badop=>bad σ
def Runs (P:Program) (m:Sem Next) (W:World) (ρ:Ren) (σ:AH) (r:Out):Prop:=r.1=true → ∃ n W' ρ',m.run P W=.ok n W' ∧ HR ρ' r.2.2 W' ∧ Stp σ.next ρ σ W ρ' r.2.2 W' ∧
 ((∃ v,n=.value v ∧ VR ρ' r.2.1 v) ∨ (n=.skip ∧ VR ρ' r.2.1 undef))
theorem Runs.val {P:Program} {m:Sem Next} {W:World} {ρ:Ren} {σ:AH} {r:Out} (hr:HR ρ σ W) (v:Value) (h:r.1=true → m.run P W=.ok (.value v) W ∧ VR ρ r.2.1 v) (hs:r.2.2=σ):Runs P m W ρ σ r:=fun ht=>by
 obtain ⟨h1,h2⟩:=h ht
 rw [hs]
 exact ⟨_,W,ρ,h1,hr,Stp.refl (Nat.le_refl _),.inl ⟨v,rfl,h2⟩⟩
theorem Runs.bad {P:Program} {m:Sem Next} {W:World} {ρ:Ren} {σ σ':AH}:Runs P m W ρ σ (bad σ'):=fun h=>by cases h
section
variable {P:Program} {W:World} {ρ:Ren} {σ:AH}
theorem Dz (c o n:Nat):(⟨c,o,none⟩:Addr).add n=⟨c,o + n,none⟩:=by unfold Addr.add;split <;> simp_all
theorem load1_run (hr:HR ρ σ W) {t:TypeId} {d:TypeDesc} (hu:P.underlying t=some d) (hd:Bp d=false) {x:Value} {ax:AV} (hx:VR ρ ax x) (hok:(C6 std ax σ).1=true) :
  (C6 std ax σ).2.2=σ ∧ ∃ c o v,x=.pointer (some ⟨c,o,none⟩) ∧ (loadVar t ⟨c,o,none⟩).run P W=.ok v W ∧ VR ρ (C6 std ax σ).2.1 v:=by
 unfold C6 at hok ⊢
 cases ax
 case ptr b off =>
  unfold VR at hx
  obtain ⟨c,d',hb,rfl⟩:=hx
  dsimp only at hok ⊢
  cases ho:σ.get b with
  | none=>rw [ho] at hok;cases hok
  | some o =>
   rw [ho] at hok
   obtain ⟨v,hv,hvr⟩:=hr.load hb ho (AObj.at_of_ok hok)
   refine ⟨rfl,c,off + d'.1,v,rfl,?_,hvr⟩
   have hagg:(isAgg t).run P W=.ok false W:=by
    unfold isAgg underlying
    simp only [Sem.run_bind,run_program,Result.andThen_ok,hu,Sem.run_pure]
    cases d <;> first | rfl | cases hd
   simp only [loadVar,Sem.run_bind,Result.andThen_ok,hagg,Bool.false_eq_true,if_false,run_load,hv]
 all_goals cases hok
theorem sem_load1 (hr:HR ρ σ W) {t:TypeId} {d:TypeDesc} (hu:P.underlying t=some d) (hd:Bp d=false) {x:Value} {ax:AV} (hx:VR ρ ax x) :
  Runs P (do pure (.value (← Instr.loadAt t x))) W ρ σ (C6 std ax σ):=by
 intro hok
 obtain ⟨h1,c,o,v,rfl,hrun,hv⟩:=load1_run (P:=P) hr hu hd hx hok
 rw [h1]
 exact ⟨.value v,W,ρ,by simp only [Instr.loadAt,Instr.sureAddr,Sem.run_bind,Sem.run_pure,Result.andThen_ok,hrun],hr,Stp.refl (Nat.le_refl _),.inl ⟨v,rfl,hv⟩⟩
theorem loadN_run (hr:HR ρ σ W) {t:TypeId} {d:TypeDesc} {i:TypeInfo} (hu:P.underlying t=some d) (hd:Bp d=true) (hi:P.info? t=some i) {x:Value} {ax:AV} (hx:VR ρ ax x) (hok:(C5 std i.size ax σ).1=true) :
  (C5 std i.size ax σ).2.2=σ ∧ ∃ c o v,x=.pointer (some ⟨c,o,none⟩) ∧ (loadVar t ⟨c,o,none⟩).run P W=.ok v W ∧ VR ρ (C5 std i.size ax σ).2.1 v:=by
 unfold C5 at hok ⊢
 cases ax
 case ptr b off =>
  unfold VR at hx
  obtain ⟨c,d',hb,rfl⟩:=hx
  dsimp only at hok ⊢
  cases ho:σ.get b with
  | none=>rw [ho] at hok;cases hok
  | some o =>
   rw [ho] at hok
   have hok:o.readOk std off i.size=true:=hok
   have hok:o.cellsy=true ∧ off + i.size ≤ o.len:=by
    cases o with
    | dead=>cases hok
    | map l=>cases hok
    | hid=>cases hok
    | cells l e t=>have hok:Nat.ble (off + i.size) l.length=true:=hok;rw [Nat.ble_eq] at hok;exact ⟨rfl,hok⟩
    | ints k l e t=>have hok:Nat.ble (off + i.size) l.length=true:=hok;rw [Nat.ble_eq] at hok;exact ⟨rfl,hok⟩
   obtain ⟨_,hc,o',ho',hO⟩:=hr.dom b c d' hb
   rw [ho] at ho';cases ho'
   obtain ⟨vl,hl,hcell,hvs⟩:∃ vl:List Value,vl.length=i.size ∧ (∀ j v,vl[j]?=some v → W.cell? ((⟨c,off + d'.1,none⟩:Addr).add j)=some v) ∧ ∀ j a,o.at (off + j)=some a → j < i.size → ∃ v,vl[j]?=some v ∧ VR ρ a v:=by
    by_cases hz:i.size=0
    ·exact ⟨[],by rw [hz];rfl,fun j v h=>by simp at h,fun j a _ h=>by omega⟩
    ·obtain ⟨cs,e0,fr,hx,_,hlen,_,hat⟩:=(hO.1 hok.1).2 (fun _=>by omega)
     refine ⟨(cs.toList.drop (off + d'.1)).take i.size,by simp;omega,fun j v hj=>?_,fun j a ha hj=>?_⟩
     ·rw [List.getElem?_take] at hj
      split at hj
      ·rw [List.getElem?_drop] at hj
       rw [Dz]
       simp only [World.cell?,hx]
       simpa using hj
      ·cases hj
     ·obtain ⟨v,hv,hvr⟩:=hat _ a ha
      refine ⟨v,?_,hvr⟩
      rw [List.getElem?_take,if_pos hj,List.getElem?_drop,show off + d'.1 + j=off + j + d'.1 by omega]
      simpa using hv
   have hrun:=run_loadCells_list (P:=P) W ⟨c,off + d'.1,none⟩ vl hcell
   rw [hl] at hrun
   have hagg:(isAgg t).run P W=.ok true W:=by
    unfold isAgg underlying
    simp only [Sem.run_bind,run_program,Result.andThen_ok,hu,Sem.run_pure]
    cases d <;> first | rfl | cases hd
   have hsz:(sizeOf t).run P W=.ok i.size W:=by simp [sizeOf,typeInfo,hi]
   refine ⟨rfl,c,off + d'.1,.agg vl.toArray,rfl,by simp only [loadVar,Sem.run_bind,Sem.run_pure,Result.andThen_ok,hagg,if_true,hsz,hrun],?_⟩
   show VR ρ (o.read std off i.size) _
   cases o with
   | dead=>simp [AObj.cellsy] at hok
   | map l=>simp [AObj.cellsy] at hok
   | hid=>simp [AObj.cellsy] at hok
   | cells l e tl =>
    have hle:off + i.size ≤ l.length:=hok.2
    unfold AObj.read
    refine Gx (VRs.of _ _ (by rw [hl];simp;omega) fun j a hj=>?_)
    rw [List.getElem?_take] at hj
    split at hj
    ·rename_i hjl
     rw [List.getElem?_drop] at hj
     exact hvs j a hj hjl
    ·cases hj
   | ints k l e tl =>
    have hle:off + i.size ≤ l.length:=hok.2
    unfold AObj.read VR
    congr 2
    apply List.ext_getElem?
    intro j
    rw [List.getElem?_map]
    show _=Option.map (Value.int k) (((l.drop off).take i.size)[j]?)
    rw [List.getElem?_take (l:=l.drop off)]
    by_cases hj:j < i.size
    ·rw [if_pos hj,List.getElem?_drop]
     have hlt:off + j < l.length:=by omega
     obtain ⟨v,hv,hvr⟩:=hvs j (.int k l[off + j]) (by simp [AObj.at,hlt]) hj
     unfold VR at hvr
     rw [hv,hvr];simp [hlt]
    ·rw [if_neg hj,List.getElem?_eq_none (by rw [hl];omega)];rfl
 all_goals cases hok
theorem sem_loadN (hr:HR ρ σ W) {t:TypeId} {d:TypeDesc} {i:TypeInfo} (hu:P.underlying t=some d) (hd:Bp d=true) (hi:P.info? t=some i) {x:Value} {ax:AV} (hx:VR ρ ax x) :
  Runs P (do pure (.value (← Instr.loadAt t x))) W ρ σ (C5 std i.size ax σ):=by
 intro hok
 obtain ⟨h1,c,o,v,rfl,hrun,hv⟩:=loadN_run (P:=P) hr hu hd hi hx hok
 rw [h1]
 exact ⟨.value v,W,ρ,by simp only [Instr.loadAt,Instr.sureAddr,Sem.run_bind,Sem.run_pure,Result.andThen_ok,hrun],hr,Stp.refl (Nat.le_refl _),.inl ⟨v,rfl,hv⟩⟩
theorem sem_store (hr:HR ρ σ W) {t:TypeId} {i:TypeInfo} (hi:P.info? t=some i) {p x:Value} {ap ax:AV} (hp:VR ρ ap p) (hx:VR ρ ax x) :
  Runs P (do Instr.storeAt t p x;pure .skip) W ρ σ (L7 std i.size ap ax σ):=by
 unfold L7
 cases ap
 case ptr b off =>
  unfold VR at hp
  obtain ⟨c,d',hb,rfl⟩:=hp
  dsimp only
  cases ho:σ.get b with
  | none=>exact Runs.bad
  | some o =>
   intro hok
   have hok:(o.writeOk std off ax && Nat.beq (ax.size std) i.size)=true:=hok
   rw [Bool.and_eq_true,Nat.beq_eq,AV.size_eq] at hok
   obtain ⟨W',hrun,h1,h2⟩:=hr.store P hb ho hok.1 hx
   refine ⟨.skip,W',ρ,?_,h1,h2,.inr ⟨rfl,?_⟩⟩
   ·have hsz:(sizeOf t).run P W=.ok i.size W:=by simp [sizeOf,typeInfo,hi]
    have hvs:=(hx.cells (AObj.write_spec hok.1).2.2.2.1).length
    have hne:¬ (x.cells.size ≠ i.size):=by
     have:x.cells.toList.length=x.cells.size:=rfl
     omega
    simp only [Instr.storeAt,Instr.sureAddr,storeVar,Sem.run_bind,Sem.run_pure,Result.andThen_ok,hsz,if_neg hne,hrun]
   ·show VR ρ (.tup []) undef
    unfold VR;exact ⟨[],rfl,rfl⟩
 all_goals exact Runs.bad
theorem sem_box (hr:HR ρ σ W) {e:TypeId} {v:Value} {a:AV} (h:VR ρ a v) :
  Runs P (do pure (.value (.pointer (some (← newVar e v))))) W ρ σ (Nat.blt σ.next 1000000,.ptr σ.next 0,σ.new (Mp a e)):=fun hok=>by
 obtain ⟨ρ',h1,_,h3,h4⟩:=hr.new (o:=Mp a e) (x:=.cells v.cells e) hok (boxO_or h)
 exact ⟨_,_,ρ',rfl,h3,h4,.inl ⟨_,rfl,by unfold VR;exact ⟨_,_,h1,rfl⟩⟩⟩
theorem sem_new (hr:HR ρ σ W) {e:TypeId} {v:Value} {l:List AV} (h:VRs ρ l v.cells.toList) :
  Runs P (do pure (.value (.pointer (some (← newVar e v))))) W ρ σ (Nat.blt σ.next 1000000,.ptr σ.next 0,σ.new (AObj.of l e .exact)):=fun hok=>by
 obtain ⟨ρ',h1,_,h3,h4⟩:=hr.new (o:=AObj.of l e .exact) (x:=.cells v.cells e) hok (by simpa using OR.of (e:=e) h)
 exact ⟨_,_,ρ',rfl,h3,h4,.inl ⟨_,rfl,by unfold VR;exact ⟨_,_,h1,rfl⟩⟩⟩
end
end
end Go.Proofs.YtfdfdagbeeeomaaDoor.V2
namespace Go.Proofs.YtfdfdagbeeeomaaDoor.V2
open Go
noncomputable section
def Ly (P:Program) (sh:TypeId → Option (List CK)):List Field → Nat → Option (List CK)
 | [],_=>some []
 | f :: fs,off=>match sh f.type with
  | some ks=>match P.info? f.type with
   | some i => match f.name != "_" && Nat.beq f.offset off && Nat.beq i.size ks.length && Nat.beq (P.cellsOf f.type) ks.length && Nat.blt 0 ks.length with
    | true=>match Ly P sh fs (off + ks.length) with
     | some r=>some (ks ++ r)
     | none=>none
    | false=>none
   | none=>none
  | none=>none
def Bm (P:Program):Nat → TypeId → Option (List CK)
 | 0,_=>none
 | n + 1,t=>match P.underlying t with
  | some (.int _)=>some [.int]
  | some .string=>some [.str]
  | some .bool=>some [.bool]
  | some (.array len e)=>match Bm P n e with
   | some ks=>match P.info? e with
    | some i=>match Nat.beq i.size ks.length && Nat.beq (P.cellsOf e) ks.length && Nat.blt 0 ks.length with
     | true=>some (List.replicate len ks).flatten
     | false=>none
    | none=>none
   | none=>none
  | some (.struct fs)=>match P.stoodInHeld t with
   | true=>none
   | false=>Ly P (Bm P n) fs.toList 0
  | _=>none
def Az (P:Program) (t:TypeId):Bool:=match P.underlying t with
 | some (.int _)=>true
 | some .string=>true
 | some .bool=>true
 | _=>false
def keyArr (P:Program) (t:TypeId) (m:Nat):Bool:=match P.underlying t with
 | some (.array n e)=>match P.underlying e with
  | some (.int _)=>match P.info? e with
   | some i=>Nat.beq i.size 1 && Nat.beq n m
   | none=>false
  | _=>false
 | _=>false
def Fq:Operand → Bool
 | .const _=>true
 | _=>false
def Gp (P:Program) (rf:Operand → Ref) (neg:Bool) (op:BinOp) (t:TypeId) (x y:Operand):Option AOp:=match P.underlying t with
 | some (.int _)=>some (.bin op (rf x) (rf y))
 | some .string=>some (.bin op (rf x) (rf y))
 | some .bool=>some (.pur (.eqv neg .bool) [rf x,rf y])
 | some (.pointer e)=>match P.info? e with
  | some i=>match i.size with
   | 0=>none
   | _ + 1=>some (.pur (.eqv neg .ptr) [rf x,rf y])
  | none=>none
 | some (.slice _)=>some (.pur (.eqv neg .sl) [rf x,rf y])
 | some (.map _ _)=>some (.pur (.eqv neg .map) [rf x,rf y])
 | some (.func _ _ _)=>some (.pur (.eqv neg .fn) [rf x,rf y])
 | some (.interface _)=>match Fq x || Fq y with
  | true=>some (.pur (.eqv neg .ifc) [rf x,rf y])
  | false=>none
 | some (.array _ _)=>match P.eqGuardType P.depth t with
  | true=>none
  | false=>match Bm P 100 t with
   | some ks=>some (.pur (.eqF neg ks) [rf x,rf y])
   | none=>none
 | some (.struct _)=>match P.eqGuardType P.depth t with
  | true=>none
  | false=>match Bm P 100 t with
   | some ks=>some (.pur (.eqF neg ks) [rf x,rf y])
   | none=>none
 | _=>none
def Ev (P:Program) (rf:Operand → Ref) (s d:TypeId) (x:Operand):Option AOp:=match P.underlying d with
 | some .string=>match P.underlying s with
  | some .string=>some (.pur .same [rf x])
  | some (.slice e)=>match P.underlying e with
   | some (.int .u8)=>match P.info? e with
    | some i=>match Nat.beq i.size 1 with
     | true=>some (.rd .sl2str [rf x])
     | false=>none
    | none=>none
   | _=>none
  | _=>none
 | some (.slice e)=>match P.underlying s with
  | some .string=>match P.underlying e with
   | some (.int .u8)=>some (.mk (.str2sl e) [rf x])
   | _=>none
  | some (.slice _)=>match P.underlying e with
   | some (.int .u8)=>match s == d with
    | true=>some (.ext .mark [rf x])
    | false=>none
   | _=>none
  | _=>none
 | _=>none
def spotsS (P:Program) (fs:Array Field):List (Nat × Operand) → Option (List (Nat × Nat))
 | []=>some []
 | p :: l=>match fs[p.1]? with
  | some fd=>match P.info? fd.type with
   | some j=>match spotsS P fs l with
    | some r=>some ((fd.offset,j.size) :: r)
    | none=>none
   | none=>none
  | none=>none
def Dh (P:Program) (rf:Operand → Ref) (t:TypeId) (parts:List (Nat × Operand)):Option AOp:=match P.info? t with
 | some i=>match i.zero with
  | some z=>match P.underlying t with
   | some (.struct fs)=>match fs.toList.all fun f=>(P.info? f.type).isSome with
    | true=>match spotsS P fs parts with
     | some spots=>some (.pur (.build (z.cells.toList.map C0) spots) (parts.map fun p=>rf p.2))
     | none=>none
    | false=>none
   | some (.array _ e)=>match P.info? e with
    | some j=>some (.pur (.build (z.cells.toList.map C0) (parts.map fun p=>(p.1 * j.size,j.size))) (parts.map fun p=>rf p.2))
    | none=>none
   | _=>none
  | none=>none
 | none=>none
def Ho (P:Program) (rf:Operand → Ref) (b:Builtin) (args:List Operand) (ats:List TypeId):Option AOp:=match b with
 | .min=>match ats with
  | t :: _=>match P.underlying t with
   | some (.int _)=>some (.pur .minI (args.map rf))
   | _=>none
  | _=>none
 | .max=>match ats with
  | t :: _=>match P.underlying t with
   | some (.int _)=>some (.pur .maxI (args.map rf))
   | _=>none
  | _=>none
 | .cap=>match ats with
  | t :: _=>match P.underlying t with
   | some (.slice _)=>some (.pur .capSl (args.map rf))
   | _=>none
  | _=>none
 | .copy=>match ats with
  | [t,tx]=>match P.underlying t with
   | some (.slice e)=>match P.info? e with
    | some i=>match P.underlying tx with
     | some .string=>some (.ext (.copy i.size true) (args.map rf))
     | some (.slice _)=>some (.ext (.copy i.size false) (args.map rf))
     | _=>none
    | none=>none
   | _=>none
  | _=>none
 | .delete=>match ats with
  | t :: _=>match P.underlying t with
   | some (.map k _)=>match Az P k with
    | true=>match Bm P 100 k with
     | some ks=>some (.ext (.mapDel true ks) (args.map rf))
     | none=>none
    | false=>none
   | _=>none
  | _=>none
 | _=>none
def isAB:AOp → Bool
 | .alloc _ _=>true
 | .box _ _=>true
 | _=>false
theorem compEq_ab {P:Program} {rf:Operand → Ref} {neg:Bool} {op:BinOp} {t:TypeId} {x y:Operand} {ao:AOp} (h:Gp P rf neg op t x y=some ao):isAB ao=false:=by
 unfold Gp at h
 repeat' split at h
 all_goals first | (cases h;rfl) | cases h
theorem M0 {P:Program} {rf:Operand → Ref} {s d:TypeId} {x:Operand} {ao:AOp} (h:Ev P rf s d x=some ao):isAB ao=false:=by
 unfold Ev at h
 repeat' split at h
 all_goals first | (cases h;rfl) | cases h
theorem Lf {P:Program} {rf:Operand → Ref} {t:TypeId} {parts:List (Nat × Operand)} {ao:AOp} (h:Dh P rf t parts=some ao):isAB ao=false:=by
 unfold Dh at h
 repeat' split at h
 all_goals first | (cases h;rfl) | cases h
theorem compBi_ab {P:Program} {rf:Operand → Ref} {b:Builtin} {args:List Operand} {ats:List TypeId} {ao:AOp} (h:Ho P rf b args ats=some ao):isAB ao=false:=by
 unfold Ho at h
 repeat' split at h
 all_goals first | (cases h;rfl) | cases h
def isMk:AOp → Bool
 | .mk _ _=>true
 | _=>false
theorem compEq_mk {P:Program} {rf:Operand → Ref} {neg:Bool} {op:BinOp} {t:TypeId} {x y:Operand} {ao:AOp} (h:Gp P rf neg op t x y=some ao):isMk ao=false:=by
 unfold Gp at h
 repeat' split at h
 all_goals first | (cases h;rfl) | cases h
theorem compBuild_mk {P:Program} {rf:Operand → Ref} {t:TypeId} {parts:List (Nat × Operand)} {ao:AOp} (h:Dh P rf t parts=some ao):isMk ao=false:=by
 unfold Dh at h
 repeat' split at h
 all_goals first | (cases h;rfl) | cases h
theorem compBi_mk {P:Program} {rf:Operand → Ref} {b:Builtin} {args:List Operand} {ats:List TypeId} {ao:AOp} (h:Ho P rf b args ats=some ao):isMk ao=false:=by
 unfold Ho at h
 repeat' split at h
 all_goals first | (cases h;rfl) | cases h
def Il (P:Program) (rf:Operand → Ref):Op → Option AOp
 | .move x=>some (.mov (rf x))
 | .assign x=>some (.mov (rf x))
 | .pick c a b=>some (.pick (rf c) (rf a) (rf b))
 | .binOp op t x y _=>match op with
  | .eql=>Gp P rf false .eql t x y
  | .neq=>Gp P rf true .neq t x y
  | _=>some (.bin op (rf x) (rf y))
 | .unOp op _ x=>some (.un op (rf x))
 | .convert s d x=>match P.underlying s with
  | some (.int _)=>match P.underlying d with
   | some (.int k)=>some (.conv k (rf x))
   | _=>none
  | _=>Ev P rf s d x
 | .alloc e=>match P.info? e with
  | some i=>match i.zero with
   | some z=>some (.alloc e (z.cells.toList.map C0))
   | none=>none
  | none=>none
 | .box e x=>some (.box e (rf x))
 | .load t x=>match P.underlying t with
  | some d=>match Bp d with
   | true=>match P.info? t with
    | some i=>some (.loadN i.size (rf x))
    | none=>none
   | false=>some (.load1 (rf x))
  | none=>none
 | .store t p x=>match P.info? t with
  | some i=>some (.store i.size (rf p) (rf x))
  | none=>none
 | .fieldAddr s x f=>match P.underlying s with
  | some (.struct fs)=>match fs[f]? with
   | some fd=>match P.info? fd.type with
    | some i=>match i.size with
     | 0=>none
     | _ + 1=>some (.fieldAddr fd.offset (rf x))
    | none=>none
   | none=>none
  | _=>none
 | .indexAddr t x ix=>match P.underlying t with
  | some (.array len e)=>match P.info? e with
   | some i=>some (.idxArr len i.size (rf x) (rf ix))
   | none=>none
  | some (.slice e)=>match P.info? e with
   | some i=>some (.idxSl i.size (rf x) (rf ix))
   | none=>none
  | _=>none
 | .slice t x lo hi mx=>match P.underlying t with
  | some .string=>match mx with
   | none=>some (.slStr (rf x) (lo.map rf) (hi.map rf))
   | some _=>none
  | some (.slice e)=>match P.info? e with
   | some i=>some (.slSl i.size (rf x) (lo.map rf) (hi.map rf) (mx.map rf))
   | none=>none
  | some (.array n e)=>match P.info? e with
   | some i=>some (.slArr n i.size (rf x) (lo.map rf) (hi.map rf) (mx.map rf))
   | none=>none
  | _=>none
 | .extract x k=>some (.extract (rf x) k)
 | .makeInterface t x=>match P.underlying t with
  | some (.interface _)=>none
  | some _=>some (.mkIface t (rf x))
  | none=>none
 | .nilCheck x=>some (.nilCheck (rf x))
 | .buildSlice t len parts=>match P.underlying t with
  | some (.slice e)=>match P.info? e with
   | some i=>match i.zero with
    | some _=>match parts.toList.map (·.1) == List.range len && Nat.ble (len * i.size) 16777216 with
     | true=>some (.mk (.bslice e i.size len) (parts.toList.map fun p=>rf p.2))
     | false=>none
    | none=>none
   | none=>none
  | _=>none
 | .call c=>match c.callee with
  | .builtin .append=>match c.args.toList with
   | [s,x]=>match c.argTypes.toList with
    | [t,tx]=>match P.underlying t with
     | some (.slice e)=>match P.info? e with
      | some i=>match i.zero with
       | some z=>match Nat.beq z.cells.size i.size && Nat.blt 0 i.size && Nat.ble i.bytes 128 with
        | true=>match P.underlying tx with
         | some .string=>some (.ext (.append e true i.size) [rf s,rf x])
         | some (.slice _)=>some (.ext (.append e false i.size) [rf s,rf x])
         | some (.int _)=>match z with
          | .int k v=>match decide (v=0) && Nat.beq i.size 1 with
           | true=>some (.ext (.appz e k) [rf s,rf x])
           | false=>none
          | _=>none
         | _=>none
        | false=>none
       | none=>none
      | none=>none
     | _=>none
    | _=>none
   | _=>none
  | .builtin .len=>match c.argTypes[0]? with
   | some t=>match P.underlying t with
    | some .string=>match c.args[0]? with
     | some x=>some (.lenStr (rf x))
     | none=>none
    | some (.slice _)=>match c.args[0]? with
     | some x=>some (.lenSl (rf x))
     | none=>none
    | some (.map _ _)=>some (.rd .lenMap (c.args.toList.map rf))
    | _=>none
   | none=>none
  | .builtin b=>Ho P rf b c.args.toList c.argTypes.toList
  | _=>none
 | .build t parts=>Dh P rf t parts.toList
 | .field t x f=>match P.underlying t with
  | some (.struct fs)=>match fs[f]? with
   | some fd=>match P.underlying fd.type with
    | some d=>match Bp d with
     | true=>match P.info? fd.type with
      | some i=>some (.pur (.fieldN fd.offset i.size) [rf x])
      | none=>none
     | false=>some (.pur (.field1 fd.offset) [rf x])
    | none=>none
   | none=>none
  | _=>none
 | .index t x ix=>match P.underlying t with
  | some .string=>some (.pur .idxStr [rf x,rf ix])
  | some (.array len e)=>match P.info? e with
   | some i=>match P.underlying e with
    | some d=>some (.pur (.idxArr len i.size (Bp d)) [rf x,rf ix])
    | none=>none
   | none=>none
  | _=>none
 | .makeFunc fn first cap=>some (.pur (.mkFn fn first.size) ((first ++ cap).toList.map rf))
 | .typeAssert x _ t commaOk=>match P.underlying t with
  | some (.interface _)=>none
  | some _=>match P.info? t with
   | some i=>match i.zero with
    | some z=>some (.pur (.assertT t commaOk (Jo z)) [rf x])
    | none=>none
   | none=>none
  | none=>none
 | .makeSlice t n c=>match P.underlying t with
  | some (.slice e)=>match P.info? e with
   | some i=>match i.zero with
    | some z=>match Nat.beq z.cells.size i.size && Nat.ble i.bytes 1024 with
     | true=>some (.mk (.makeSl e i.size (z.cells.toList.map C0)) [rf n,rf c])
     | false=>none
    | none=>none
   | none=>none
  | _=>none
 | .makeMap t r=>match P.underlying t with
  | some (.map _ _)=>some (.mk .makeMap (r.toList.map rf))
  | _=>none
 | .lookup t x ix commaOk=>match P.underlying t with
  | some (.map k e)=>match Az P k with
   | true=>match Bm P 100 k with
    | some ks=>match P.info? e with
     | some i=>match i.zero with
      | some z=>some (.rd (.lookup true ks commaOk (Jo z)) [rf x,rf ix])
      | none=>none
     | none=>none
    | none=>none
   | false=>none
  | _=>none
 | .mapUpdate t m k x=>match P.underlying t with
  | some (.map kt _)=>match Az P kt with
   | true=>match Bm P 100 kt with
    | some ks=>some (.ext (.mapUpd true ks) [rf m,rf k,rf x])
    | none=>none
   | false=>match Bm P 100 kt with
    | some ks=>match keyArr P kt ks.length with
     | true=>some (.ext (.mapUpd false ks) [rf m,rf k,rf x])
     | false=>none
    | none=>none
  | _=>none
 | .insert t m k x=>match P.underlying t with
  | some (.map kt _)=>match Az P kt with
   | true=>match Bm P 100 kt with
    | some ks=>some (.ext (.mapUpd true ks) [rf m,rf k,rf x])
    | none=>none
   | false=>none
  | _=>none
 | _=>none
section
variable {P:Program} {W:World} {ρ:Ren} {σ:AH}
theorem bnd_run {x:Option AV} {v:Option Value} (h:match x,v with | none,none=>True | some a,some u=>VR ρ a u | _,_=>False) (dflt top:Nat) (code:BoundsCode) (hok:(bnd std x dflt top).1=true) :
  (match v with | some u=>Instr.sliceBound u top code | none=>pure dflt:Sem Nat).run P W=.ok (bnd std x dflt top).2 W ∧ (x.isSome=true → (bnd std x dflt top).2 ≤ top):=by
 cases x with
 | none =>
  cases v with
  | none=>exact ⟨rfl,fun h=>by cases h⟩
  | some u=>exact h.elim
 | some a =>
  cases v with
  | none=>exact h.elim
  | some u =>
   cases a <;> simp only [bnd,std,Bool.false_eq_true] at hok
   case int k n =>
    simp only [VR] at h
    subst h
    rw [Bool.and_eq_true,Nat.ble_eq] at hok
    have h1:0 ≤ n:=of_decide_eq_true hok.1
    refine ⟨?_,fun _=>hok.2⟩
    simp only [Instr.sliceBound,asIntOf,Sem.run_bind,Sem.run_pure,Result.andThen_ok,bnd]
    rw [if_pos ⟨h1,by omega⟩];rfl
theorem bnd_none (d t:Nat):bnd std none d t=(true,d):=rfl
theorem Fy {lo hi mx:Option AV} {vl vh vm:Option Value} (isS:Bool) (len cap:Nat)
  (hl:match lo,vl with | none,none=>True | some a,some u=>VR ρ a u | _,_=>False)
  (hh:match hi,vh with | none,none=>True | some a,some u=>VR ρ a u | _,_=>False)
  (hm:match mx,vm with | none,none=>True | some a,some u=>VR ρ a u | _,_=>False)
  (hmx:(hi.isSome || mx.isNone)=true)
  (okm:(bnd std mx cap cap).1=true) (okh:(bnd std hi len (bnd std mx cap cap).2).1=true) (okl:(bnd std lo 0 (bnd std hi len (bnd std mx cap cap).2).2).1=true) :
  (Instr.sliceBounds isS len cap vl vh vm).run P W=.ok ((bnd std lo 0 (bnd std hi len (bnd std mx cap cap).2).2).2,(bnd std hi len (bnd std mx cap cap).2).2,(bnd std mx cap cap).2) W:=by
 unfold Instr.sliceBounds
 have h1:=fun code=>(bnd_run (P:=P) (W:=W) hm cap cap code okm).1
 have h2:=fun code=>(bnd_run (P:=P) (W:=W) hh len (bnd std mx cap cap).2 code okh).1
 have h3:=fun code=>(bnd_run (P:=P) (W:=W) hl 0 (bnd std hi len (bnd std mx cap cap).2).2 code okl).1
 have e0:(bnd std none cap cap).2=cap:=rfl
 cases mx <;> cases vm <;> first | exact hm.elim | skip
 ·cases hi <;> cases vh <;> first | exact hh.elim | skip
  all_goals
   cases lo <;> cases vl <;> first | exact hl.elim | skip
   all_goals
    simp only [bnd_none] at h1 h2 h3 ⊢
    simp [h2,h3]
 ·cases hi <;> cases vh <;> first | exact hh.elim | (simp at hmx;done) | skip
  all_goals
   cases lo <;> cases vl <;> first | exact hl.elim | skip
   all_goals
    simp only [bnd_none] at h1 h2 h3 ⊢
    simp [h1,h2,h3]
theorem Ge {ev:Ref → AV} {rf:Operand → Ref} {a:Act} (hev:∀ x,VR ρ (ev (rf x)) (a.eval x)) (x:Option Operand) :
  match (x.map rf).map ev,x.map a.eval with | none,none=>True | some a,some u=>VR ρ a u | _,_=>False:=by
 cases x with
 | none=>trivial
 | some x=>exact hev x
end
end
end Go.Proofs.YtfdfdagbeeeomaaDoor.V2
namespace Go.Proofs.YtfdfdagbeeeomaaDoor.V2
open Go
noncomputable section
section
variable {P:Program} {W:World} {ρ:Ren} {σ:AH}
theorem sem_bin (hr:HR ρ σ W) {op:BinOp} {t:TypeId} {x y:Operand} {vx vy:Value} {ax ay:AV} (hx:VR ρ ax vx) (hy:VR ρ ay vy) :
  Runs P (do let v ← (do eqGuard op t x y vx vy;binOp op t vx vy);pure (.value v)) W ρ σ (Bk std op ax ay σ):=by
 unfold Bk
 cases ax
 case int k a =>
  cases ay
  case int k' b =>
   simp only [VR] at hx hy
   subst hx;subst hy
   intro hok
   have hok:((Ay std op k a b).1 && (K7 op || decide (k=k')))=true:=hok
   rw [Bool.and_eq_true] at hok
   obtain ⟨v,h1,h2⟩:=binI_run (P:=P) (W:=W) (t:=t) (x:=x) (y:=y) hok.2 hok.1 ρ
   exact ⟨.value v,W,ρ,by rw [Sem.run_bind,h1];rfl,hr,Stp.refl (Nat.le_refl _),.inl ⟨v,rfl,h2⟩⟩
  all_goals exact Runs.bad
 case str a =>
  cases ay
  case str b =>
   simp only [VR] at hx hy
   subst hx;subst hy
   intro hok
   obtain ⟨v,h1,h2⟩:=binS_run (P:=P) (W:=W) (t:=t) (x:=x) (y:=y) hok ρ
   exact ⟨.value v,W,ρ,by rw [Sem.run_bind,h1];rfl,hr,Stp.refl (Nat.le_refl _),.inl ⟨v,rfl,h2⟩⟩
  all_goals exact Runs.bad
 all_goals exact Runs.bad
theorem sem_un (hr:HR ρ σ W) {op:UnOp} {vx:Value} {ax:AV} (hx:VR ρ ax vx) :
  Runs P (do let v ← Op.unary op vx;pure (.value v)) W ρ σ ((unI std op ax).1,(unI std op ax).2,σ):=by
 intro h0
 have hok:(unI std op ax).1=true:=h0
 clear h0
 have key:∃ v,(Op.unary op vx).run P W=.ok v W ∧ VR ρ (unI std op ax).2 v:=by
  cases op <;> cases ax <;> simp only [unI,Bool.false_eq_true] at hok
  case neg.int k n =>
   simp only [VR] at hx;subst hx
   exact ⟨.int k (k.wrap (0 - n)),by simp [Op.unary,Op.intArith],by simp only [unI,std,VR,wr_eq]⟩
  case xor.int k n =>
   simp only [VR] at hx;subst hx
   exact ⟨_,rfl,by simp only [unI,Ay,std,stdBits,VR,wr_eq]⟩
  case not.bool b =>
   simp only [VR] at hx;subst hx
   exact ⟨.bool (!b),by simp [Op.unary],by simp only [unI,VR]⟩
 obtain ⟨v,h1,h2⟩:=key
 exact ⟨.value v,W,ρ,by rw [Sem.run_bind,h1];rfl,hr,Stp.refl (Nat.le_refl _),.inl ⟨v,rfl,h2⟩⟩
theorem vr_sl {b o n k z:Nat} {e:Bool} {v:Value} (h:VR ρ (.sl b o n k e z) v):(∃ c d o' k',ρ b=some (c,d) ∧ v=.slice (some ⟨c,o',none⟩) n k' ∧ (k ≠ 0 → o'=o + d.1) ∧ n ≤ k ∧ k ≤ k' ∧ (e=true → k'=k) ∧ o' + k' * z ≤ d.2) ∨ (n=0 ∧ k=0 ∧ e=false ∧ (∃ x,ρ b=some x) ∧ ∃ p,v=.slice (some p) 0 0):=by unfold VR at h;exact h
theorem Ia {b o n k z:Nat} {e:Bool} {v:Value} (h:VR ρ (.sl b o n k e z) v):∃ p k',v=.slice (some p) n k' ∧ n ≤ k ∧ k ≤ k' ∧ (e=true → k'=k):=by
 rcases vr_sl h with ⟨c,d,o',k',_,rfl,_,h1,h2,h3,_⟩ | ⟨rfl,rfl,rfl,_,p,rfl⟩
 ·exact ⟨_,_,rfl,h1,h2,h3⟩
 ·exact ⟨p,0,rfl,Nat.le_refl _,Nat.le_refl _,fun h=>by cases h⟩
theorem Ff {b o:Nat} {v:Value} (h:VR ρ (.ptr b o) v):∃ c d,ρ b=some (c,d) ∧ v=.pointer (some ⟨c,o + d.1,none⟩):=by unfold VR at h;exact h
theorem Kg (l:List UInt8) (i j:Nat):(⟨l.toArray⟩:ByteArray).extract i j=⟨((l.drop i).take (j - i)).toArray⟩:=by
 have h:((⟨l.toArray⟩:ByteArray).extract i j).data=(l.toArray).extract i j:=ByteArray.data_extract ..
 have:(⟨l.toArray⟩:ByteArray).extract i j=⟨((⟨l.toArray⟩:ByteArray).extract i j).data⟩:=rfl
 rw [this,h];simp
theorem bnd_up {a:AV} {d d' t t':Nat} (h:(bnd std (some a) d t).1=true) (ht:t ≤ t'):(bnd std (some a) d' t').1=true ∧ (bnd std (some a) d' t').2=(bnd std (some a) d t).2:=by
 cases a <;> simp only [bnd,Bool.false_eq_true] at h ⊢
 refine ⟨?_,trivial⟩
 simp only [std,Bool.and_eq_true,Nat.ble_eq] at h ⊢
 exact ⟨h.1,by omega⟩
theorem Io {a:AV} {d t:Nat} (h:(bnd std (some a) d t).1=true):(bnd std (some a) d t).2 ≤ t:=by
 cases a <;> simp only [bnd,Bool.false_eq_true] at h ⊢
 simp only [std,Bool.and_eq_true,Nat.ble_eq] at h ⊢
 exact h.2
theorem sem_slSl (hr:HR ρ σ W) {t e:TypeId} {i:TypeInfo} (hu:P.underlying t=some (.slice e)) (hi:P.info? e=some i) {vx:Value} {ax:AV} (hx:VR ρ ax vx) {lo hi' mx:Option AV} {vl vh vm:Option Value}
  (hl:match lo,vl with | none,none=>True | some a,some u=>VR ρ a u | _,_=>False)
  (hh:match hi',vh with | none,none=>True | some a,some u=>VR ρ a u | _,_=>False)
  (hm:match mx,vm with | none,none=>True | some a,some u=>VR ρ a u | _,_=>False) :
  Runs P (do let v ← Instr.sliceAt t vx vl vh vm;pure (.value v)) W ρ σ (oSlSl std i.size ax lo hi' mx σ):=by
 unfold oSlSl
 have hsz:∀ W:World,(sizeOf e).run P W=.ok i.size W:=fun W=>by simp [sizeOf,typeInfo,hi]
 have hat:Instr.sliceAt t vx vl vh vm=(do match ← underlying t with
  | .array n elem =>
   let a ← Instr.sureAddr vx
   let (l,h,m) ← Instr.sliceBounds false n n vl vh vm
   let size ← sizeOf elem
   pure (.slice (some (if m=l then a else a.add (l * size))) (h - l) (m - l))
  | _=>Instr.slice t vx vl vh vm):=rfl
 have z:∀ x:Option AV,(bnd std x 0 0).1=true → (bnd std x 0 0).2=0:=fun x hx=>by
  cases x with
  | none=>rfl
  | some a=>have:=Io hx;omega
 cases ax
 case sl b o n c ex sz =>
  intro hok
  have hok:((bnd std mx c c).1 && (bnd std hi' n (bnd std mx c c).2).1 && (bnd std lo 0 (bnd std hi' n (bnd std mx c c).2).2).1 && (hi'.isSome || mx.isNone) && Nat.beq sz i.size)=true:=hok
  rw [Bool.and_eq_true,Bool.and_eq_true,Bool.and_eq_true,Bool.and_eq_true,Nat.beq_eq] at hok
  obtain ⟨⟨⟨⟨o1,o2⟩,o3⟩,o4⟩,rfl⟩:=hok
  rcases vr_sl hx with ⟨cb,d,o',k',hb,rfl,ho,hnk,hk,hex,hlim⟩ | ⟨rfl,rfl,rfl,hpx,pp,rfl⟩
  rotate_left
  ·have hrun:=Fy (P:=P) (W:=W) (ρ:=ρ) true 0 0 hl hh hm o4 o1 (by rw [z _ o1] at o2 ⊢;exact o2) (by rw [z _ o1] at o2 o3 ⊢;rw [z _ o2] at o3 ⊢;exact o3)
   rw [z _ o1] at o2 o3
   rw [z _ o2] at o3
   rw [z _ o1,z _ o2,z _ o3] at hrun
   refine ⟨.value (.slice (some pp) 0 0),W,ρ,?_,hr,Stp.refl (Nat.le_refl _),.inl ⟨_,rfl,?_⟩⟩
   ·rw [hat]
    simp only [Sem.run_bind,run_underlying hu,Result.andThen_ok,Instr.slice,hrun,hsz,if_true]
    rfl
   ·show VR ρ (.sl b (o + (bnd std lo 0 (bnd std hi' 0 (bnd std mx 0 0).2).2).2 * i.size) ((bnd std hi' 0 (bnd std mx 0 0).2).2 - (bnd std lo 0 (bnd std hi' 0 (bnd std mx 0 0).2).2).2) ((bnd std mx 0 0).2 - (bnd std lo 0 (bnd std hi' 0 (bnd std mx 0 0).2).2).2) false i.size) _
    rw [z _ o1,z _ o2,z _ o3]
    unfold VR;exact .inr ⟨rfl,rfl,rfl,hpx,pp,rfl⟩
  obtain ⟨M,hM,oM,hMc,hMx,hMk⟩:∃ M,(bnd std mx k' k').2=M ∧ (bnd std mx k' k').1=true ∧ (bnd std mx c c).2 ≤ M ∧ (ex=true → M=(bnd std mx c c).2) ∧ M ≤ k':=by
   cases mx with
   | none=>exact ⟨k',rfl,rfl,hk,fun h=>hex h,Nat.le_refl _⟩
   | some a =>
    have h:=bnd_up (d':=k') o1 hk
    exact ⟨_,rfl,h.1,Nat.le_of_eq h.2.symm,fun _=>h.2,Io h.1⟩
  have oh:(bnd std hi' n M).1=true ∧ (bnd std hi' n M).2=(bnd std hi' n (bnd std mx c c).2).2:=by
   cases hi' with
   | none=>exact ⟨rfl,rfl⟩
   | some a=>exact bnd_up o2 hMc
  have hrun:=Fy (P:=P) (W:=W) (ρ:=ρ) true n k' hl hh hm o4 oM (by rw [hM];exact oh.1) (by rw [hM,oh.2];exact o3)
  rw [hM,oh.2] at hrun
  obtain ⟨H,hH⟩:∃ H,(bnd std hi' n (bnd std mx c c).2).2=H:=⟨_,rfl⟩
  obtain ⟨L,hL⟩:∃ L,(bnd std lo 0 H).2=L:=⟨_,rfl⟩
  obtain ⟨C,hC⟩:∃ C,(bnd std mx c c).2=C:=⟨_,rfl⟩
  have hHC:H ≤ C ∨ (hi'=none ∧ mx=none):=by
   rw [← hH,← hC]
   cases hi' with
   | none =>
    cases mx with
    | none=>exact .inr ⟨rfl,rfl⟩
    | some a=>simp at o4
   | some a=>exact .inl (Io o2)
  have hLH:L ≤ H:=by
   rw [← hL]
   cases lo with
   | none=>exact Nat.zero_le _
   | some a =>
    rw [hH] at o3
    exact Io o3
  have hHC':H ≤ C:=by
   rcases hHC with h | ⟨rfl,rfl⟩
   ·exact h
   ·rw [← hH,← hC];exact hnk
  rw [hC] at hMc hMx
  refine ⟨.value (.slice (some (if M=L then ⟨cb,o',none⟩ else (⟨cb,o',none⟩:Addr).add (L * i.size))) (H - L) (M - L)),W,ρ,?_,hr,Stp.refl (Nat.le_refl _),.inl ⟨_,rfl,?_⟩⟩
  ·rw [hat]
   simp only [Sem.run_bind,run_underlying hu,Result.andThen_ok,Instr.slice,hrun,hsz,hH,hL]
   by_cases hML:M=L
   ·simp [hML]
   ·simp [hML]
  ·show VR ρ (.sl b (o + (bnd std lo 0 (bnd std hi' n (bnd std mx c c).2).2).2 * i.size) ((bnd std hi' n (bnd std mx c c).2).2 - (bnd std lo 0 (bnd std hi' n (bnd std mx c c).2).2).2) ((bnd std mx c c).2 - (bnd std lo 0 (bnd std hi' n (bnd std mx c c).2).2).2) ex i.size) _
   rw [hC,show (bnd std hi' n C).2=H by rw [← hC];exact hH,hL]
   unfold VR
   by_cases hML:M=L
   ·rw [if_pos hML]
    refine .inl ⟨cb,d,o',M - L,hb,rfl,fun h=>absurd h (by omega),by omega,by omega,fun h=>by rw [hMx h],?_⟩
    rw [hML,Nat.sub_self,Nat.zero_mul];omega
   ·rw [if_neg hML,Dz]
    have hlim':o' + L * i.size + (M - L) * i.size ≤ d.2:=by
     have e1:L * i.size + (M - L) * i.size=M * i.size:=by rw [← Nat.add_mul,Nat.add_sub_cancel' (by omega)]
     have e2:M * i.size ≤ k' * i.size:=Nat.mul_le_mul_right _ hMk
     omega
    refine .inl ⟨cb,d,_,M - L,hb,rfl,fun h=>?_,by omega,by omega,fun h=>by rw [hMx h],hlim'⟩
    have hc0:c ≠ 0:=by
     intro h0
     subst h0
     have:C=0:=by
      rw [← hC]
      cases mx with
      | none=>rfl
      | some a=>have:=Io o1;omega
     omega
    rw [ho hc0];omega
 case nilsl =>
  unfold VR at hx
  subst hx
  intro hok
  have hok:((bnd std mx 0 0).1 && (bnd std hi' 0 0).1 && (bnd std lo 0 0).1 && (hi'.isSome || mx.isNone))=true:=hok
  rw [Bool.and_eq_true,Bool.and_eq_true,Bool.and_eq_true] at hok
  obtain ⟨⟨⟨o1,o2⟩,o3⟩,o4⟩:=hok
  have hrun:=Fy (P:=P) (W:=W) (ρ:=ρ) true 0 0 hl hh hm o4 o1 (by rw [z _ o1];exact o2) (by rw [z _ o1,z _ o2];exact o3)
  rw [z _ o1,z _ o2,z _ o3] at hrun
  refine ⟨.value (.slice none 0 0),W,ρ,?_,hr,Stp.refl (Nat.le_refl _),.inl ⟨_,rfl,by show VR ρ .nilsl _;unfold VR;rfl⟩⟩
  rw [hat]
  simp only [Sem.run_bind,run_underlying hu,Result.andThen_ok,Instr.slice,hrun,hsz]
  rfl
 all_goals exact Runs.bad
theorem sem_slArr (hr:HR ρ σ W) {t e:TypeId} {n:Nat} {i:TypeInfo} (hu:P.underlying t=some (.array n e)) (hi:P.info? e=some i) {vx:Value} {ax:AV} (hx:VR ρ ax vx) {lo hi' mx:Option AV} {vl vh vm:Option Value}
  (hl:match lo,vl with | none,none=>True | some a,some u=>VR ρ a u | _,_=>False)
  (hh:match hi',vh with | none,none=>True | some a,some u=>VR ρ a u | _,_=>False)
  (hm:match mx,vm with | none,none=>True | some a,some u=>VR ρ a u | _,_=>False) :
  Runs P (do let v ← Instr.sliceAt t vx vl vh vm;pure (.value v)) W ρ σ (L9 std n i.size ax lo hi' mx σ):=by
 unfold L9
 have hsz:∀ W:World,(sizeOf e).run P W=.ok i.size W:=fun W=>by simp [sizeOf,typeInfo,hi]
 cases ax
 case ptr b o =>
  obtain ⟨cb,d,hb,rfl⟩:=Ff hx
  dsimp only
  cases hob:σ.get b with
  | none=>exact Runs.bad
  | some ob =>
  intro hok
  have hok:((bnd std mx n n).1 && (bnd std hi' n (bnd std mx n n).2).1 && (bnd std lo 0 (bnd std hi' n (bnd std mx n n).2).2).1 && (hi'.isSome || mx.isNone) && ob.readOk std o (n * i.size))=true:=hok
  rw [Bool.and_eq_true,Bool.and_eq_true,Bool.and_eq_true,Bool.and_eq_true] at hok
  obtain ⟨⟨⟨⟨o1,o2⟩,o3⟩,o4⟩,o5⟩:=hok
  have hlim:o + d.1 + n * i.size ≤ d.2:=by
   have hok:ob.cellsy=true ∧ o + n * i.size ≤ ob.len:=by
    cases ob with
    | dead=>cases o5
    | map l=>cases o5
    | hid=>cases o5
    | cells l e t=>have hok:Nat.ble (o + n * i.size) l.length=true:=o5;rw [Nat.ble_eq] at hok;exact ⟨rfl,hok⟩
    | ints k l e t=>have hok:Nat.ble (o + n * i.size) l.length=true:=o5;rw [Nat.ble_eq] at hok;exact ⟨rfl,hok⟩
   obtain ⟨_,_,o',ho',hO⟩:=hr.dom b cb d hb
   rw [hob] at ho';cases ho'
   have h1:=(hO.1 hok.1).1
   omega
  have hCn:(bnd std mx n n).2 ≤ n:=by
   cases mx with
   | none=>exact Nat.le_refl _
   | some a=>exact Io o1
  have hrun:=Fy (P:=P) (W:=W) (ρ:=ρ) false n n hl hh hm o4 o1 o2 o3
  obtain ⟨C,hC⟩:∃ C,(bnd std mx n n).2=C:=⟨_,rfl⟩
  rw [hC] at hrun o2 o3 hCn
  obtain ⟨H,hH⟩:∃ H,(bnd std hi' n C).2=H:=⟨_,rfl⟩
  rw [hH] at hrun o3
  obtain ⟨L,hL⟩:∃ L,(bnd std lo 0 H).2=L:=⟨_,rfl⟩
  rw [hL] at hrun
  have hHC:H ≤ C:=by
   rw [← hH]
   cases hi' with
   | none =>
    cases mx with
    | none=>rw [← hC];exact Nat.le_refl _
    | some a=>simp at o4
   | some a=>exact Io o2
  have hLH:L ≤ H:=by
   rw [← hL]
   cases lo with
   | none=>exact Nat.zero_le _
   | some a=>exact Io o3
  refine ⟨.value (.slice (some (if C=L then ⟨cb,o + d.1,none⟩ else (⟨cb,o + d.1,none⟩:Addr).add (L * i.size))) (H - L) (C - L)),W,ρ,?_,hr,Stp.refl (Nat.le_refl _),.inl ⟨_,rfl,?_⟩⟩
  ·simp only [Instr.sliceAt,Instr.sureAddr,Sem.run_bind,run_underlying hu,Result.andThen_ok,Sem.run_pure,hrun,hsz]
  ·show VR ρ (.sl b (o + (bnd std lo 0 (bnd std hi' n (bnd std mx n n).2).2).2 * i.size) ((bnd std hi' n (bnd std mx n n).2).2 - (bnd std lo 0 (bnd std hi' n (bnd std mx n n).2).2).2) ((bnd std mx n n).2 - (bnd std lo 0 (bnd std hi' n (bnd std mx n n).2).2).2) true i.size) _
   rw [hC,hH,hL]
   unfold VR
   by_cases hML:C=L
   ·rw [if_pos hML]
    refine .inl ⟨cb,d,o + d.1,C - L,hb,rfl,fun h=>absurd h (by omega),by omega,by omega,fun _=>rfl,?_⟩
    rw [hML,Nat.sub_self,Nat.zero_mul];omega
   ·rw [if_neg hML,Dz]
    refine .inl ⟨cb,d,_,C - L,hb,rfl,fun h=>by omega,by omega,by omega,fun _=>rfl,?_⟩
    have e1:L * i.size + (C - L) * i.size=C * i.size:=by rw [← Nat.add_mul,Nat.add_sub_cancel' (by omega)]
    have e2:C * i.size ≤ n * i.size:=Nat.mul_le_mul_right _ hCn
    omega
 all_goals exact Runs.bad
theorem sem_slStr (hr:HR ρ σ W) {t:TypeId} (hu:P.underlying t=some .string) {vx:Value} {ax:AV} (hx:VR ρ ax vx) {lo hi':Option AV} {vl vh:Option Value}
  (hl:match lo,vl with | none,none=>True | some a,some u=>VR ρ a u | _,_=>False)
  (hh:match hi',vh with | none,none=>True | some a,some u=>VR ρ a u | _,_=>False) :
  Runs P (do let v ← Instr.sliceAt t vx vl vh none;pure (.value v)) W ρ σ (L8 std ax lo hi' σ):=by
 unfold L8
 cases ax
 case str l =>
  simp only [VR] at hx
  subst hx
  intro hok
  have hok:((bnd std hi' l.length l.length).1 && (bnd std lo 0 (bnd std hi' l.length l.length).2).1)=true:=hok
  rw [Bool.and_eq_true] at hok
  have hrun:=Fy (P:=P) (W:=W) (ρ:=ρ) (mx:=none) (vm:=none) false l.length l.length hl hh trivial (by simp) rfl hok.1 hok.2
  refine ⟨.value (.string ⟨((l.drop (bnd std lo 0 (bnd std hi' l.length l.length).2).2).take ((bnd std hi' l.length l.length).2 - (bnd std lo 0 (bnd std hi' l.length l.length).2).2)).toArray⟩),W,ρ,?_,hr,Stp.refl (Nat.le_refl _),.inl ⟨_,rfl,by show VR ρ (.str _) _;unfold VR;rfl⟩⟩
  simp only [Instr.sliceAt,Instr.slice,Sem.run_bind,run_underlying hu,Result.andThen_ok,Option.isSome_none,Bool.false_eq_true,if_false,ba_size,hrun,bnd_none,Kg,Sem.run_pure]
 all_goals exact Runs.bad
theorem sem_idxArr (hr:HR ρ σ W) {t e:TypeId} {n:Nat} {i:TypeInfo} (hu:P.underlying t=some (.array n e)) (hi:P.info? e=some i) {vx vi:Value} {ax ai:AV} (hx:VR ρ ax vx) (hy:VR ρ ai vi) :
  Runs P (do let v ← Instr.indexAt t vx vi;pure (.value v)) W ρ σ (I2 std n i.size ax ai σ):=by
 unfold I2
 have hsz:∀ W:World,(sizeOf e).run P W=.ok i.size W:=fun W=>by simp [sizeOf,typeInfo,hi]
 cases ax
 case ptr b o =>
  obtain ⟨cb,d,hb,rfl⟩:=Ff hx
  cases ai
  case int k j =>
   simp only [VR] at hy
   subst hy
   intro hok
   have hok:(decide (0 ≤ j) && Nat.blt j.toNat n)=true:=hok
   rw [Bool.and_eq_true,decide_eq_true_eq,Nat.blt_eq] at hok
   have hok:0 ≤ j ∧ j < (n:Int):=⟨hok.1,by omega⟩
   refine ⟨.value (.pointer (some ⟨cb,o + d.1 + j.toNat * i.size,none⟩)),W,ρ,?_,hr,Stp.refl (Nat.le_refl _),.inl ⟨_,rfl,?_⟩⟩
   ·simp only [Instr.indexAt,asIntOf,Instr.sureAddr,Sem.run_bind,run_underlying hu,Result.andThen_ok,Sem.run_pure]
    simp [hok,hsz,Dz]
   ·show VR ρ (.ptr b (o + j.toNat * i.size)) _
    unfold VR;exact ⟨cb,d,hb,by rw [Nat.add_right_comm]⟩
  all_goals exact Runs.bad
 all_goals exact Runs.bad
theorem sem_idxSl (hr:HR ρ σ W) {t e:TypeId} {i:TypeInfo} (hu:P.underlying t=some (.slice e)) (hi:P.info? e=some i) {vx vi:Value} {ax ai:AV} (hx:VR ρ ax vx) (hy:VR ρ ai vi) :
  Runs P (do let v ← Instr.indexAt t vx vi;pure (.value v)) W ρ σ (Ma std i.size ax ai σ):=by
 unfold Ma
 have hsz:∀ W:World,(sizeOf e).run P W=.ok i.size W:=fun W=>by simp [sizeOf,typeInfo,hi]
 cases ax
 case sl b o n c ex sz =>
  cases ai
  case int k j =>
   simp only [VR] at hy
   subst hy
   intro hok
   have hok:(decide (0 ≤ j) && Nat.blt j.toNat n)=true:=hok
   rw [Bool.and_eq_true,decide_eq_true_eq,Nat.blt_eq] at hok
   have hok:0 ≤ j ∧ j < (n:Int):=⟨hok.1,by omega⟩
   obtain ⟨cb,d,o',k',hb,rfl,ho,hnk,_,_⟩:=(vr_sl hx).resolve_right (fun h=>by obtain ⟨rfl,_⟩:=h;omega)
   refine ⟨.value (.pointer (some ⟨cb,o' + j.toNat * i.size,none⟩)),W,ρ,?_,hr,Stp.refl (Nat.le_refl _),.inl ⟨_,rfl,?_⟩⟩
   ·simp only [Instr.indexAt,asIntOf,Sem.run_bind,run_underlying hu,Result.andThen_ok,Sem.run_pure]
    simp [hok,hsz,Dz]
   ·show VR ρ (.ptr b (o + j.toNat * i.size)) _
    unfold VR;exact ⟨cb,d,hb,by rw [ho (by omega),Nat.add_right_comm]⟩
  all_goals exact Runs.bad
 all_goals exact Runs.bad
end
end
end Go.Proofs.YtfdfdagbeeeomaaDoor.V2
namespace Go.Proofs.YtfdfdagbeeeomaaDoor.V2
open Go
noncomputable section
section
variable {P:Program} {W:World} {ρ:Ren} {σ:AH}
theorem one_of (ρ:Ren):∀ {l:List AV} {vs:List Value},VRs ρ l vs → l.all AV.one=true → ∀ u ∈ vs,u.oneCell'=true
 | [],_,e,_,u,hu=>by rw [show _=[] from e] at hu;cases hu
 | a :: l,_,⟨v,m,e,hv,hm⟩,h,u,hu=>by
  subst e
  rw [List.all_cons,Bool.and_eq_true] at h
  rcases List.mem_cons.1 hu with rfl | hu
  ·exact hv.one h.1
  ·exact one_of ρ hm h.2 u hu
theorem Ky (hr:HR ρ σ W) {str:Bool} {size:Nat} {v:AV} {x:Value} (hv:VR ρ v x) (hok:(Br std str size σ v).1=true) {tx:TypeId} (ht:(str=true ∧ P.underlying tx=some .string) ∨ (str=false ∧ ∃ e',P.underlying tx=some (.slice e'))) :
  ∃ cs,Src P size tx x (Br std str size σ v).2.1 cs W ∧ VRs ρ (Br std str size σ v).2.2.list cs ∧ (str=false → x=.slice none 0 0 ∧ (Br std str size σ v).2.1=0 ∨ ∃ a c,x=.slice (some a) (Br std str size σ v).2.1 c ∧ ∀ j u,cs[j]?=some u → W.cell? (a.add j)=some u):=by
 cases v
 case nilsl =>
  unfold VR at hv
  subst hv
  have hs:str=false:=by
   have h:(!str)=true:=hok
   cases str <;> simp at h ⊢
  subst hs
  obtain ⟨_,e',he⟩:=ht.resolve_left (fun h=>by cases h.1)
  exact ⟨[],Src.ofNil W he 0,rfl,fun _=>.inl ⟨rfl,rfl⟩⟩
 case str l =>
  unfold VR at hv
  subst hv
  have h:(str && Nat.beq size 1)=true:=hok
  rw [Bool.and_eq_true,Nat.beq_eq] at h
  obtain ⟨rfl,rfl⟩:=h
  obtain ⟨_,he⟩:=ht.resolve_right (fun h=>by cases h.1)
  refine ⟨_,Src.ofString W he ⟨l.toArray⟩,?_,fun h=>by cases h⟩
  show VRs ρ ((l.map fun b=>(b.toNat:Int)).map (AV.int .u8)) (byteCells ⟨l.toArray⟩)
  have:byteCells ⟨l.toArray⟩=(l.map fun b=>(b.toNat:Int)).map (Value.int .u8):=by simp [byteCells]
  rw [this];exact VRs.ints .u8 _
 case sl b o n k e z =>
  simp only [Br] at hok ⊢
  cases hob:σ.get b with
  | none=>rw [hob] at hok;cases hok
  | some ob =>
   rw [hob] at hok
   have hsf:str=false:=by
    cases ob <;> simp only [Bool.and_eq_true,Bool.not_eq_true',Bool.false_eq_true] at hok
    ·exact hok.1
    ·exact hok.1.1.1
    ·exact hok.1.1
   subst hsf
   obtain ⟨_,e',he⟩:=ht.resolve_left (fun h=>by cases h.1)
   rcases vr_sl hv with ⟨c,d,o',k',hb,rfl,ho,hnk,hkk,hex,hlim⟩ | ⟨rfl,rfl,rfl,_,pp,rfl⟩
   ·-- an address
    have hzero:n=0 → Src P size tx (.slice (some ⟨c,o',none⟩) 0 k') 0 [] W:=fun _ =>
     Src.ofSlice W he ⟨c,o',none⟩ 0 k' [] (by simp) (fun j u hu=>by simp at hu) (fun u hu=>by cases hu)
    have hmain:∀ (l:List AV),ob.cellsy=true → (∀ i,ob.at i=l[i]?) → o + n * size ≤ l.length → l.all AV.one=true → ∃ cs,Src P size tx (.slice (some ⟨c,o',none⟩) n k') n cs W ∧ VRs ρ ((l.drop o).take (n * size)) cs ∧ ∀ j u,cs[j]?=some u → W.cell? ((⟨c,o',none⟩:Addr).add j)=some u:=by
     intro l hal hat hle hone
     obtain ⟨_,hc,ob',hob',hO⟩:=hr.dom b c d hb
     rw [hob] at hob';cases hob'
     by_cases hns:n * size=0
     ·refine ⟨[],Src.ofSlice W he ⟨c,o',none⟩ n k' [] (by rw [hns];rfl) (fun j u hu=>by simp at hu) (fun u hu=>by cases hu),?_,fun j u hu=>by simp at hu⟩
      rw [hns];exact rfl
     ·have hn0:n ≠ 0:=fun h=>hns (by rw [h,Nat.zero_mul])
      obtain ⟨cs,e0,fr,hx,_,hlen,_,hats⟩:=(hO.1 hal).2 (fun _=>by
       have e1:=hat 0
       rw [List.getElem?_eq_getElem (by omega)] at e1
       exact Nat.lt_of_le_of_lt (Nat.zero_le _) (AObj.at_lt e1))
      have hk0:k ≠ 0:=by omega
      have ho:=ho hk0
      subst ho
      have hlc:o + n * size + d.1 ≤ cs.size:=by
       have:l.length=ob.len:=by
        have h1:∀ i,i < ob.len ↔ i < l.length:=fun i=>by
         constructor
         ·intro h
          rcases Nat.lt_or_ge i l.length with h' | h'
          ·exact h'
          ·have e1:=hat i
           rw [List.getElem?_eq_none h'] at e1
           cases ob with
           | dead=>cases hal
           | map l=>cases hal
           | hid=>cases hal
           | cells l2 e t=>simp only [AObj.at,AObj.len] at e1 h;rw [List.getElem?_eq_getElem h] at e1;cases e1
           | ints k2 l2 e t=>simp only [AObj.at,AObj.len] at e1 h;rw [List.getElem?_eq_getElem h] at e1;cases e1
         ·intro h
          have e1:=hat i
          rw [List.getElem?_eq_getElem h] at e1
          exact AObj.at_lt e1
        have h2:=h1 l.length
        have h3:=h1 ob.len
        omega
       omega
      have hvs:VRs ρ ((l.drop o).take (n * size)) ((cs.toList.drop (o + d.1)).take (n * size)):=by
       refine VRs.of _ _ (by simp;omega) fun i a hi=>?_
       rw [List.getElem?_take] at hi ⊢
       split at hi
       ·rename_i hin
        rw [if_pos hin]
        rw [List.getElem?_drop] at hi ⊢
        obtain ⟨u,hu,hur⟩:=hats (o + i) a (by rw [hat];exact hi)
        exact ⟨u,by rw [show o + d.1 + i=o + i + d.1 by omega];simpa using hu,hur⟩
       ·cases hi
      have hmem:∀ j u,((cs.toList.drop (o + d.1)).take (n * size))[j]?=some u → W.cell? ((⟨c,o + d.1,none⟩:Addr).add j)=some u:=fun j u hu=>by
       rw [List.getElem?_take] at hu
       split at hu
       ·rw [List.getElem?_drop] at hu
        rw [Dz]
        simp only [World.cell?,hx]
        simpa using hu
       ·cases hu
      refine ⟨_,Src.ofSlice W he ⟨c,o + d.1,none⟩ n k' _ (by simp;omega) hmem (one_of ρ hvs ?_),hvs,hmem⟩
      rw [List.all_eq_true] at hone ⊢
      exact fun a ha=>hone a (List.mem_of_mem_drop (List.mem_of_mem_take ha))
    cases ob with
    | map l=>cases hok
    | hid=>cases hok
    | dead =>
     simp only [Bool.and_eq_true,Nat.beq_eq] at hok
     obtain ⟨_,rfl⟩:=hok
     exact ⟨[],hzero rfl,rfl,fun _=>.inr ⟨_,_,rfl,fun j u hu=>by simp at hu⟩⟩
    | cells l e2 t =>
     simp only [Bool.and_eq_true,Nat.ble_eq] at hok
     obtain ⟨cs,h1,h2,h3⟩:=hmain l rfl (fun _=>rfl) hok.1.2 hok.2
     exact ⟨cs,h1,h2,fun _=>.inr ⟨_,_,rfl,h3⟩⟩
    | ints ik l e2 t =>
     simp only [std,Bool.and_eq_true,Nat.ble_eq] at hok
     obtain ⟨cs,h1,h2,h3⟩:=hmain (l.map (AV.int ik)) rfl (fun i=>by simp [AObj.at]) (by simpa using hok.2) (by rw [List.all_eq_true];intro a ha;obtain ⟨m,_,rfl⟩:=List.mem_map.1 ha;rfl)
     refine ⟨cs,h1,?_,fun _=>.inr ⟨_,_,rfl,h3⟩⟩
     show VRs ρ (((l.drop o).take (n * size)).map (AV.int ik)) cs
     rw [List.map_take,List.map_drop];exact h2
   ·-- nothing
    have hsrc:Src P size tx (.slice (some pp) 0 0) 0 [] W:=Src.ofSlice W he pp 0 0 [] (by simp) (fun j u hu=>by simp at hu) (fun u hu=>by cases hu)
    have hor:(.slice (some pp) 0 0:Value)=.slice none 0 0 ∧ (0:Nat)=0 ∨ ∃ a c,(.slice (some pp) 0 0:Value)=.slice (some a) 0 c ∧ ∀ (j:Nat) (u:Value),([]:List Value)[j]?=some u → W.cell? (a.add j)=some u:=.inr ⟨pp,0,rfl,fun j u hu=>by simp at hu⟩
    cases ob with
    | map l=>cases hok
    | hid=>cases hok
    | dead=>exact ⟨[],hsrc,rfl,fun _=>hor⟩
    | cells l e2 t =>
     refine ⟨[],hsrc,?_,fun _=>hor⟩
     show VRs ρ ((l.drop o).take (0 * size)) []
     rw [Nat.zero_mul,List.take_zero];exact rfl
    | ints ik l e2 t =>
     refine ⟨[],hsrc,?_,fun _=>hor⟩
     show VRs ρ (((l.drop o).take (0 * size)).map (AV.int ik)) []
     rw [Nat.zero_mul,List.take_zero];exact rfl
 all_goals cases hok
theorem catA_spec {e:TypeId} {r1 r2:Row} (h:(Hp std e r1 r2).1=true):(Hp std e r1 r2).2.cellsy=true ∧ (Hp std e r1 r2).2.len=(r1.list ++ r2.list).length ∧ (Hp std e r1 r2).2.elem=e ∧ (Hp std e r1 r2).2.tail=true ∧ ∀ i,(Hp std e r1 r2).2.at i=(r1.list ++ r2.list)[i]?:=by
 have hints:∀ k (l:List Int),(AObj.ints k l e .more).cellsy=true ∧ (AObj.ints k l e .more).len=(l.map (AV.int k)).length ∧ (AObj.ints k l e .more).elem=e ∧ (AObj.ints k l e .more).tail=true ∧ ∀ i,(AObj.ints k l e .more).at i=(l.map (AV.int k))[i]? :=
  fun k l=>⟨rfl,by simp [AObj.len],rfl,rfl,fun i=>by simp [AObj.at]⟩
 have hof:∀ (m:List AV) k' m' e' t',AObj.of m e .more=.ints k' m' e' t' → m=m'.map (AV.int k'):=fun m k' m' e' t' h=>by
  have:=(AObj.of_spec m e .more).2.2.2.2
  rw [h] at this
  apply List.ext_getElem?
  intro i
  rw [← this i];simp [AObj.at]
 cases r1 with
 | ints k l =>
  cases r2 with
  | ints k' m =>
   have hk:k=k':=of_decide_eq_true h
   subst hk
   have:=hints k (l ++ m)
   simpa [Hp,Row.list,std] using this
  | cells m =>
   cases m with
   | nil=>have:=hints k l;simpa [Hp,Row.list] using this
   | cons a m =>
    simp only [Hp] at h ⊢
    split at h
    ·rename_i k' m' e' t' hm
     have hk:k=k':=of_decide_eq_true h
     subst hk
     have e1:=hof _ _ _ _ _ hm
     have:=hints k (l ++ m')
     rw [List.map_append,← e1] at this
     exact this
    ·cases h
 | cells l =>
  cases r2 with
  | ints k m =>
   cases l with
   | nil=>have:=hints k m;simpa [Hp,Row.list] using this
   | cons a l =>
    simp only [Hp] at h ⊢
    split at h
    ·rename_i k' l' e' t' hm
     have hk:k=k':=of_decide_eq_true h
     subst hk
     have e1:=hof _ _ _ _ _ hm
     have:=hints k (l' ++ m)
     rw [List.map_append,← e1] at this
     exact this
    ·cases h
  | cells m=>exact AObj.of_spec (l ++ m) e .more
theorem HR.more {ρ:Ren} {σ σ':AH} {W:World} (h:HR ρ σ W) (hs:σ'.next ≤ 1000000) (hn:∀ b,σ'.next ≤ b → σ'.get b=none) (hle:σ.next ≤ σ'.next) (hg:∀ b,b < σ.next → σ'.get b=σ.get b):HR ρ σ' W :=
 ⟨hs,hn,fun b c d hb=>by
  obtain ⟨h1,h2,h3⟩:=h.dom b c d hb
  refine ⟨by omega,h2,?_⟩
  rw [hg b h1];exact h3,fun b b' c d d' h1 h2 hne=>by
  exact (h.inj b b' c d d' h1 h2 hne).congr (hg b (h.dom _ _ _ h1).1) (hg b' (h.dom _ _ _ h2).1)⟩
theorem HR.killt {ρ:Ren} {σ:AH} {W:World} (h:HR ρ σ W) {b:Nat} {ob:AObj} (hb:σ.get b=some ob) (ht:ob.tail=true ∨ ∃ x,ρ b=some x) (hro:ob.isRo=false):HR ρ (σ.put b .dead) W ∧ Stp σ.next ρ σ W ρ (σ.put b .dead) W:=by
 have hbn:b < σ.next:=Nat.lt_of_not_le fun hle=>by rw [h.none_ b hle] at hb;cases hb
 have hs:=h.small
 have hb20:b < 1048576:=by omega
 refine ⟨⟨h.small,fun m hm=>by rw [AH.get_put hb20,if_neg (by rintro rfl;exact absurd hm (by show ¬ σ.next ≤ _;omega))];exact h.none_ m hm,fun b' c' d' hb'=>?_,fun b1 b2 c' d1 d2 h1 h2 hne=>?_⟩,⟨fun _ _=>rfl,fun b' c' d' hb'=>.inl ⟨b',d',hb'⟩,Nat.le_refl _,fun b' ob' hb' hn ho' ht'=>?_,fun _ _ _=>rfl,rfl,rfl,rfl,Nat.le_refl _,fun b' c d o _ _ _ ho' hr'=>⟨by rw [AH.get_put hb20,if_neg (by rintro rfl;rw [hb] at ho';cases ho';rw [hro] at hr';cases hr')];exact ho',rfl⟩⟩⟩
 ·obtain ⟨h1,h2,o2,h3,h4⟩:=h.dom b' c' d' hb'
  refine ⟨h1,h2,?_⟩
  rw [AH.get_put hb20]
  by_cases hbb:b'=b
  ·exact ⟨.dead,if_pos hbb,OR.dead⟩
  ·rw [if_neg hbb];exact ⟨o2,h3,h4⟩
 ·by_cases e1:b1=b
  ·refine .inl ?_;rw [AH.get_put hb20,if_pos e1]
  ·by_cases e2:b2=b
   ·refine .inr (.inl ?_);rw [AH.get_put hb20,if_pos e2]
   ·exact (h.inj b1 b2 c' d1 d2 h1 h2 hne).congr (by rw [AH.get_put hb20,if_neg e1]) (by rw [AH.get_put hb20,if_neg e2])
 ·rw [AH.get_put hb20,if_neg ?_]
  ·exact ho'
  ·rintro rfl
   rw [hb] at ho';cases ho'
   rcases ht with ht | ⟨x,hx⟩
   ·rw [ht] at ht';cases ht'
   ·rw [hx] at hn;cases hn
theorem HR.rename {ρ:Ren} {σ:AH} {W:World} (h:HR ρ σ W) {c:Nat} {d:Nat × Nat} {o:AObj} (hs:Nat.blt σ.next 1000000=true) (hc:c < W.heap.size) (hO:OR ρ d o W.heap[c]?) (hdead:∀ b d',ρ b=some (c,d') → σ.get b=some .dead) (hold:∃ b d',ρ b=some (c,d')) :
  ∃ ρ',ρ' σ.next=some (c,d) ∧ Sub ρ ρ' ∧ HR ρ' (σ.new o) W ∧ Stp σ.next ρ σ W ρ' (σ.new o) W:=by
 have hs:σ.next < 1000000:=by rw [Nat.blt_eq] at hs;exact hs
 have hn:ρ σ.next=none:=by
  cases hc:ρ σ.next with
  | none=>rfl
  | some c=>have:=(h.dom _ c.1 c.2 hc).1;omega
 have hget:∀ m,(σ.new o).get m=if m=σ.next then some o else σ.get m:=fun m=>T.get_put _ _ _ _ (by omega)
 have hsub:Sub ρ (fun b=>if b=σ.next then some (c,d) else ρ b):=fun b x hc=>by
  have hne:b ≠ σ.next:=by rintro rfl;rw [hn] at hc;cases hc
  simp only [if_neg hne];exact hc
 refine ⟨fun b=>if b=σ.next then some (c,d) else ρ b,if_pos rfl,hsub,⟨by show σ.next + 1 ≤ _;omega,fun m hm=>by have hm:σ.next + 1 ≤ m:=hm;rw [hget,if_neg (by omega)];exact h.none_ m (by omega),fun b c' d' hc'=>?_,fun b b' c' d1 d2 h1 h2 hne=>?_⟩,⟨fun b hb=>if_neg (by omega),fun b c' d' hc'=>?_,by show σ.next ≤ σ.next + 1;omega,fun b ob hb _ ho' _=>?_,fun _ _ _=>rfl,rfl,rfl,rfl,Nat.le_refl _,fun b c' d' ob hb _ _ ho' _=>⟨by rw [hget,if_neg (by omega)];exact ho',rfl⟩⟩⟩
 ·rw [hget]
  by_cases hb:b=σ.next
  ·subst hb
   simp only [if_true,Option.some.injEq,Prod.mk.injEq] at hc'
   obtain ⟨rfl,rfl⟩:=hc'
   exact ⟨Nat.lt_succ_self _,hc,o,if_pos rfl,hO.mono hsub⟩
  ·simp only [if_neg hb] at hc' ⊢
   obtain ⟨h1,h2,o2,h3,h4⟩:=h.dom b c' d' hc'
   exact ⟨by show b < σ.next + 1;omega,h2,o2,h3,h4.mono hsub⟩
 ·by_cases e1:b=σ.next
  ·subst e1
   simp only [if_true,Option.some.injEq,Prod.mk.injEq] at h1
   obtain ⟨rfl,rfl⟩:=h1
   simp only [if_neg (Ne.symm hne)] at h2
   exact .inr (.inl (by rw [hget,if_neg (Ne.symm hne)];exact hdead _ _ h2))
  ·by_cases e2:b'=σ.next
   ·subst e2
    simp only [if_true,Option.some.injEq,Prod.mk.injEq] at h2
    obtain ⟨rfl,rfl⟩:=h2
    simp only [if_neg e1] at h1
    exact .inl (by rw [hget,if_neg e1];exact hdead _ _ h1)
   ·simp only [if_neg e1,if_neg e2] at h1 h2
    exact (h.inj b b' c' d1 d2 h1 h2 hne).congr (by rw [hget,if_neg e1]) (by rw [hget,if_neg e2])
 ·by_cases hb:b=σ.next
  ·subst hb
   simp only [if_true,Option.some.injEq,Prod.mk.injEq] at hc'
   obtain ⟨rfl,rfl⟩:=hc'
   obtain ⟨b0,d0,h0⟩:=hold
   exact .inl ⟨b0,d0,h0⟩
  ·simp only [if_neg hb] at hc'
   exact .inl ⟨b,d',hc'⟩
 ·rw [hget,if_neg (by omega)];exact ho'
end
end
end Go.Proofs.YtfdfdagbeeeomaaDoor.V2
