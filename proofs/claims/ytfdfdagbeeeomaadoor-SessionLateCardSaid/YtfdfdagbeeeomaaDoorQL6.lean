/- Part 6 of the proof: texts of the proof. -/
import Derived.Test.YtfdfdagbeeeomaaDoorQL5
namespace Go.Proofs.YtfdfdagbeeeomaaDoor.V2
open Go
noncomputable section
def tg {α:Type} (t:T α) (n:Nat) (b:FR) (k:α → FR):FR :=
 T.rec (motive:=fun _=>Nat → FR) (fun _=>b) (fun v _ _ gl gr n=>Nat.rec (Option.rec b k v) (fun p _=>Nat.rec (motive:=fun _=>Nat → FR) gl (fun _ _=>gr) (Nat.land p 1) (Nat.shiftRight p 1)) n) t n
theorem sh1 (p:Nat):Nat.shiftRight p 1=p / 2:=by show p >>> 1=_;rw [Nat.shiftRight_eq_div_pow]
theorem la1 (p:Nat):Nat.land p 1=p % 2:=by show p &&& 1=_;exact Nat.and_one_is_mod p
theorem tg_eq {α:Type}:∀ (t:T α) (n:Nat) (b:FR) (k:α → FR),tg t n b k=match t.get n with | some x=>k x | none=>b
 | .leaf,n,b,k=>by rw [T.get_leaf];rfl
 | .node v l r,0,b,k=>by
  rw [T.get_eq]
  show (Option.rec b k v:FR)=match v with | some x=>k x | none=>b
  cases v <;> rfl
 | .node v l r,p + 1,b,k=>by
  rw [T.get_eq]
  show (Nat.rec (motive:=fun _=>Nat → FR) (fun n=>tg l n b k) (fun _ _ n=>tg r n b k) (Nat.land p 1) (Nat.shiftRight p 1):FR)=_
  rw [sh1,la1,T.beq_f (Nat.succ_ne_zero p),cond_false]
  rcases Nat.mod_two_eq_zero_or_one p with h | h
  ·rw [h,T.beq_t (show (p + 1) % 2=1 by omega),cond_true,show (p + 1) / 2=p / 2 by omega]
   exact tg_eq l (p / 2) b k
  ·rw [h,T.beq_f (show (p + 1) % 2 ≠ 1 by omega),cond_false,show (p + 1) / 2 - 1=p / 2 by omega]
   exact tg_eq r (p / 2) b k
def ts {α:Type} (f:Nat):T α → Nat → α → (T α → FR) → FR :=
 Nat.rec (motive:=fun _=>T α → Nat → α → (T α → FR) → FR) (fun t _ x k=>T.rec (k (.node (some x) .leaf .leaf)) (fun _ l r _ _=>k (.node (some x) l r)) t)
  (fun _ ih t n x k=>T.rec
   (Nat.rec (k (.node (some x) .leaf .leaf)) (fun p _=>Nat.rec (ih .leaf (Nat.shiftRight p 1) x fun l=>k (.node none l .leaf)) (fun _ _=>ih .leaf (Nat.shiftRight p 1) x fun r=>k (.node none .leaf r)) (Nat.land p 1)) n)
   (fun v l r _ _=>Nat.rec (k (.node (some x) l r)) (fun p _=>Nat.rec (ih l (Nat.shiftRight p 1) x fun l=>k (.node v l r)) (fun _ _=>ih r (Nat.shiftRight p 1) x fun r=>k (.node v l r)) (Nat.land p 1)) n) t) f
theorem ts_eq {α:Type}:∀ (f:Nat) (t:T α) (n:Nat) (x:α) (k:T α → FR),ts f t n x k=k (T.set f t n x)
 | 0,t,n,x,k=>by cases t <;> rfl
 | f + 1,t,n,x,k=>by
  rw [T.set_succ]
  have key:∀ (v:Option α) (l r:T α),(Nat.rec (k (.node (some x) l r)) (fun p _=>Nat.rec (ts f l (Nat.shiftRight p 1) x fun l=>k (.node v l r)) (fun _ _=>ts f r (Nat.shiftRight p 1) x fun r=>k (.node v l r)) (Nat.land p 1)) n:FR)=k (bif Nat.beq n 0 then .node (some x) l r else bif Nat.beq (n % 2) 1 then .node v (T.set f l (n / 2) x) r else .node v l (T.set f r (n / 2 - 1) x)):=fun v l r=>by
   cases n with
   | zero=>rfl
   | succ p =>
    show (Nat.rec (ts f l (Nat.shiftRight p 1) x fun l=>k (.node v l r)) (fun _ _=>ts f r (Nat.shiftRight p 1) x fun r=>k (.node v l r)) (Nat.land p 1):FR)=_
    rw [sh1,la1,T.beq_f (Nat.succ_ne_zero p),cond_false]
    rcases Nat.mod_two_eq_zero_or_one p with h | h
    ·rw [h,T.beq_t (show (p + 1) % 2=1 by omega),cond_true,show (p + 1) / 2=p / 2 by omega]
     exact ts_eq f l (p / 2) x _
    ·rw [h,T.beq_f (show (p + 1) % 2 ≠ 1 by omega),cond_false,show (p + 1) / 2 - 1=p / 2 by omega]
     exact ts_eq f r (p / 2) x _
  cases t with
  | leaf=>exact key none .leaf .leaf
  | node v l r=>exact key v l r
/-! Blocks. -/
def gM (σ:FH) (b:Nat) (f:FObj → FR):FR:=FH.rec (motive:=fun _=>FR) (fun _ m=>tg m b .bad f) σ
def pM (σ:FH) (b:Nat) (o:FObj) (k:FH → FR):FR:=FH.rec (motive:=fun _=>FR) (fun n m=>ts 20 m b o fun m=>k ⟨n,m⟩) σ
def nM (σ:FH) (o:FObj) (k:Nat → FH → FR):FR:=FH.rec (motive:=fun _=>FR) (fun n m=>Bool.rec .bad (fN (Nat.succ n) fun n'=>ts 20 m n o fun m=>k n ⟨n',m⟩) (Nat.ble (Nat.succ n) 1000000)) σ
theorem gM_eq (σ:FH) (b:Nat) (f:FObj → FR):gM σ b f=match σ.mem.get b with | some o=>f o | none=>.bad:=by
 obtain ⟨n,m⟩:=σ
 show tg m b .bad f=match m.get b with | some o=>f o | none=>.bad
 rw [tg_eq]
 cases m.get b <;> rfl
theorem Cr {σ:FH} {b:Nat} {f:FObj → FR} (h:gM σ b f ≠ .bad):∃ o,σ.mem.get b=some o ∧ (αH σ).get b=some (αO o) ∧ gM σ b f=f o:=by
 rw [gM_eq] at h ⊢
 rw [αH_get]
 cases ho:σ.mem.get b with
 | none=>rw [ho] at h;exact absurd rfl h
 | some o=>exact ⟨o,rfl,rfl,rfl⟩
theorem pM_eq (σ:FH) (b:Nat) (o:FObj) (k:FH → FR):pM σ b o k=k ⟨σ.next,σ.mem.put b o⟩:=by
 obtain ⟨n,m⟩:=σ
 show ts 20 m b o (fun m=>k ⟨n,m⟩)=_
 rw [ts_eq];rfl
theorem pM_α (σ:FH) (b:Nat) (o:FObj):αH ⟨σ.next,σ.mem.put b o⟩=(αH σ).put b (αO o):=(αH_put σ b o).symm
theorem Et {σ:FH} {o:FObj} {k:Nat → FH → FR} (h:nM σ o k ≠ .bad):Nat.blt (αH σ).next 1000000=true ∧ ∃ σ',αH σ'=(αH σ).new (αO o) ∧ nM σ o k=k σ.next σ':=by
 obtain ⟨n,m⟩:=σ
 unfold nM at h ⊢
 have h:(Bool.rec .bad (fN (Nat.succ n) fun n'=>ts 20 m n o fun m=>k n ⟨n',m⟩) (Nat.ble (Nat.succ n) 1000000):FR) ≠ .bad:=h
 show Nat.ble (Nat.succ n) 1000000=true ∧ ∃ σ',αH σ'=(αH ⟨n,m⟩).new (αO o) ∧ (Bool.rec .bad (fN (Nat.succ n) fun n'=>ts 20 m n o fun m=>k n ⟨n',m⟩) (Nat.ble (Nat.succ n) 1000000):FR)=k n σ'
 cases hb:Nat.ble (Nat.succ n) 1000000
 ·rw [hb] at h;exact absurd rfl h
 ·refine ⟨rfl,⟨n + 1,m.put n o⟩,(αH_new ⟨n,m⟩ o).symm,?_⟩
  show (fN (Nat.succ n) fun n'=>ts 20 m n o fun m=>k n ⟨n',m⟩)=_
  rw [Aj,ts_eq];rfl
/-! Lists. -/
section
variable {α:Type}
def J1 (l:List α) (i:Nat) (a:α) (k:List α → FR):FR:=List.rec (motive:=fun _=>Nat → (List α → FR) → FR) (fun _ _=>.bad) (fun x l ih i k=>Nat.rec (k (a :: l)) (fun j _=>ih j fun l=>k (x :: l)) i) l i k
theorem Ix:∀ (l:List α) (i:Nat) (a:α) (k:List α → FR),J1 l i a k=if i < l.length then k (l.set i a) else .bad
 | [],i,a,k=>by rw [if_neg (by simp)];rfl
 | x :: l,0,a,k=>rfl
 | x :: l,i + 1,a,k=>by
  show J1 l i a (fun l=>k (x :: l))=_
  rw [Ix l i a]
  by_cases h:i < l.length
  ·rw [if_pos h,if_pos (by simpa using h)];rfl
  ·rw [if_neg h,if_neg (by simpa using h)]
def F2 (l:List α) (i:Nat) (k:α → FR):FR:=List.rec (motive:=fun _=>Nat → FR) (fun _=>.bad) (fun a _ ih i=>Nat.rec (k a) (fun j _=>ih j) i) l i
theorem nthA_eq:∀ (l:List α) (i:Nat) (k:α → FR),F2 l i k=match l[i]? with | some a=>k a | none=>.bad
 | [],i,k=>by simp [F2]
 | a :: l,0,k=>rfl
 | a :: l,i + 1,k=>by rw [List.getElem?_cons_succ,← nthA_eq l i k];rfl
theorem Ed {l:List α} {i:Nat} {k:α → FR} (h:F2 l i k ≠ .bad):∃ a,l[i]?=some a ∧ F2 l i k=k a:=by
 rw [nthA_eq] at h ⊢
 cases ha:l[i]? with
 | none=>rw [ha] at h;exact absurd rfl h
 | some a=>exact ⟨a,rfl,rfl⟩
def Bo (n:Nat):List α → (List α → FR) → FR:=Nat.rec (motive:=fun _=>List α → (List α → FR) → FR) (fun l k=>k l) (fun _ ih l k=>List.rec (k []) (fun _ l _=>ih l k) l) n
theorem B9:∀ (n:Nat) (l:List α) (k:List α → FR),Bo n l k=k (l.drop n)
 | 0,l,k=>rfl
 | n + 1,[],k=>rfl
 | n + 1,x :: l,k=>by show Bo n l k=_;rw [B9 n l];rfl
def Be (n:Nat):List α → (List α → FR) → FR:=Nat.rec (motive:=fun _=>List α → (List α → FR) → FR) (fun _ k=>k []) (fun _ ih l k=>List.rec (k []) (fun x l _=>ih l fun l=>k (x :: l)) l) n
theorem Bq:∀ (n:Nat) (l:List α) (k:List α → FR),Be n l k=k (l.take n)
 | 0,l,k=>by rw [List.take_zero];rfl
 | n + 1,[],k=>rfl
 | n + 1,x :: l,k=>by show Be n l (fun l=>k (x :: l))=_;rw [Bq n l];rfl
def Dk (l m:List α) (k:List α → FR):FR:=List.rec (motive:=fun _=>(List α → FR) → FR) (fun k=>k m) (fun x _ ih k=>ih fun l=>k (x :: l)) l k
theorem Co:∀ (l m:List α) (k:List α → FR),Dk l m k=k (l ++ m)
 | [],m,k=>rfl
 | x :: l,m,k=>by show Dk l m (fun l=>k (x :: l))=_;rw [Co l m];rfl
def A9 (l:List α) (n:Nat) (k:Nat → FR):FR:=List.rec (motive:=fun _=>Nat → FR) k (fun _ _ ih n=>fN (Nat.succ n) ih) l n
theorem A0:∀ (l:List α) (n:Nat) (k:Nat → FR),A9 l n k=k (n + l.length)
 | [],n,k=>rfl
 | x :: l,n,k=>by
  show fN (Nat.succ n) (fun n=>A9 l n k)=_
  rw [Aj,A0 l,List.length_cons];congr 1;omega
end
/-! What is known of a value: one cell;cells;else. -/
def kC (f1:FR) (fa:List FV → FR) (fs:FR) (v:FV):FR:=FV.rec (motive_1:=fun _=>FR) (motive_2:=fun _=>FR) (fun _ _=>f1) (fun _ _=>f1) (fun _=>f1) (fun _=>f1) (fun _ _=>f1) (fun _ _ _ _ _ _=>f1) (fun _=>f1) (fun _=>f1) (fun _ _ _ _ _=>f1) (fun _ _ _=>f1) (fun l _=>fa l) (fun _=>fs) (fun _ _=>fs) (fun _ _=>fs) (fun j=>Nl.rec (motive:=fun _=>FR) fs f1 f1 f1 f1 f1 j) .bad (fun _ _ _ _=>.bad) v
def FV.sgl:FV → Bool
 | .agg _=>false
 | .bs _=>false
 | .ints _ _=>false
 | .tup _=>false
 | .o .top=>false
 | _=>true
theorem kC_cases (f1:FR) (fa:List FV → FR) (fs:FR) (v:FV):(v.sgl=true ∧ kC f1 fa fs v=f1) ∨ (∃ l,v=.agg l ∧ kC f1 fa fs v=fa l) ∨ kC f1 fa fs v=fs:=by
 cases v with
 | agg l=>exact .inr (.inl ⟨l,rfl,rfl⟩)
 | bs _=>exact .inr (.inr rfl)
 | ints _ _=>exact .inr (.inr rfl)
 | tup _=>exact .inr (.inr rfl)
 | o j=>cases j <;> first | exact .inr (.inr rfl) | exact .inl ⟨rfl,rfl⟩
 | _=>exact .inl ⟨rfl,rfl⟩
theorem Kt {v:FV} (h:v.sgl=true):(αV v).known=true ∧ (αV v).one=true ∧ (αV v).cells=[αV v] ∧ (αV v).size std=1:=by
 cases v with
 | o j=>cases j <;> first | (exact ⟨rfl,rfl,rfl,rfl⟩) | (cases h)
 | _=>first | (exact ⟨rfl,rfl,rfl,rfl⟩) | (cases h)
def gW (t:Tl) (r:FR):FR:=Tl.rec (motive:=fun _=>FR) r r .bad t
theorem Ha {t:Tl} {r:FR} (h:gW t r ≠ .bad):(!t.isRo)=true ∧ gW t r=r:=by
 cases t <;> first | exact ⟨rfl,rfl⟩ | exact absurd rfl h
def Cx (l:List FV) (r:FR):FR:=List.rec r (fun v _ ih=>kC ih (fun _=>.bad) .bad v) l
theorem J6:∀ {l:List FV} {r:FR},Cx l r ≠ .bad → (αL l).all AV.one=true ∧ Cx l r=r
 | [],r,_=>⟨rfl,rfl⟩
 | v :: l,r,h=>by
  have h:kC (Cx l r) (fun _=>.bad) .bad v ≠ .bad:=h
  show ((αV v :: αL l).all AV.one=true) ∧ kC (Cx l r) (fun _=>.bad) .bad v=r
  rcases kC_cases (Cx l r) (fun _=>.bad) .bad v with ⟨h1,h2⟩ | ⟨_,_,h2⟩ | h2
  ·rw [h2] at h ⊢
   obtain ⟨h3,h4⟩:=J6 h
   exact ⟨by rw [List.all_cons,(Kt h1).2.1,h3];rfl,h4⟩
  ·rw [h2] at h;exact absurd rfl h
  ·rw [h2] at h;exact absurd rfl h
theorem αL_length:∀ l:List FV,(αL l).length=l.length
 | []=>rfl
 | _ :: l=>by rw [αL,List.length_cons,List.length_cons,αL_length l]
theorem αL_get (l:List FV) (i:Nat):(αL l)[i]?=(l[i]?).map αV:=by rw [αL_map,List.getElem?_map]
theorem αL_set (l:List FV) (i:Nat) (a:FV):αL (l.set i a)=(αL l).set i (αV a):=by rw [αL_map,αL_map,List.map_set]
theorem αL_drop (l:List FV) (i:Nat):αL (l.drop i)=(αL l).drop i:=by rw [αL_map,αL_map,List.map_drop]
theorem αL_take (l:List FV) (i:Nat):αL (l.take i)=(αL l).take i:=by rw [αL_map,αL_map,List.map_take]
theorem αL_append (l m:List FV):αL (l ++ m)=αL l ++ αL m:=by rw [αL_map,αL_map,αL_map,List.map_append]
theorem A7 (c:Nat):(A5 c).length=bl c:=by unfold A5;rw [List.length_map,Bz]
theorem unpI_at {c i:Nat} (h:i < bl c):(A5 c)[i]?=some (Int.ofNat (bat c i)):=by
 unfold A5
 rw [List.getElem?_map,unp_at h,Option.map_some]
 have:=bat_lt c i
 simp [UInt8.toNat_ofNat'];omega
/-! Loads. -/
def ldF (x:FV) (σ:FH) (c:FV → FR):FR:=kP (fun b off=>gM σ b fun ob=>FObj.rec (motive:=fun _=>FR) .bad (fun l _ _=>F2 l off c) (fun s _ _=>Bool.rec .bad (fN (bat s off) fun m=>c (.n .u8 m)) (Nat.ble (Nat.succ off) (bl s))) (fun k l _ _=>F2 l off fun i=>vI k i c) (fun _=>.bad) .bad ob) x
theorem G9 {f:Nat → Nat → FR} {v:FV} (h:kP f v ≠ .bad):∃ b o,v=.p b o ∧ kP f v=f b o:=by
 cases v <;> first | exact ⟨_,_,rfl,rfl⟩ | exact absurd rfl h
theorem ldF_sv (x:FV) (σ:FH) (c:FV → FR):Sv (ldF x σ c) c ((C6 std (αV x) (αH σ)).1,(C6 std (αV x) (αH σ)).2.1):=by
 intro h
 obtain ⟨b,off,rfl,h1⟩:=G9 h
 unfold ldF at h ⊢
 rw [h1] at h ⊢
 obtain ⟨o,_,h3,h4⟩:=Cr h
 rw [h4] at h ⊢
 simp only [αV,C6,h3]
 cases o with
 | cells l e t =>
  obtain ⟨a,ha,h5⟩:=Ed (l:=l) (i:=off) (k:=c) h
  refine ⟨a,?_,h5⟩
  have hlt:=(List.getElem?_eq_some_iff.1 ha).1
  simp only [αO,AObj.atOk,AObj.atD,Prod.mk.injEq]
  rw [αL_length]
  exact ⟨by rw [Nat.blt_eq];exact hlt,by rw [List.getD_eq_getElem?_getD,αL_get,ha];rfl⟩
 | bs s e t =>
  have h:(Bool.rec .bad (fN (bat s off) fun m=>c (.n .u8 m)) (Nat.ble (Nat.succ off) (bl s)):FR) ≠ .bad:=h
  show ∃ v,_ ∧ (Bool.rec .bad (fN (bat s off) fun m=>c (.n .u8 m)) (Nat.ble (Nat.succ off) (bl s)):FR)=_
  cases hb:Nat.ble (Nat.succ off) (bl s)
  ·rw [hb] at h;exact absurd rfl h
  ·refine ⟨.n .u8 (bat s off),?_,by show fN _ _=_;rw [Aj]⟩
   have hlt:off < bl s:=Nat.le_of_ble_eq_true hb
   simp only [αO,AObj.atOk,AObj.atD,αV,std,Prod.mk.injEq,AV.int.injEq,true_and]
   rw [A7]
   exact ⟨hb,by rw [List.getD_eq_getElem?_getD,unpI_at hlt];rfl⟩
 | ints k l e t =>
  obtain ⟨a,ha,h5⟩:=Ed (l:=l) (i:=off) (k:=fun i=>vI k i c) h
  obtain ⟨v,h6,h7⟩:=vI_of k a c
  refine ⟨v,?_,h5.trans h7⟩
  have hlt:=(List.getElem?_eq_some_iff.1 ha).1
  simp only [αO,AObj.atOk,AObj.atD,h6,std,Prod.mk.injEq,AV.int.injEq,true_and]
  exact ⟨by rw [Nat.blt_eq];exact hlt,by rw [List.getD_eq_getElem?_getD,ha];rfl⟩
 | _=>exact absurd rfl h
def isIf (v:FV):Bool:=FV.rec (motive_1:=fun _=>Bool) (motive_2:=fun _=>Bool) (fun _ _=>true) (fun _ _=>true) (fun _=>false) (fun _=>false) (fun _ _=>false) (fun _ _ _ _ _ _=>false) (fun _=>false) (fun _=>false) (fun _ _ _ _ _=>false) (fun _ _ _=>false) (fun _ _=>false) (fun _=>false) (fun _ _=>false) (fun _ _=>false) (fun _=>false) true (fun _ _ _ _=>true) v
def Gr (l:List FV):Bool:=List.rec (motive:=fun _=>Bool) true (fun v _ ih=>Bool.rec false ih (isIf v)) l
theorem Fc (k:IntKind):∀ l:List FV,Gr l=false → Ei k (αL l)=none
 | [],h=>by cases h
 | v :: l,h=>by
  have h:(Bool.rec false (Gr l) (isIf v):Bool)=false:=h
  cases v
  case n k' m =>
   have ih:=Fc k l h
   simp only [αL,αV,Ei,ih]
   split <;> rfl
  case z k' m =>
   have ih:=Fc k l h
   simp only [αL,αV,Ei,ih]
   split <;> rfl
  case o j h0=>cases j <;> rfl
  all_goals rfl
def agF (l:List FV) (c:FV → FR):FR:=List.rec (motive:=fun _=>FR) (c (.agg [])) (fun v t _=>FV.rec (motive_1:=fun _=>FR) (motive_2:=fun _=>FR) (fun _ _=>Bool.rec (c (.agg l)) (fV (βV (Ba (αL l))) c) (Gr t)) (fun _ _=>Bool.rec (c (.agg l)) (fV (βV (Ba (αL l))) c) (Gr t)) (fun _=>c (.agg l)) (fun _=>c (.agg l)) (fun _ _=>c (.agg l)) (fun _ _ _ _ _ _=>c (.agg l)) (fun _=>c (.agg l)) (fun _=>c (.agg l)) (fun _ _ _ _ _=>c (.agg l)) (fun _ _ _=>c (.agg l)) (fun _ _=>c (.agg l)) (fun _=>c (.agg l)) (fun _ _=>c (.agg l)) (fun _ _=>c (.agg l)) (fun _=>c (.agg l)) .bad (fun _ _ _ _=>.bad) v) l
theorem agF_of (l:List FV) (c:FV → FR):∃ v,αV v=Ba (αL l) ∧ agF l c=c v:=by
 cases l with
 | nil=>exact ⟨.agg [],rfl,rfl⟩
 | cons v l =>
  have slow:∃ w,αV w=Ba (αL (v :: l)) ∧ fV (βV (Ba (αL (v :: l)))) c=c w:=⟨βV (Ba (αL (v :: l))),αβ _,Fu _ _⟩
  cases v
  case n k m =>
   show ∃ v,_ ∧ (Bool.rec (c (.agg (.n k m :: l))) (fV (βV (Ba (αL (.n k m :: l)))) c) (Gr l):FR)=c v
   cases hb:Gr l with
   | true=>exact slow
   | false =>
    refine ⟨.agg (.n k m :: l),?_,rfl⟩
    simp only [αL,αV,Ba,Fc k l hb]
  case z k m =>
   show ∃ v,_ ∧ (Bool.rec (c (.agg (.z k m :: l))) (fV (βV (Ba (αL (.z k m :: l)))) c) (Gr l):FR)=c v
   cases hb:Gr l with
   | true=>exact slow
   | false =>
    refine ⟨.agg (.z k m :: l),?_,rfl⟩
    simp only [αL,αV,Ba,Fc k l hb]
  case o j=>cases j <;> exact ⟨.agg _,rfl,rfl⟩
  all_goals exact ⟨.agg _,rfl,rfl⟩
def lnF (n:Nat) (x:FV) (σ:FH) (c:FV → FR):FR:=kP (fun b off=>gM σ b fun ob=>FObj.rec (motive:=fun _=>FR) .bad
 (fun l _ _=>Bo off l fun l=>Be n l fun l=>A9 l 0 fun m=>Bool.rec .bad (agF l c) (Nat.beq m n && Nat.ble 1 n))
 (fun s _ _=>Bool.rec .bad (fN (At s off n) fun m=>c (.bs m)) (Nat.ble (Nat.add off n) (bl s)))
 (fun k l e t=>slV ((αO (.ints k l e t)).readOk std off n,(αO (.ints k l e t)).read std off n) c) (fun _=>.bad) .bad ob) x
theorem lnF_sv (n:Nat) (x:FV) (σ:FH) (c:FV → FR):Sv (lnF n x σ c) c ((C5 std n (αV x) (αH σ)).1,(C5 std n (αV x) (αH σ)).2.1):=by
 intro h
 obtain ⟨b,off,rfl,h1⟩:=G9 h
 unfold lnF at h ⊢
 rw [h1] at h ⊢
 obtain ⟨o,_,h3,h4⟩:=Cr h
 rw [h4] at h ⊢
 simp only [αV,C5,h3]
 cases o with
 | cells l e t =>
  have h:(Bo off l fun l=>Be n l fun l=>A9 l 0 fun m=>(Bool.rec .bad (agF l c) (Nat.beq m n && Nat.ble 1 n):FR)) ≠ .bad:=h
  show ∃ v,_ ∧ (Bo off l fun l=>Be n l fun l=>A9 l 0 fun m=>(Bool.rec .bad (agF l c) (Nat.beq m n && Nat.ble 1 n):FR))=_
  rw [B9,Bq,A0] at h ⊢
  cases hb:(Nat.beq (0 + ((l.drop off).take n).length) n && Nat.ble 1 n)
  ·rw [hb] at h;exact absurd rfl h
  ·rw [Bool.and_eq_true] at hb
   have hn:=Nat.le_of_ble_eq_true hb.2
   have hb:=Nat.eq_of_beq_eq_true hb.1
   obtain ⟨v,h5,h6⟩:=agF_of ((l.drop off).take n) c
   refine ⟨v,?_,h6⟩
   simp only [αO,AObj.readOk,AObj.read,Prod.mk.injEq]
   rw [h5,αL_take,αL_drop,αL_length]
   refine ⟨?_,rfl⟩
   rw [Nat.ble_eq]
   simp only [List.length_take,List.length_drop] at hb
   omega
 | bs s e t =>
  have h:(Bool.rec .bad (fN (At s off n) fun m=>c (.bs m)) (Nat.ble (Nat.add off n) (bl s)):FR) ≠ .bad:=h
  show ∃ v,_ ∧ (Bool.rec .bad (fN (At s off n) fun m=>c (.bs m)) (Nat.ble (Nat.add off n) (bl s)):FR)=_
  cases hb:Nat.ble (Nat.add off n) (bl s)
  ·rw [hb] at h;exact absurd rfl h
  ·refine ⟨.bs (At s off n),?_,by show fN _ _=_;rw [Aj]⟩
   have hle:off + n ≤ bl s:=Nat.le_of_ble_eq_true hb
   simp only [αO,AObj.readOk,AObj.read,αV,std,Prod.mk.injEq,AV.ints.injEq,true_and]
   rw [A7]
   refine ⟨hb,?_⟩
   unfold A5
   rw [(Ja hle).1,List.map_take,List.map_drop]
 | ints k l e t=>exact Dj _ _ h
 | _=>exact absurd rfl h
end
end Go.Proofs.YtfdfdagbeeeomaaDoor.V2
namespace Go.Proofs.YtfdfdagbeeeomaaDoor.V2
open Go
noncomputable section
def kSN (f:Nat → Nat → Nat → Nat → Bool → Nat → FR) (g:FR) (v:FV):FR:=FV.rec (motive_1:=fun _=>FR) (motive_2:=fun _=>FR) (fun _ _=>.bad) (fun _ _=>.bad) (fun _=>.bad) (fun _=>.bad) (fun _ _=>.bad) (fun b o n k e z=>f b o n k e z) (fun _=>.bad) (fun _=>.bad) (fun _ _ _ _ _=>.bad) (fun _ _ _=>.bad) (fun _ _=>.bad) (fun _=>.bad) (fun _ _=>.bad) (fun _ _=>.bad) (fun j=>Nl.rec (motive:=fun _=>FR) .bad .bad g .bad .bad .bad j) .bad (fun _ _ _ _=>.bad) v
theorem kSN_cases {f:Nat → Nat → Nat → Nat → Bool → Nat → FR} {g:FR} {v:FV} (h:kSN f g v ≠ .bad):(∃ b o n k e z,v=.sl b o n k e z ∧ kSN f g v=f b o n k e z) ∨ (v=.o .sl ∧ kSN f g v=g):=by
 cases v with
 | sl b o n k e z=>exact .inl ⟨_,_,_,_,_,_,rfl,rfl⟩
 | o j=>cases j <;> first | exact .inr ⟨rfl,rfl⟩ | exact absurd rfl h
 | _=>exact absurd rfl h
theorem Dx {f:IntKind → Nat → FR} {v:FV} (h:kNn f v ≠ .bad):∃ k n,v=.n k n ∧ kNn f v=f k n:=by
 cases v <;> first | exact ⟨_,_,rfl,rfl⟩ | exact absurd rfl h
theorem Ii {f:Bool → FR} {v:FV} (h:kB f v ≠ .bad):∃ t,v=.b t ∧ kB f v=f t:=by
 cases v <;> first | exact ⟨_,rfl,rfl⟩ | exact absurd rfl h
theorem G8 {f:Nat → FR} {v:FV} (h:kS f v ≠ .bad):∃ c,v=.s c ∧ kS f v=f c:=by
 cases v <;> first | exact ⟨_,rfl,rfl⟩ | exact absurd rfl h
theorem kM_cases {f:Nat → FR} {v:FV} (h:kM f v ≠ .bad):∃ c,v=.m c ∧ kM f v=f c:=by
 cases v <;> first | exact ⟨_,rfl,rfl⟩ | exact absurd rfl h
theorem kTup_cases {f:List FV → FR} {v:FV} (h:kTup f v ≠ .bad):∃ c,v=.tup c ∧ kTup f v=f c:=by
 cases v <;> first | exact ⟨_,rfl,rfl⟩ | exact absurd rfl h
theorem kI_cases {f g:IntKind → Nat → FR} {v:FV} (h:kI f g v ≠ .bad):(∃ k n,v=.n k n ∧ kI f g v=f k n) ∨ (∃ k n,v=.z k n ∧ kI f g v=g k n):=by
 cases v <;> first | exact .inl ⟨_,_,rfl,rfl⟩ | exact .inr ⟨_,_,rfl,rfl⟩ | exact absurd rfl h
def gT (b:Bool) (r:FR):FR:=Bool.rec .bad r b
theorem Af {b:Bool} {r:FR} (h:gT b r ≠ .bad):b=true ∧ gT b r=r:=by
 cases b
 ·exact absurd rfl h
 ·exact ⟨rfl,rfl⟩
theorem Dt {a b:Nat} (h:Nat.ble a b=true):a ≤ b:=Nat.le_of_ble_eq_true h
theorem dec0 (n:Nat):decide ((0:Int) ≤ Int.ofNat n)=true:=decide_eq_true (Int.natCast_nonneg n)
/-! Simple ones. -/
def pkF (x a b:FV) (c:FV → FR):FR:=kB (fun t=>Bool.rec (c b) (c a) t) x
theorem pkF_sm (x a b:FV) (σ:FH) (k:KV):Sm (pkF x a b fun v=>k v σ) k (match αV x with | .bool t=>(true,bif t then αV a else αV b,αH σ) | _=>bad (αH σ)):=by
 intro h
 obtain ⟨t,rfl,h1⟩:=Ii h
 unfold pkF at h ⊢
 rw [h1]
 cases t
 ·exact ⟨b,σ,rfl,rfl⟩
 ·exact ⟨a,σ,rfl,rfl⟩
def cvF (k:IntKind) (x:FV) (c:FV → FR):FR:=kI (fun _ m=>wN k m c) (fun _ m=>wZ k m c) x
theorem cvF_sm (k:IntKind) (x:FV) (σ:FH) (c:KV):Sm (cvF k x fun v=>c v σ) c (match αV x with | .int _ n=>(true,.int k (wr k n),αH σ) | _=>bad (αH σ)):=by
 intro h
 unfold cvF at h ⊢
 rcases kI_cases h with ⟨_,m,rfl,h1⟩ | ⟨_,m,rfl,h1⟩
 ·rw [h1] at h ⊢;exact Sm.ofv (wN_of k m fun v=>c v σ) h
 ·rw [h1] at h ⊢;exact Sm.ofv (wZ_of k m fun v=>c v σ) h
def F3 (x:FV) (c:FV → FR):FR:=kB (fun t=>Bool.rec (c (.b true)) (c (.b false)) t) x
theorem notF_sm (x:FV) (σ:FH) (c:KV):Sm (F3 x fun v=>c v σ) c ((unI std .not (αV x)).1,(unI std .not (αV x)).2,αH σ):=by
 intro h
 unfold F3 at h ⊢
 obtain ⟨t,rfl,h1⟩:=Ii h
 rw [h1]
 cases t
 ·exact ⟨.b true,σ,rfl,rfl⟩
 ·exact ⟨.b false,σ,rfl,rfl⟩
def faF (off:Nat) (x:FV) (c:FV → FR):FR:=kP (fun b o=>fN (Nat.add o off) fun o=>c (.p b o)) x
theorem faF_sm (off:Nat) (x:FV) (σ:FH) (c:KV):Sm (faF off x fun v=>c v σ) c (match αV x with | .ptr b o=>(true,.ptr b (o + off),αH σ) | _=>bad (αH σ)):=by
 intro h
 unfold faF at h ⊢
 obtain ⟨b,o,rfl,h1⟩:=G9 h
 rw [h1,Aj]
 exact ⟨.p b (o + off),σ,rfl,rfl⟩
def iaF (len size:Nat) (x i:FV) (c:FV → FR):FR:=kP (fun b o=>kNn (fun _ n=>gT (Nat.ble (Nat.succ n) len) (fN (Nat.add o (Nat.mul n size)) fun o=>c (.p b o))) i) x
theorem iaF_sm (len size:Nat) (x i:FV) (σ:FH) (c:KV):Sm (iaF len size x i fun v=>c v σ) c (I2 std len size (αV x) (αV i) (αH σ)):=by
 intro h
 unfold iaF at h ⊢
 obtain ⟨b,o,rfl,h1⟩:=G9 h
 rw [h1] at h ⊢
 obtain ⟨k,n,rfl,h2⟩:=Dx h
 rw [h2] at h ⊢
 obtain ⟨h3,h4⟩:=Af h
 rw [h4,Aj]
 refine ⟨.p b (o + n * size),σ,?_,rfl⟩
 have:(decide ((0:Int) ≤ Int.ofNat n) && Nat.blt n len)=true:=by rw [dec0 n,Bool.true_and];exact h3
 exact congrArg (fun z=>(z,AV.ptr b (o + n * size),αH σ)) this
def isF (size:Nat) (x i:FV) (c:FV → FR):FR:=kSl (fun b o len _ _ _=>kNn (fun _ n=>gT (Nat.ble (Nat.succ n) len) (fN (Nat.add o (Nat.mul n size)) fun o=>c (.p b o))) i) x
theorem kSl_cases {f:Nat → Nat → Nat → Nat → Bool → Nat → FR} {v:FV} (h:kSl f v ≠ .bad):∃ b o n k e z,v=.sl b o n k e z ∧ kSl f v=f b o n k e z:=by
 cases v <;> first | exact ⟨_,_,_,_,_,_,rfl,rfl⟩ | exact absurd rfl h
theorem isF_sm (size:Nat) (x i:FV) (σ:FH) (c:KV):Sm (isF size x i fun v=>c v σ) c (Ma std size (αV x) (αV i) (αH σ)):=by
 intro h
 unfold isF at h ⊢
 obtain ⟨b,o,len,k',e,z,rfl,h1⟩:=kSl_cases h
 rw [h1] at h ⊢
 obtain ⟨k,n,rfl,h2⟩:=Dx h
 rw [h2] at h ⊢
 obtain ⟨h3,h4⟩:=Af h
 rw [h4,Aj]
 refine ⟨.p b (o + n * size),σ,?_,rfl⟩
 have:(decide ((0:Int) ≤ Int.ofNat n) && Nat.blt n len)=true:=by rw [dec0 n,Bool.true_and];exact h3
 exact congrArg (fun z=>(z,AV.ptr b (o + n * size),αH σ)) this
def bF (x:Option FV) (d top:Nat) (c:Nat → FR):FR:=Option.rec (c d) (fun v=>kNn (fun _ n=>gT (Nat.ble n top) (c n)) v) x
theorem Da {x:Option FV} {d top:Nat} {c:Nat → FR} (h:bF x d top c ≠ .bad):∃ n,bnd std (x.map αV) d top=(true,n) ∧ bF x d top c=c n ∧ (n ≤ top ∨ (x=none ∧ n=d)):=by
 cases x with
 | none=>exact ⟨d,rfl,rfl,.inr ⟨rfl,rfl⟩⟩
 | some v =>
  have h:kNn (fun _ n=>gT (Nat.ble n top) (c n)) v ≠ .bad:=h
  show ∃ n,_ ∧ kNn (fun _ n=>gT (Nat.ble n top) (c n)) v=c n ∧ _
  obtain ⟨k,n,rfl,h2⟩:=Dx h
  rw [h2] at h ⊢
  obtain ⟨h3,h4⟩:=Af h
  refine ⟨n,?_,h4,.inl (Dt h3)⟩
  have:(decide ((0:Int) ≤ Int.ofNat n) && Nat.ble n top)=true:=by rw [dec0 n,Bool.true_and];exact h3
  exact congrArg (fun z=>(z,n)) this
def ssF (x:FV) (lo hi:Option FV) (c:FV → FR):FR:=kS (fun s=>fN (bl s) fun L=>bF hi L L fun h=>bF lo 0 h fun l=>fN (At s l (Nat.sub h l)) fun m=>c (.s m)) x
theorem ssF_sm (x:FV) (lo hi:Option FV) (σ:FH) (c:KV):Sm (ssF x lo hi fun v=>c v σ) c (L8 std (αV x) (lo.map αV) (hi.map αV) (αH σ)):=by
 intro h
 unfold ssF at h ⊢
 obtain ⟨s,rfl,h1⟩:=G8 h
 rw [h1,Aj] at h ⊢
 obtain ⟨hh,b1,b2,b3⟩:=Da h
 rw [b2] at h ⊢
 obtain ⟨l,d1,d2,d3⟩:=Da h
 rw [d2,Aj]
 refine ⟨.s (At s l (Nat.sub hh l)),σ,?_,rfl⟩
 have hle:hh ≤ bl s:=by rcases b3 with h | ⟨_,rfl⟩ <;> omega
 have hl:l ≤ hh:=by rcases d3 with h | ⟨_,rfl⟩ <;> omega
 have e:unp (At s l (Nat.sub hh l))=((unp s).drop l).take (hh - l):=(Ja (show l + (hh - l) ≤ bl s by omega)).1
 simp only [αV,L8]
 rw [show std.slen (unp s)=bl s from Bz s,b1]
 dsimp only
 rw [d1,e];rfl
def svF (size:Nat) (x:FV) (lo hi mx:Option FV) (c:FV → FR):FR:=gT (hi.isSome || mx.isNone) (kSN (fun b o n k e z=>gT (Nat.beq z size) (bF mx k k fun m=>bF hi n m fun h=>bF lo 0 h fun l=>fN (Nat.add o (Nat.mul l size)) fun o=>fN (Nat.sub h l) fun n=>fN (Nat.sub m l) fun k=>c (.sl b o n k e z)))
 (bF mx 0 0 fun _=>bF hi 0 0 fun _=>bF lo 0 0 fun _=>c (.o .sl)) x)
theorem J9 {α β:Type} (f:α → β) (x:Option α):(x.map f).isSome=x.isSome:=by cases x <;> rfl
theorem Ka {α β:Type} (f:α → β) (x:Option α):(x.map f).isNone=x.isNone:=by cases x <;> rfl
theorem svF_sm (size:Nat) (x:FV) (lo hi mx:Option FV) (σ:FH) (c:KV):Sm (svF size x lo hi mx fun v=>c v σ) c (oSlSl std size (αV x) (lo.map αV) (hi.map αV) (mx.map αV) (αH σ)):=by
 intro h
 unfold svF at h ⊢
 obtain ⟨g1,g2⟩:=Af h
 rw [g2] at h ⊢
 rcases kSN_cases h with ⟨b,o,n,k,e,z,rfl,h1⟩ | ⟨rfl,h1⟩
 ·rw [h1] at h ⊢
  obtain ⟨g3,g4⟩:=Af h
  rw [g4] at h ⊢
  obtain ⟨m,a1,a2,_⟩:=Da h
  rw [a2] at h ⊢
  obtain ⟨hh,b1,b2,_⟩:=Da h
  rw [b2] at h ⊢
  obtain ⟨l,d1,d2,_⟩:=Da h
  rw [d2,Aj,Aj,Aj]
  refine ⟨.sl b (o + l * size) (hh - l) (m - l) e z,σ,?_,rfl⟩
  simp only [αV,oSlSl,a1,b1,d1,J9,Ka,g1,g3,Bool.and_true]
  rfl
 ·rw [h1] at h ⊢
  obtain ⟨m,a1,a2,_⟩:=Da h
  rw [a2] at h ⊢
  obtain ⟨hh,b1,b2,_⟩:=Da h
  rw [b2] at h ⊢
  obtain ⟨l,d1,d2,_⟩:=Da h
  rw [d2]
  refine ⟨.o .sl,σ,?_,rfl⟩
  simp only [αV,Nl.av,oSlSl,a1,b1,d1,J9,Ka,g1,Bool.and_true]
def roF (ob:FObj) (off n:Nat) (r:FR):FR:=FObj.rec (motive:=fun _=>FR) .bad (fun l _ _=>A9 l 0 fun m=>gT (Nat.ble (Nat.add off n) m) r) (fun s _ _=>gT (Nat.ble (Nat.add off n) (bl s)) r) (fun _ l _ _=>A9 l 0 fun m=>gT (Nat.ble (Nat.add off n) m) r) (fun _=>.bad) .bad ob
theorem roF_cases {ob:FObj} {off n:Nat} {r:FR} (h:roF ob off n r ≠ .bad):(αO ob).readOk std off n=true ∧ roF ob off n r=r:=by
 cases ob with
 | cells l e t =>
  have h:(A9 l 0 fun m=>gT (Nat.ble (Nat.add off n) m) r) ≠ .bad:=h
  show _ ∧ (A9 l 0 fun m=>gT (Nat.ble (Nat.add off n) m) r)=r
  rw [A0,Nat.zero_add] at h ⊢
  obtain ⟨h1,h2⟩:=Af h
  exact ⟨by show Nat.ble (off + n) (αL l).length=true;rw [αL_length];exact h1,h2⟩
 | bs s e t =>
  have h:gT (Nat.ble (Nat.add off n) (bl s)) r ≠ .bad:=h
  obtain ⟨h1,h2⟩:=Af h
  exact ⟨by show Nat.ble (off + n) (A5 s).length=true;rw [A7];exact h1,h2⟩
 | ints k l e t =>
  have h:(A9 l 0 fun m=>gT (Nat.ble (Nat.add off n) m) r) ≠ .bad:=h
  show _ ∧ (A9 l 0 fun m=>gT (Nat.ble (Nat.add off n) m) r)=r
  rw [A0,Nat.zero_add] at h ⊢
  obtain ⟨h1,h2⟩:=Af h
  exact ⟨h1,h2⟩
 | _=>exact absurd rfl h
def saF (len size:Nat) (x:FV) (lo hi mx:Option FV) (σ:FH) (c:FV → FR):FR:=gT (hi.isSome || mx.isNone) (kP (fun b o=>gM σ b fun ob=>roF ob o (Nat.mul len size) (bF mx len len fun m=>bF hi len m fun h=>bF lo 0 h fun l=>fN (Nat.add o (Nat.mul l size)) fun o=>fN (Nat.sub h l) fun n=>fN (Nat.sub m l) fun k=>c (.sl b o n k true size))) x)
theorem saF_sm (len size:Nat) (x:FV) (lo hi mx:Option FV) (σ:FH) (c:KV):Sm (saF len size x lo hi mx σ fun v=>c v σ) c (L9 std len size (αV x) (lo.map αV) (hi.map αV) (mx.map αV) (αH σ)):=by
 intro h
 unfold saF at h ⊢
 obtain ⟨g1,g2⟩:=Af h
 rw [g2] at h ⊢
 obtain ⟨b,o,rfl,h1⟩:=G9 h
 rw [h1] at h ⊢
 obtain ⟨ob,_,h3,h4⟩:=Cr h
 rw [h4] at h ⊢
 obtain ⟨h5,h6⟩:=roF_cases h
 rw [h6] at h ⊢
 obtain ⟨m,a1,a2,_⟩:=Da h
 rw [a2] at h ⊢
 obtain ⟨hh,b1,b2,_⟩:=Da h
 rw [b2] at h ⊢
 obtain ⟨l,d1,d2,_⟩:=Da h
 rw [d2,Aj,Aj,Aj]
 refine ⟨.sl b (o + l * size) (hh - l) (m - l) true size,σ,?_,rfl⟩
 have h5:(αO ob).readOk std o (len * size)=true:=h5
 simp only [αV,L9,h3,a1,b1,d1,J9,Ka,g1,h5,Bool.and_true]
 rfl
def exF (x:FV) (n:Nat) (c:FV → FR):FR:=kTup (fun l=>F2 l n c) x
theorem exF_sm (x:FV) (n:Nat) (σ:FH) (c:KV):Sm (exF x n fun v=>c v σ) c (match αV x with | .tup l=>(Nat.blt n l.length,l.getD n .top,αH σ) | _=>bad (αH σ)):=by
 intro h
 unfold exF at h ⊢
 obtain ⟨l,rfl,h1⟩:=kTup_cases h
 rw [h1] at h ⊢
 obtain ⟨a,ha,h2⟩:=Ed h
 refine ⟨a,σ,?_,h2⟩
 have hlt:=(List.getElem?_eq_some_iff.1 ha).1
 simp only [αV,Prod.mk.injEq,and_true]
 rw [αL_length]
 exact ⟨by rw [Nat.blt_eq];exact hlt,by rw [List.getD_eq_getElem?_getD,αL_get,ha];rfl⟩
def ncF (x:FV) (c:FV → FR):FR:=FV.rec (motive_1:=fun _=>FR) (motive_2:=fun _=>FR) (fun _ _=>.bad) (fun _ _=>.bad) (fun _=>.bad) (fun _=>.bad) (fun b o=>c (.p b o)) (fun _ _ _ _ _ _=>.bad) (fun _=>.bad) (fun _=>.bad) (fun f a b _ _=>Fn.rec (motive:=fun _=>FR) (fun g=>c (.fn (.func g) a b)) (fun _=>.bad) (fun _ _=>.bad) (fun _ _ _ _=>.bad) (fun _=>.bad) f) (fun _ _ _=>.bad) (fun _ _=>.bad) (fun _=>.bad) (fun _ _=>.bad) (fun _ _=>.bad) (fun _=>.bad) .bad (fun _ _ _ _=>.bad) x
theorem ncF_sm (x:FV) (σ:FH) (c:KV):Sm (ncF x fun v=>c v σ) c (match αV x with | .ptr b o=>(true,.ptr b o,αH σ) | .fn (.func f) first cap=>(true,.fn (.func f) first cap,αH σ) | _=>bad (αH σ)):=by
 intro h
 cases x with
 | p b o=>exact ⟨.p b o,σ,rfl,rfl⟩
 | fn f a b=>cases f <;> first | exact ⟨.fn (.func _) a b,σ,rfl,rfl⟩ | exact absurd rfl h
 | _=>exact absurd rfl h
def lsF (x:FV) (c:FV → FR):FR:=kS (fun s=>fN (bl s) fun m=>c (.n .i64 m)) x
theorem lsF_sm (x:FV) (σ:FH) (c:KV):Sm (lsF x fun v=>c v σ) c (match αV x with | .str l=>(true,.int .i64 (std.slen l),αH σ) | _=>bad (αH σ)):=by
 intro h
 unfold lsF at h ⊢
 obtain ⟨s,rfl,h1⟩:=G8 h
 rw [h1,Aj]
 refine ⟨.n .i64 (bl s),σ,?_,rfl⟩
 simp only [αV]
 rw [show std.slen (unp s)=bl s from Bz s];rfl
def lvF (x:FV) (c:FV → FR):FR:=kSN (fun _ _ n _ _ _=>c (.n .i64 n)) (c (.n .i64 0)) x
theorem lvF_sm (x:FV) (σ:FH) (c:KV):Sm (lvF x fun v=>c v σ) c (match αV x with | .sl _ _ n _ _ _=>(true,.int .i64 n,αH σ) | .nilsl=>(true,.int .i64 0,αH σ) | _=>bad (αH σ)):=by
 intro h
 unfold lvF at h ⊢
 rcases kSN_cases h with ⟨b,o,n,k,e,z,rfl,h1⟩ | ⟨rfl,h1⟩
 ·exact ⟨.n .i64 n,σ,rfl,h1⟩
 ·exact ⟨.n .i64 0,σ,rfl,h1⟩
/-! New blocks. -/
def alF (o:FObj) (σ:FH) (k:KV):FR:=nM σ o fun b σ=>k (.p b 0) σ
theorem alF_sm (o:FObj) (σ:FH) (k:KV):Sm (alF o σ k) k (Nat.blt (αH σ).next 1000000,.ptr (αH σ).next 0,(αH σ).new (αO o)):=by
 intro h
 obtain ⟨h1,σ',h2,h3⟩:=Et h
 exact ⟨.p σ.next 0,σ',by rw [h1,h2];rfl,h3⟩
theorem allInt_map (k:IntKind):∀ l:List Int,Ei k (l.map (AV.int k))=some l
 | []=>rfl
 | n :: l=>by rw [List.map_cons,Ei,if_pos rfl,allInt_map k l];rfl
theorem of_ints (k:IntKind) (l:List Int) (e:TypeId) (t:Tl) (h:0 < l.length):AObj.of (l.map (AV.int k)) e t=.ints k l e t:=by
 cases l with
 | nil=>cases h
 | cons n l=>rw [List.map_cons,AObj.of,allInt_map]
def bxO (e:TypeId) (x:FV) (c:FObj → FR):FR:=FV.rec (motive_1:=fun _=>FR) (motive_2:=fun _=>FR) (fun k m=>c (.ints k [Int.ofNat m] e .exact)) (fun k m=>c (.ints k [Int.negSucc m] e .exact)) (fun t=>c (.cells [.b t] e .exact)) (fun s=>c (.cells [.s s] e .exact)) (fun b o=>c (.cells [.p b o] e .exact)) (fun b o n k u z=>c (.cells [.sl b o n k u z] e .exact)) (fun b=>c (.cells [.m b] e .exact)) (fun b=>c (.cells [.y b] e .exact)) (fun f a b _ _=>c (.cells [.fn f a b] e .exact)) (fun t v _=>c (.cells [.ifc t v] e .exact)) (fun l _=>fO (βO (AObj.of (αL l) e .exact)) c) (fun s=>gT (Nat.ble 1 (bl s)) (c (.bs s e .exact))) (fun k l=>fO (βO (Mp (.ints k l) e)) c) (fun l _=>.bad) (fun j=>Nl.rec (motive:=fun _=>FR) (c (.cells [] e .exact)) (c (.cells [.o .ptr] e .exact)) (c (.cells [.o .sl] e .exact)) (c (.cells [.o .map] e .exact)) (c (.cells [.o .fn] e .exact)) (c (.cells [.o .ifc] e .exact)) j) .bad (fun _ _ _ _=>.bad) x
theorem bxO_cases {e:TypeId} {x:FV} {c:FObj → FR} (h:bxO e x c ≠ .bad):∃ o,αO o=Mp (αV x) e ∧ bxO e x c=c o:=by
 cases x with
 | n k m=>exact ⟨.ints k [Int.ofNat m] e .exact,rfl,rfl⟩
 | z k m=>exact ⟨.ints k [Int.negSucc m] e .exact,rfl,rfl⟩
 | agg l=>exact ⟨βO (AObj.of (αL l) e .exact),by rw [αβO];rfl,D6 _ _⟩
 | bs s =>
  have h:gT (Nat.ble 1 (bl s)) (c (.bs s e .exact)) ≠ .bad:=h
  obtain ⟨h1,h2⟩:=Af h
  refine ⟨.bs s e .exact,?_,h2⟩
  show _=AObj.of ((A5 s).map (AV.int .u8)) e .exact
  rw [of_ints _ _ _ _ (by rw [A7];exact Dt h1)];rfl
 | ints k l=>exact ⟨βO (Mp (.ints k l) e),αβO _,D6 _ _⟩
 | tup l=>exact absurd rfl h
 | o j=>cases j <;> exact ⟨_,rfl,rfl⟩
 | _=>exact ⟨.cells [_] e .exact,rfl,rfl⟩
def bxF (e:TypeId) (x:FV) (σ:FH) (k:KV):FR:=bxO e x fun o=>nM σ o fun b σ=>k (.p b 0) σ
theorem bxF_sm (e:TypeId) (x:FV) (σ:FH) (k:KV):Sm (bxF e x σ k) k (Nat.blt (αH σ).next 1000000,.ptr (αH σ).next 0,(αH σ).new (Mp (αV x) e)):=by
 intro h
 unfold bxF at h ⊢
 obtain ⟨o,ho,h1⟩:=bxO_cases h
 rw [h1] at h ⊢
 rw [← ho]
 exact alF_sm o σ k h
/-! Stores. -/
def slW (ob:FObj) (n off:Nat) (x:FV) (c:FObj → FR):FR:=gT ((αO ob).writeOk std off (αV x) && Nat.beq ((αV x).size std) n) (fO (βO ((αO ob).write std off (αV x))) c)
def WrOk (ob:FObj) (n off:Nat) (x:FV) (r:FR) (c:FObj → FR):Prop:=r ≠ .bad → ∃ o,((αO ob).writeOk std off (αV x) && Nat.beq ((αV x).size std) n)=true ∧ αO o=(αO ob).write std off (αV x) ∧ r=c o
theorem slW_ok (ob:FObj) (n off:Nat) (x:FV) (c:FObj → FR):WrOk ob n off x (slW ob n off x c) c:=fun h=>by
 unfold slW at h ⊢
 obtain ⟨h1,h2⟩:=Af h
 exact ⟨βO ((αO ob).write std off (αV x)),h1,αβO _,h2.trans (D6 _ _)⟩
def wcF (l:List FV) (e:TypeId) (t:Tl) (n off:Nat) (x:FV) (c:FObj → FR):FR:=kC (gT (Nat.beq 1 n) (gW t (J1 l off x fun l=>c (.cells l e t))))
 (fun m=>gW t (Cx m (A9 m 0 fun q=>gT (Nat.beq q n) (Be off l fun l1=>Bo (Nat.add off q) l fun l2=>A9 l1 q fun s1=>A9 l2 s1 fun s2=>A9 l 0 fun s0=>gT (Nat.beq s2 s0 && Nat.ble (Nat.add off q) s0) (Dk m l2 fun l2=>Dk l1 l2 fun l=>c (.cells l e t))))))
 (slW (.cells l e t) n off x c) x
theorem wcF_ok (l:List FV) (e:TypeId) (t:Tl) (n off:Nat) (x:FV) (c:FObj → FR):WrOk (.cells l e t) n off x (wcF l e t n off x c) c:=fun h=>by
 have h0:=h
 unfold wcF at h ⊢
 rcases kC_cases (gT (Nat.beq 1 n) (gW t (J1 l off x fun l=>c (.cells l e t)))) (fun m=>gW t (Cx m (A9 m 0 fun q=>gT (Nat.beq q n) (Be off l fun l1=>Bo (Nat.add off q) l fun l2=>A9 l1 q fun s1=>A9 l2 s1 fun s2=>A9 l 0 fun s0=>gT (Nat.beq s2 s0 && Nat.ble (Nat.add off q) s0) (Dk m l2 fun l2=>Dk l1 l2 fun l=>c (.cells l e t))))))
  (slW (.cells l e t) n off x c) x with ⟨h1,h2⟩ | ⟨m,rfl,h2⟩ | h2
 ·rw [h2] at h ⊢
  obtain ⟨g1,g2⟩:=Af h
  rw [g2] at h ⊢
  obtain ⟨g3,g4⟩:=Ha h
  rw [g4] at h ⊢
  rw [Ix] at h ⊢
  by_cases hl:off < l.length
  ·rw [if_pos hl]
   obtain ⟨s1,s2,s3,s4⟩:=Kt h1
   refine ⟨.cells (l.set off x) e t,?_,?_,rfl⟩
   ·simp only [αO,AObj.writeOk,g3,s1,s3,s4,List.all_cons,s2,List.all_nil,List.length_cons,List.length_nil,Bool.true_and,Bool.and_true,αL_length]
    rw [Bool.and_eq_true]
    exact ⟨by rw [Nat.ble_eq];omega,g1⟩
   ·simp only [αO,αL_set]
    cases x <;> first | rfl | (cases h1;done) | skip
    rename_i j
    cases j <;> first | rfl | (cases h1;done)
  ·rw [if_neg hl] at h;exact absurd rfl h
 ·rw [h2] at h ⊢
  obtain ⟨g3,g4⟩:=Ha h
  rw [g4] at h ⊢
  obtain ⟨o1,o2⟩:=J6 h
  rw [o2] at h ⊢
  rw [A0,Nat.zero_add] at h ⊢
  obtain ⟨g5,g6⟩:=Af h
  rw [g6] at h ⊢
  rw [Bq,B9,A0,A0,A0] at h ⊢
  obtain ⟨g7,g8⟩:=Af h
  rw [g8,Co,Co]
  rw [Bool.and_eq_true] at g7
  have hle:=Dt g7.2
  rw [Nat.zero_add] at hle
  refine ⟨.cells (l.take off ++ (m ++ l.drop (Nat.add off m.length))) e t,?_,?_,rfl⟩
  ·show ((!t.isRo) && (true && (αL m).all AV.one && Nat.ble (off + (αL m).length) (αL l).length) && Nat.beq (αL m).length n)=true
   rw [g3,o1,αL_length,αL_length,g5]
   simp only [Bool.true_and,Bool.and_true]
   rw [Nat.ble_eq];exact hle
  ·simp only [αO,αV,AObj.write,αL_append,αL_take,αL_drop,αL_length,List.append_assoc]
   rfl
 ·rw [h2] at h ⊢;exact slW_ok _ _ _ _ _ h
theorem unpN_set:∀ (n c i x:Nat),x < 256 → i < n → ∃ c',c'=c + x * 256 ^ i - (c / 256 ^ i % 256) * 256 ^ i ∧ D0 n c'=(D0 n c).set i (UInt8.ofNat x)
 | 0,_,_,_,_,h=>by omega
 | n + 1,c,0,x,hx,_=>by
  refine ⟨_,rfl,?_⟩
  simp only [Nat.pow_zero,Nat.mul_one,Nat.div_one,D0,List.set_cons_zero]
  have h1:(c + x - c % 256) % 256=x:=by omega
  have h2:(c + x - c % 256) / 256=c / 256:=by omega
  rw [h1,h2]
 | n + 1,c,i + 1,x,hx,h=>by
  refine ⟨_,rfl,?_⟩
  obtain ⟨c',e1,e2⟩:=unpN_set n (c / 256) i x hx (by omega)
  simp only [D0,List.set_cons_succ]
  rw [Nat.div_div_eq_div_mul,Nat.mul_comm 256,← Nat.pow_succ] at e1
  have hd:=Nat.div_add_mod c 256
  have key:c + x * 256 ^ (i + 1) - c / 256 ^ (i + 1) % 256 * 256 ^ (i + 1)=256 * c' + c % 256:=by
   have hle:(c / 256 ^ (i + 1) % 256) * 256 ^ i ≤ c / 256:=by
    have h1:c / 256 ^ (i + 1)=c / 256 / 256 ^ i:=by rw [Nat.div_div_eq_div_mul,Nat.mul_comm 256,← Nat.pow_succ]
    rw [h1]
    exact Nat.le_trans (Nat.mul_le_mul_right _ (Nat.mod_le _ _)) (Nat.div_mul_le_self _ _)
   rw [e1,Nat.pow_succ,← Nat.mul_assoc,← Nat.mul_assoc]
   rw [Nat.pow_succ] at hle
   omega
  rw [key]
  rw [show (256 * c' + c % 256) % 256=c % 256 by omega,show (256 * c' + c % 256) / 256=c' by omega,e2]
theorem bset_eq (c i x:Nat):bset c i x=c + x * 256 ^ i - (c / 256 ^ i % 256) * 256 ^ i:=by
 unfold bset
 rw [bat_eq,sh3]
 show c + x <<< (8 * i) - (c / 256 ^ i % 256) <<< (8 * i)=_
 rw [Nat.shiftLeft_eq,Nat.shiftLeft_eq,p256]
end
end Go.Proofs.YtfdfdagbeeeomaaDoor.V2
namespace Go.Proofs.YtfdfdagbeeeomaaDoor.V2
open Go
noncomputable section
theorem Hb {k k':IntKind} {r:FR} (h:gK k k' r ≠ .bad):k=k' ∧ gK k k' r=r:=by
 unfold gK at h ⊢
 cases hb:Nat.beq (ix k) (ix k')
 ·rw [hb] at h;exact absurd rfl h
 ·exact ⟨ix_inj hb,rfl⟩
theorem Lu (a b:Nat):A5 (Bx a b)=A5 a ++ A5 b:=by unfold A5;rw [bapp_unp,List.map_append]
theorem Fg {c o n:Nat} (h:o + n ≤ bl c):A5 (At c o n)=((A5 c).drop o).take n:=by unfold A5;rw [(Ja h).1,List.map_take,List.map_drop]
theorem unpI_bset {s i m:Nat} (hm:m < 256) (hi:i < bl s) (hb:bl (bset s i m)=bl s):A5 (bset s i m)=(A5 s).set i (Int.ofNat m):=by
 obtain ⟨c',e1,e2⟩:=unpN_set (bl s) s i m hm hi
 unfold A5 unp
 rw [hb,bset_eq,← e1,e2,List.map_set]
 congr 1
 simp [UInt8.toNat_ofNat'];omega
def wbF (s:Nat) (e:TypeId) (t:Tl) (n off:Nat) (x:FV) (c:FObj → FR):FR:=gW t (FV.rec (motive_1:=fun _=>FR) (motive_2:=fun _=>FR) (fun k m=>gK .u8 k (gT (Nat.beq 1 n) (gT (Nat.ble (Nat.succ m) 256) (gT (Nat.ble (Nat.succ off) (bl s)) (fN (bset s off m) fun s'=>gT (Nat.beq (bl s') (bl s)) (c (.bs s' e t))))))) (fun _ _=>.bad) (fun _=>.bad) (fun _=>.bad) (fun _ _=>.bad) (fun _ _ _ _ _ _=>.bad) (fun _=>.bad) (fun _=>.bad) (fun _ _ _ _ _=>.bad) (fun _ _ _=>.bad) (fun _ _=>.bad) (fun q=>gT (Nat.beq (bl q) n) (gT (Nat.ble (Nat.add off (bl q)) (bl s)) (fN (Bx (At s 0 off) (Bx q (At s (Nat.add off (bl q)) (Nat.sub (bl s) (Nat.add off (bl q)))))) fun s'=>c (.bs s' e t)))) (fun _ _=>.bad) (fun _ _=>.bad) (fun _=>.bad) .bad (fun _ _ _ _=>.bad) x)
theorem wbF_ok (s:Nat) (e:TypeId) (t:Tl) (n off:Nat) (x:FV) (c:FObj → FR):WrOk (.bs s e t) n off x (wbF s e t n off x c) c:=fun h=>by
 unfold wbF at h ⊢
 obtain ⟨g1,g2⟩:=Ha h
 rw [g2] at h ⊢
 cases x with
 | n k m =>
  have h:gK .u8 k (gT (Nat.beq 1 n) (gT (Nat.ble (Nat.succ m) 256) (gT (Nat.ble (Nat.succ off) (bl s)) (fN (bset s off m) fun s'=>gT (Nat.beq (bl s') (bl s)) (c (.bs s' e t)))))) ≠ .bad:=h
  show ∃ o,_ ∧ _ ∧ gK .u8 k (gT (Nat.beq 1 n) (gT (Nat.ble (Nat.succ m) 256) (gT (Nat.ble (Nat.succ off) (bl s)) (fN (bset s off m) fun s'=>gT (Nat.beq (bl s') (bl s)) (c (.bs s' e t))))))=_
  obtain ⟨rfl,a2⟩:=Hb h
  rw [a2] at h ⊢
  obtain ⟨b1,b2⟩:=Af h
  rw [b2] at h ⊢
  obtain ⟨c1,c2⟩:=Af h
  rw [c2] at h ⊢
  obtain ⟨d1,d2⟩:=Af h
  rw [d2,Aj] at h ⊢
  obtain ⟨e1,e2⟩:=Af h
  rw [e2]
  have hm:m < 256:=Dt c1
  have ho:off < bl s:=Dt d1
  refine ⟨.bs (bset s off m) e t,?_,?_,rfl⟩
  ·show (((!t.isRo) && (decide (IntKind.u8=.u8) && Nat.blt off (A5 s).length)) && Nat.beq 1 n)=true
   rw [g1,b1,A7]
   simp only [decide_true,Bool.true_and,Bool.and_true];exact d1
  ·show AObj.ints .u8 (A5 (bset s off m)) e t=.ints .u8 ((A5 s).set off (Int.ofNat m)) e t
   rw [unpI_bset hm ho (Nat.eq_of_beq_eq_true e1)]
 | bs q =>
  have h:gT (Nat.beq (bl q) n) (gT (Nat.ble (Nat.add off (bl q)) (bl s)) (fN (Bx (At s 0 off) (Bx q (At s (Nat.add off (bl q)) (Nat.sub (bl s) (Nat.add off (bl q)))))) fun s'=>c (.bs s' e t))) ≠ .bad:=h
  show ∃ o,_ ∧ _ ∧ gT (Nat.beq (bl q) n) (gT (Nat.ble (Nat.add off (bl q)) (bl s)) (fN (Bx (At s 0 off) (Bx q (At s (Nat.add off (bl q)) (Nat.sub (bl s) (Nat.add off (bl q)))))) fun s'=>c (.bs s' e t)))=_
  obtain ⟨b1,b2⟩:=Af h
  rw [b2] at h ⊢
  obtain ⟨c1,c2⟩:=Af h
  rw [c2,Aj]
  have hle:off + bl q ≤ bl s:=Dt c1
  refine ⟨.bs _ e t,?_,?_,rfl⟩
  ·show (((!t.isRo) && (decide (IntKind.u8=.u8) && Nat.ble (off + (A5 q).length) (A5 s).length)) && Nat.beq (A5 q).length n)=true
   rw [g1,A7,A7,b1]
   simp only [decide_true,Bool.true_and,Bool.and_true];exact c1
  ·show AObj.ints .u8 (A5 _) e t=.ints .u8 ((A5 s).take off ++ A5 q ++ (A5 s).drop (off + (A5 q).length)) e t
   rw [Lu,Lu,Fg (by omega),Fg (show Nat.add off (bl q) + Nat.sub (bl s) (Nat.add off (bl q)) ≤ bl s by show off + bl q + (bl s - (off + bl q)) ≤ bl s;omega),A7,List.append_assoc,List.drop_zero]
   congr 3
   rw [List.take_of_length_le (by rw [List.length_drop,A7];exact Nat.le_refl _)]
   rfl
 | _=>exact absurd rfl h
def wiF (k:IntKind) (l:List Int) (e:TypeId) (t:Tl) (n off:Nat) (x:FV) (c:FObj → FR):FR:=FV.rec (motive_1:=fun _=>FR) (motive_2:=fun _=>FR) (fun k' m=>gW t (gK k k' (gT (Nat.beq 1 n) (J1 l off (Int.ofNat m) fun l=>c (.ints k l e t))))) (fun k' m=>gW t (gK k k' (gT (Nat.beq 1 n) (J1 l off (Int.negSucc m) fun l=>c (.ints k l e t))))) (fun _=>.bad) (fun _=>.bad) (fun _ _=>.bad) (fun _ _ _ _ _ _=>.bad) (fun _=>.bad) (fun _=>.bad) (fun _ _ _ _ _=>.bad) (fun _ _ _=>.bad) (fun _ _=>.bad) (fun q=>slW (.ints k l e t) n off (.bs q) c) (fun k' l'=>slW (.ints k l e t) n off (.ints k' l') c) (fun _ _=>.bad) (fun _=>.bad) .bad (fun _ _ _ _=>.bad) x
theorem wi1 {k k':IntKind} {l:List Int} {e:TypeId} {t:Tl} {n off:Nat} {x:FV} {i:Int} {c:FObj → FR} (hx:αV x=.int k' i):WrOk (.ints k l e t) n off x (gW t (gK k k' (gT (Nat.beq 1 n) (J1 l off i fun l=>c (.ints k l e t))))) c:=fun h=>by
 obtain ⟨g1,g2⟩:=Ha h
 rw [g2] at h ⊢
 obtain ⟨rfl,a2⟩:=Hb h
 rw [a2] at h ⊢
 obtain ⟨b1,b2⟩:=Af h
 rw [b2] at h ⊢
 rw [Ix] at h ⊢
 by_cases hl:off < l.length
 ·rw [if_pos hl]
  refine ⟨.ints k (l.set off i) e t,?_,?_,rfl⟩
  ·rw [hx]
   show (((!t.isRo) && (decide (k=k) && Nat.blt off l.length)) && Nat.beq 1 n)=true
   rw [g1,b1]
   simp only [decide_true,Bool.true_and,Bool.and_true];rw [Nat.blt_eq];exact hl
  ·rw [hx];rfl
 ·rw [if_neg hl] at h;exact absurd rfl h
theorem wiF_ok (k:IntKind) (l:List Int) (e:TypeId) (t:Tl) (n off:Nat) (x:FV) (c:FObj → FR):WrOk (.ints k l e t) n off x (wiF k l e t n off x c) c:=by
 cases x with
 | n k' m=>exact wi1 rfl
 | z k' m=>exact wi1 rfl
 | ints k' l'=>exact slW_ok _ _ _ _ _
 | bs q=>exact slW_ok _ _ _ _ _
 | _=>exact fun h=>absurd rfl h
def woF (ob:FObj) (n off:Nat) (x:FV) (c:FObj → FR):FR:=FObj.rec (motive:=fun _=>FR) .bad (fun l e t=>wcF l e t n off x c) (fun s e t=>wbF s e t n off x c) (fun k l e t=>wiF k l e t n off x c) (fun _=>.bad) .bad ob
theorem woF_ok (ob:FObj) (n off:Nat) (x:FV) (c:FObj → FR):WrOk ob n off x (woF ob n off x c) c:=by
 cases ob with
 | cells l e t=>exact wcF_ok _ _ _ _ _ _ _
 | bs s e t=>exact wbF_ok _ _ _ _ _ _ _
 | ints k l e t=>exact wiF_ok _ _ _ _ _ _ _ _
 | _=>exact fun h=>absurd rfl h
def stF (n:Nat) (p x:FV) (σ:FH) (k:KV):FR:=kP (fun b off=>gM σ b fun ob=>woF ob n off x fun ob=>pM σ b ob fun σ=>k (.tup []) σ) p
theorem stF_sm (n:Nat) (p x:FV) (σ:FH) (k:KV):Sm (stF n p x σ k) k (L7 std n (αV p) (αV x) (αH σ)):=by
 intro h
 unfold stF at h ⊢
 obtain ⟨b,off,rfl,h1⟩:=G9 h
 rw [h1] at h ⊢
 obtain ⟨ob,_,h3,h4⟩:=Cr h
 rw [h4] at h ⊢
 obtain ⟨o,g1,g2,g3⟩:=woF_ok _ _ _ _ _ h
 rw [g3]
 dsimp only
 rw [pM_eq]
 refine ⟨.tup [],⟨σ.next,σ.mem.put b o⟩,?_,rfl⟩
 simp only [αV,L7,h3]
 rw [pM_α,g2]
 have g1:((αO ob).writeOk std off (αV x) && std.eqN ((αV x).size std) n)=true:=g1
 rw [g1];rfl
/-! Parts of values. -/
def f1F (off:Nat) (x:FV) (c:FV → FR):FR:=FV.rec (motive_1:=fun _=>FR) (motive_2:=fun _=>FR) (fun _ _=>.bad) (fun _ _=>.bad) (fun _=>.bad) (fun _=>.bad) (fun _ _=>.bad) (fun _ _ _ _ _ _=>.bad) (fun _=>.bad) (fun _=>.bad) (fun _ _ _ _ _=>.bad) (fun _ _ _=>.bad) (fun l _=>F2 l off c) (fun s=>gT (Nat.ble (Nat.succ off) (bl s)) (fN (bat s off) fun m=>c (.n .u8 m))) (fun k l=>F2 l off fun i=>vI k i c) (fun _ _=>.bad) (fun _=>.bad) .bad (fun _ _ _ _=>.bad) x
theorem f1F_sv (off:Nat) (x:FV) (c:FV → FR):Sv (f1F off x c) c (Ic std (αV x) off):=by
 intro h
 cases x with
 | agg l =>
  obtain ⟨a,ha,h5⟩:=Ed (l:=l) (i:=off) (k:=c) h
  have hlt:=(List.getElem?_eq_some_iff.1 ha).1
  refine ⟨a,?_,h5⟩
  simp only [αV,Ic,Prod.mk.injEq]
  rw [αL_length]
  exact ⟨by rw [Nat.blt_eq];exact hlt,by rw [List.getD_eq_getElem?_getD,αL_get,ha];rfl⟩
 | bs s =>
  have h:gT (Nat.ble (Nat.succ off) (bl s)) (fN (bat s off) fun m=>c (.n .u8 m)) ≠ .bad:=h
  obtain ⟨h1,h2⟩:=Af h
  refine ⟨.n .u8 (bat s off),?_,h2.trans (Aj _ _)⟩
  simp only [αV,Ic,std,Prod.mk.injEq,AV.int.injEq,true_and]
  rw [A7]
  exact ⟨h1,by rw [List.getD_eq_getElem?_getD,unpI_at (Dt h1)];rfl⟩
 | ints k l =>
  obtain ⟨a,ha,h5⟩:=Ed (l:=l) (i:=off) (k:=fun i=>vI k i c) h
  have hlt:=(List.getElem?_eq_some_iff.1 ha).1
  obtain ⟨v,h6,h7⟩:=vI_of k a c
  refine ⟨v,?_,h5.trans h7⟩
  simp only [αV,Ic,h6,std,Prod.mk.injEq,AV.int.injEq,true_and]
  exact ⟨by rw [Nat.blt_eq];exact hlt,by rw [List.getD_eq_getElem?_getD,ha];rfl⟩
 | _=>exact absurd rfl h
def fnF (off size:Nat) (x:FV) (c:FV → FR):FR:=FV.rec (motive_1:=fun _=>FR) (motive_2:=fun _=>FR) (fun _ _=>.bad) (fun _ _=>.bad) (fun _=>.bad) (fun _=>.bad) (fun _ _=>.bad) (fun _ _ _ _ _ _=>.bad) (fun _=>.bad) (fun _=>.bad) (fun _ _ _ _ _=>.bad) (fun _ _ _=>.bad) (fun l _=>Bo off l fun l=>Be size l fun l=>A9 l 0 fun m=>gT (Nat.beq m size && Nat.ble 1 size) (agF l c)) (fun s=>gT (Nat.ble (Nat.add off size) (bl s)) (fN (At s off size) fun m=>c (.bs m))) (fun k l=>slV (Ib std (.ints k l) off size) c) (fun _ _=>.bad) (fun _=>.bad) .bad (fun _ _ _ _=>.bad) x
theorem fnF_sv (off size:Nat) (x:FV) (c:FV → FR):Sv (fnF off size x c) c (Ib std (αV x) off size):=by
 intro h
 cases x with
 | agg l =>
  have h:(Bo off l fun l=>Be size l fun l=>A9 l 0 fun m=>gT (Nat.beq m size && Nat.ble 1 size) (agF l c)) ≠ .bad:=h
  show ∃ v,_ ∧ (Bo off l fun l=>Be size l fun l=>A9 l 0 fun m=>gT (Nat.beq m size && Nat.ble 1 size) (agF l c))=_
  rw [B9,Bq,A0] at h ⊢
  obtain ⟨hb,h2⟩:=Af h
  rw [h2]
  rw [Bool.and_eq_true] at hb
  have hn:=Dt hb.2
  have hb:=Nat.eq_of_beq_eq_true hb.1
  obtain ⟨v,h5,h6⟩:=agF_of ((l.drop off).take size) c
  refine ⟨v,?_,h6⟩
  simp only [αV,Ib,Prod.mk.injEq]
  rw [h5,αL_take,αL_drop,αL_length]
  refine ⟨?_,rfl⟩
  rw [Nat.ble_eq]
  simp only [List.length_take,List.length_drop] at hb
  omega
 | bs s =>
  have h:gT (Nat.ble (Nat.add off size) (bl s)) (fN (At s off size) fun m=>c (.bs m)) ≠ .bad:=h
  obtain ⟨h1,h2⟩:=Af h
  refine ⟨.bs (At s off size),?_,h2.trans (Aj _ _)⟩
  simp only [αV,Ib,std,Prod.mk.injEq,AV.ints.injEq,true_and]
  rw [A7]
  exact ⟨h1,(Fg (Dt h1)).symm⟩
 | ints k l=>exact Dj _ _ h
 | _=>exact absurd rfl h
def sAt (x i:FV) (c:FV → FR):FR:=kS (fun s=>kNn (fun _ n=>gT (Nat.ble (Nat.succ n) (bl s)) (fN (bat s n) fun m=>c (.n .u8 m))) i) x
theorem sAt_sv (x i:FV) (c:FV → FR):Sv (sAt x i c) c (Al std .idxStr [αV x,αV i]):=by
 intro h
 unfold sAt at h ⊢
 obtain ⟨s,rfl,h1⟩:=G8 h
 rw [h1] at h ⊢
 obtain ⟨k,n,rfl,h2⟩:=Dx h
 rw [h2] at h ⊢
 obtain ⟨h3,h4⟩:=Af h
 rw [h4,Aj]
 refine ⟨.n .u8 (bat s n),?_,rfl⟩
 show (decide ((0:Int) ≤ Int.ofNat n) && Nat.blt n (unp s).length,AV.int .u8 ((A5 s).getD n 0))=_
 rw [dec0,Bool.true_and,Bz,List.getD_eq_getElem?_getD,unpI_at (Dt h3)]
 exact congrArg (fun z=>(z,AV.int .u8 (Int.ofNat (bat s n)))) h3
def mfF (f:Fn) (n:Nat) (l:List FV) (c:FV → FR):FR:=Be n l fun a=>Bo n l fun b=>c (.fn f a b)
theorem mfF_sv (f:Fn) (n:Nat) (l:List FV) (c:FV → FR):Sv (mfF f n l c) c (Al std (.mkFn f n) (αL l)):=by
 intro h
 unfold mfF
 rw [Bq,B9]
 refine ⟨.fn f (l.take n) (l.drop n),?_,rfl⟩
 simp only [αV,Al,αL_take,αL_drop]
def atF (t:TypeId) (commaOk:Bool) (zero:FV) (x:FV) (c:FV → FR):FR:=FV.rec (motive_1:=fun _=>FR) (motive_2:=fun _=>FR) (fun _ _=>.bad) (fun _ _=>.bad) (fun _=>.bad) (fun _=>.bad) (fun _ _=>.bad) (fun _ _ _ _ _ _=>.bad) (fun _=>.bad) (fun _=>.bad) (fun _ _ _ _ _=>.bad) (fun t' v _=>Bool.rec (gT commaOk (c (.tup [zero,.b false]))) (c (Bool.rec v (.tup [v,.b true]) commaOk)) (Nat.beq t' t)) (fun _ _=>.bad) (fun _=>.bad) (fun _ _=>.bad) (fun _ _=>.bad) (fun j=>Nl.rec (motive:=fun _=>FR) .bad .bad .bad .bad .bad (gT commaOk (c (.tup [zero,.b false]))) j) .bad (fun _ _ _ _=>.bad) x
theorem atF_sv (t:TypeId) (commaOk:Bool) (zero:FV) (z:AV) (hz:αV zero=z) (x:FV) (c:FV → FR):Sv (atF t commaOk zero x c) c (Al std (.assertT t commaOk z) [αV x]):=by
 intro h
 subst hz
 cases x with
 | ifc t' v =>
  have h:(Bool.rec (gT commaOk (c (.tup [zero,.b false]))) (c (Bool.rec v (.tup [v,.b true]) commaOk)) (Nat.beq t' t):FR) ≠ .bad:=h
  show ∃ w,(match Nat.beq t' t with | true=>(true,bif commaOk then AV.tup [αV v,.bool true] else αV v) | false=>(commaOk,.tup [αV zero,.bool false]))=(true,αV w) ∧ (Bool.rec (gT commaOk (c (.tup [zero,.b false]))) (c (Bool.rec v (.tup [v,.b true]) commaOk)) (Nat.beq t' t):FR)=c w
  cases hb:Nat.beq t' t with
  | true=>cases commaOk <;> exact ⟨_,rfl,rfl⟩
  | false =>
   rw [hb] at h
   obtain ⟨rfl,h2⟩:=Af h
   exact ⟨_,rfl,rfl⟩
 | o j =>
  cases j with
  | ifc =>
   obtain ⟨rfl,h2⟩:=Af (show gT commaOk (c (.tup [zero,.b false])) ≠ .bad from h)
   exact ⟨_,rfl,rfl⟩
  | _=>exact absurd rfl h
 | _=>exact absurd rfl h
def nlF (j:Nl) (x:FV) (y n:FR):FR:=FV.rec (motive_1:=fun _=>FR) (motive_2:=fun _=>FR) (fun _ _=>.bad) (fun _ _=>.bad) (fun _=>.bad) (fun _=>.bad) (fun b o=>Nl.rec (motive:=fun _=>FR) .bad n .bad .bad .bad .bad j) (fun b o n1 k e z=>Nl.rec (motive:=fun _=>FR) .bad .bad n .bad .bad .bad j) (fun b=>Nl.rec (motive:=fun _=>FR) .bad .bad .bad n .bad .bad j) (fun _=>.bad) (fun f a b _ _=>Nl.rec (motive:=fun _=>FR) .bad .bad .bad .bad n .bad j) (fun t v _=>Nl.rec (motive:=fun _=>FR) .bad .bad .bad .bad .bad n j) (fun _ _=>.bad) (fun _=>.bad) (fun _ _=>.bad) (fun _ _=>.bad) (fun i=>Nl.rec (motive:=fun _=>FR) .bad (Nl.rec (motive:=fun _=>FR) .bad y .bad .bad .bad .bad j) (Nl.rec (motive:=fun _=>FR) .bad .bad y .bad .bad .bad j) (Nl.rec (motive:=fun _=>FR) .bad .bad .bad y .bad .bad j) (Nl.rec (motive:=fun _=>FR) .bad .bad .bad .bad y .bad j) (Nl.rec (motive:=fun _=>FR) .bad .bad .bad .bad .bad y j) i) .bad (fun _ _ _ _=>.bad) x
end
end Go.Proofs.YtfdfdagbeeeomaaDoor.V2
namespace Go.Proofs.YtfdfdagbeeeomaaDoor.V2
open Go
noncomputable section
inductive RowF where
 | bs (c:Nat)
 | cells (l:List FV)
 | ints (k:IntKind) (l:List Int)
def αR:RowF → Row
 | .bs c=>.ints .u8 (A5 c)
 | .cells l=>.cells (αL l)
 | .ints k l=>.ints k l
def J2 (size:Nat) (σ:FH) (b o n z:Nat) (c:Nat → RowF → FR):FR:=gM σ b fun ob=>FObj.rec (motive:=fun _=>FR) (gT (Nat.beq n 0) (c 0 (.cells []))) (fun l _ _=>gT (Nat.beq z size) (Cx l (A9 l 0 fun q=>gT (Nat.ble (Nat.add o (Nat.mul n size)) q) (Bo o l fun l=>Be (Nat.mul n size) l fun l=>c n (.cells l))))) (fun s _ _=>gT (Nat.beq z size) (gT (Nat.ble (Nat.add o (Nat.mul n size)) (bl s)) (fN (At s o (Nat.mul n size)) fun q=>c n (.bs q)))) (fun k l _ _=>gT (Nat.beq z size) (A9 l 0 fun q=>gT (Nat.ble (Nat.add o (Nat.mul n size)) q) (Bo o l fun l=>Be (Nat.mul n size) l fun l=>c n (.ints k l)))) (fun _=>.bad) .bad ob
def L4 (str:Bool) (size:Nat) (σ:FH) (v:FV) (c:Nat → RowF → FR):FR:=FV.rec (motive_1:=fun _=>FR) (motive_2:=fun _=>FR) (fun _ _=>.bad) (fun _ _=>.bad) (fun _=>.bad) (fun q=>Bool.rec .bad (gT (Nat.beq size 1) (fN (bl q) fun n=>c n (.bs q))) str) (fun _ _=>.bad) (fun b o n _ _ z=>Bool.rec (J2 size σ b o n z c) .bad str) (fun _=>.bad) (fun _=>.bad) (fun _ _ _ _ _=>.bad) (fun _ _ _=>.bad) (fun _ _=>.bad) (fun _=>.bad) (fun _ _=>.bad) (fun _ _=>.bad) (fun j=>Nl.rec (motive:=fun _=>FR) .bad .bad (Bool.rec (c 0 (.cells [])) .bad str) .bad .bad .bad j) .bad (fun _ _ _ _=>.bad) v
theorem rowS_cases {size:Nat} {σ:FH} {b o n k:Nat} {e:Bool} {z:Nat} {c:Nat → RowF → FR} (h:J2 size σ b o n z c ≠ .bad):∃ m R,Br std false size (αH σ) (.sl b o n k e z)=(true,m,αR R) ∧ J2 size σ b o n z c=c m R:=by
 unfold J2 at h ⊢
 obtain ⟨ob,_,h3,h4⟩:=Cr h
 rw [h4] at h ⊢
 unfold Br
 dsimp only
 rw [h3]
 cases ob with
 | dead =>
  obtain ⟨h5,h6⟩:=Af (show gT (Nat.beq n 0) (c 0 (.cells [])) ≠ .bad from h)
  exact ⟨0,.cells [],by simp only [αO,h5];rfl,h6⟩
 | cells l e' t =>
  obtain ⟨h5,h6⟩:=Af (show gT (Nat.beq z size) (Cx l (A9 l 0 fun q=>gT (Nat.ble (Nat.add o (Nat.mul n size)) q) (Bo o l fun l=>Be (Nat.mul n size) l fun l=>c n (.cells l)))) ≠ .bad from h)
  have h:gT (Nat.beq z size) (Cx l (A9 l 0 fun q=>gT (Nat.ble (Nat.add o (Nat.mul n size)) q) (Bo o l fun l=>Be (Nat.mul n size) l fun l=>c n (.cells l)))) ≠ .bad:=h
  show ∃ m R,_ ∧ gT (Nat.beq z size) (Cx l (A9 l 0 fun q=>gT (Nat.ble (Nat.add o (Nat.mul n size)) q) (Bo o l fun l=>Be (Nat.mul n size) l fun l=>c n (.cells l))))=_
  rw [h6] at h ⊢
  obtain ⟨h7,h8⟩:=J6 h
  rw [h8] at h ⊢
  rw [A0,Nat.zero_add] at h ⊢
  obtain ⟨g1,g2⟩:=Af h
  rw [g2,B9,Bq]
  refine ⟨n,.cells ((l.drop o).take (Nat.mul n size)),?_,rfl⟩
  have g1:Nat.ble (o + n * size) l.length=true:=g1
  simp only [αO,h5,h7,αL_length,g1,αR,αL_take,αL_drop]
  rfl
 | bs s e' t =>
  have h:gT (Nat.beq z size) (gT (Nat.ble (Nat.add o (Nat.mul n size)) (bl s)) (fN (At s o (Nat.mul n size)) fun q=>c n (.bs q))) ≠ .bad:=h
  show ∃ m R,_ ∧ gT (Nat.beq z size) (gT (Nat.ble (Nat.add o (Nat.mul n size)) (bl s)) (fN (At s o (Nat.mul n size)) fun q=>c n (.bs q)))=_
  obtain ⟨h5,h6⟩:=Af h
  rw [h6] at h ⊢
  obtain ⟨g1,g2⟩:=Af h
  rw [g2,Aj]
  refine ⟨n,.bs (At s o (Nat.mul n size)),?_,rfl⟩
  have g1:Nat.ble (o + n * size) (bl s)=true:=g1
  have e1:A5 (At s o (Nat.mul n size))=((A5 s).drop o).take (n * size):=Fg (Dt g1)
  simp only [αO,αR,h5,std,A7,g1]
  rw [e1]
  rfl
 | ints k' l e' t =>
  have h:gT (Nat.beq z size) (A9 l 0 fun q=>gT (Nat.ble (Nat.add o (Nat.mul n size)) q) (Bo o l fun l=>Be (Nat.mul n size) l fun l=>c n (.ints k' l))) ≠ .bad:=h
  show ∃ m R,_ ∧ gT (Nat.beq z size) (A9 l 0 fun q=>gT (Nat.ble (Nat.add o (Nat.mul n size)) q) (Bo o l fun l=>Be (Nat.mul n size) l fun l=>c n (.ints k' l)))=_
  obtain ⟨h5,h6⟩:=Af h
  rw [h6] at h ⊢
  rw [A0,Nat.zero_add] at h ⊢
  obtain ⟨g1,g2⟩:=Af h
  rw [g2,B9,Bq]
  refine ⟨n,.ints k' ((l.drop o).take (Nat.mul n size)),?_,rfl⟩
  have g1:Nat.ble (o + n * size) l.length=true:=g1
  simp only [αO,αR,h5,std,g1]
  rfl
 | _=>exact absurd rfl h
theorem Fi {str:Bool} {size:Nat} {σ:FH} {v:FV} {c:Nat → RowF → FR} (h:L4 str size σ v c ≠ .bad):∃ m R,Br std str size (αH σ) (αV v)=(true,m,αR R) ∧ L4 str size σ v c=c m R:=by
 cases v with
 | s q =>
  cases str with
  | false=>exact absurd rfl h
  | true =>
   have h:gT (Nat.beq size 1) (fN (bl q) fun n=>c n (.bs q)) ≠ .bad:=h
   show ∃ m R,_ ∧ gT (Nat.beq size 1) (fN (bl q) fun n=>c n (.bs q))=_
   obtain ⟨h1,h2⟩:=Af h
   rw [h2,Aj]
   refine ⟨bl q,.bs q,?_,rfl⟩
   unfold Br
   simp only [αV,h1,std,Bz]
   rfl
 | sl b o n k e z =>
  cases str with
  | true=>exact absurd rfl h
  | false=>exact rowS_cases (k:=k) (e:=e) h
 | o j =>
  cases j with
  | sl =>
   cases str with
   | true=>exact absurd rfl h
   | false=>exact ⟨0,.cells [],rfl,rfl⟩
  | _=>exact absurd rfl h
 | _=>exact absurd rfl h
def ofQ (l:List FV) (e:TypeId) (t:Tl) (c:FObj → FR):FR:=List.rec (motive:=fun _=>FR) (c (.cells [] e t)) (fun v q _=>FV.rec (motive_1:=fun _=>FR) (motive_2:=fun _=>FR) (fun _ _=>Bool.rec (c (.cells l e t)) (fO (βO (AObj.of (αL l) e t)) c) (Gr q)) (fun _ _=>Bool.rec (c (.cells l e t)) (fO (βO (AObj.of (αL l) e t)) c) (Gr q)) (fun _=>c (.cells l e t)) (fun _=>c (.cells l e t)) (fun _ _=>c (.cells l e t)) (fun _ _ _ _ _ _=>c (.cells l e t)) (fun _=>c (.cells l e t)) (fun _=>c (.cells l e t)) (fun _ _ _ _ _=>c (.cells l e t)) (fun _ _ _=>c (.cells l e t)) (fun _ _=>c (.cells l e t)) (fun _=>c (.cells l e t)) (fun _ _=>c (.cells l e t)) (fun _ _=>c (.cells l e t)) (fun _=>c (.cells l e t)) .bad (fun _ _ _ _=>.bad) v) l
theorem ofQ_of (l:List FV) (e:TypeId) (t:Tl) (c:FObj → FR):∃ o,αO o=AObj.of (αL l) e t ∧ ofQ l e t c=c o:=by
 cases l with
 | nil=>exact ⟨.cells [] e t,rfl,rfl⟩
 | cons v l =>
  have slow:∃ o,αO o=AObj.of (αL (v :: l)) e t ∧ fO (βO (AObj.of (αL (v :: l)) e t)) c=c o:=⟨βO (AObj.of (αL (v :: l)) e t),αβO _,D6 _ _⟩
  cases v
  case n k m =>
   show ∃ o,_ ∧ (Bool.rec (c (.cells (.n k m :: l) e t)) (fO (βO (AObj.of (αL (.n k m :: l)) e t)) c) (Gr l):FR)=c o
   cases hb:Gr l with
   | true=>exact slow
   | false =>
    refine ⟨.cells (.n k m :: l) e t,?_,rfl⟩
    simp only [αO,αL,αV,AObj.of,Fc k l hb]
  case z k m =>
   show ∃ o,_ ∧ (Bool.rec (c (.cells (.z k m :: l) e t)) (fO (βO (AObj.of (αL (.z k m :: l)) e t)) c) (Gr l):FR)=c o
   cases hb:Gr l with
   | true=>exact slow
   | false =>
    refine ⟨.cells (.z k m :: l) e t,?_,rfl⟩
    simp only [αO,αL,αV,AObj.of,Fc k l hb]
  case o j=>cases j <;> exact ⟨.cells _ e t,rfl,rfl⟩
  all_goals exact ⟨.cells _ e t,rfl,rfl⟩
def kR (fb:Nat → FR) (fc:List FV → FR) (fi:IntKind → List Int → FR) (R:RowF):FR:=RowF.rec (motive:=fun _=>FR) fb fc fi R
def slC (e:TypeId) (R1 R2:RowF) (c:FObj → FR):FR:=Prod.rec (fun ok o=>gT ok (fO (βO o) c)) (Hp std e (αR R1) (αR R2))
theorem Gz {e:TypeId} {R1 R2:RowF} {c:FObj → FR} (h:slC e R1 R2 c ≠ .bad):∃ o,Hp std e (αR R1) (αR R2)=(true,αO o) ∧ slC e R1 R2 c=c o:=by
 unfold slC at h ⊢
 generalize Hp std e (αR R1) (αR R2)=r at h
 obtain ⟨ok,o⟩:=r
 obtain ⟨h1,h2⟩:=Af (show gT ok (fO (βO o) c) ≠ .bad from h)
 exact ⟨βO o,by rw [h1,αβO],h2.trans (D6 _ _)⟩
def catQ (e:TypeId) (R1 R2:RowF) (c:FObj → FR):FR:=kR
 (fun a=>kR (fun b=>fN (Bx a b) fun s=>c (.bs s e .more)) (fun m=>List.rec (motive:=fun _=>FR) (c (.bs a e .more)) (fun _ _ _=>slC e R1 R2 c) m) (fun _ _=>slC e R1 R2 c) R2)
 (fun l=>kR (fun b=>List.rec (motive:=fun _=>FR) (c (.bs b e .more)) (fun _ _ _=>slC e R1 R2 c) l) (fun m=>Dk l m fun l=>ofQ l e .more c) (fun _ _=>slC e R1 R2 c) R2)
 (fun _ _=>slC e R1 R2 c) R1
theorem catQ_cases {e:TypeId} {R1 R2:RowF} {c:FObj → FR} (h:catQ e R1 R2 c ≠ .bad):∃ o,Hp std e (αR R1) (αR R2)=(true,αO o) ∧ catQ e R1 R2 c=c o:=by
 cases R1 with
 | bs a =>
  cases R2 with
  | bs b =>
   refine ⟨.bs (Bx a b) e .more,?_,Aj (Bx a b) fun s=>c (.bs s e .more)⟩
   simp only [αR,Hp,αO,Lu]
   rfl
  | cells m =>
   cases m with
   | nil=>exact ⟨.bs a e .more,rfl,rfl⟩
   | cons v m=>exact Gz h
  | ints k l=>exact Gz h
 | cells l =>
  cases R2 with
  | bs b =>
   cases l with
   | nil=>exact ⟨.bs b e .more,rfl,rfl⟩
   | cons v m=>exact Gz h
  | cells m =>
   show ∃ o,_ ∧ (Dk l m fun l=>ofQ l e .more c)=c o
   rw [Co]
   obtain ⟨o,h1,h2⟩:=ofQ_of (l ++ m) e .more c
   refine ⟨o,?_,h2⟩
   simp only [αR,Hp]
   rw [h1,αL_append]
  | ints k m=>exact Gz h
 | ints k l=>exact Gz h
def baQ (e:TypeId) (N:Nat) (s:FV) (σ:FH) (f:FH → FR):FR:=kSN (fun b _ _ k ex _=>gM σ b fun ob=>FObj.rec (motive:=fun _=>FR) .bad (fun _ el t=>Bool.rec (gT (Nat.beq el e) (gW t (pM σ b .dead f))) (Bool.rec (gT (Nat.beq el e) (gW t (pM σ b .dead f))) (f σ) (Nat.ble (Nat.succ k) N)) ex) (fun _ el t=>Bool.rec (gT (Nat.beq el e) (gW t (pM σ b .dead f))) (Bool.rec (gT (Nat.beq el e) (gW t (pM σ b .dead f))) (f σ) (Nat.ble (Nat.succ k) N)) ex) (fun _ _ el t=>Bool.rec (gT (Nat.beq el e) (gW t (pM σ b .dead f))) (Bool.rec (gT (Nat.beq el e) (gW t (pM σ b .dead f))) (f σ) (Nat.ble (Nat.succ k) N)) ex) (fun _=>.bad) .bad ob) (f σ) s
theorem baQ_cases {e:TypeId} {N:Nat} {s:FV} {σ:FH} {f:FH → FR} (h:baQ e N s σ f ≠ .bad):∃ σ',Hr std (αH σ) e N (αV s)=true ∧ αH σ'=Hv std (αH σ) N (αV s) ∧ baQ e N s σ f=f σ':=by
 unfold baQ at h ⊢
 rcases kSN_cases h with ⟨b,o,n,k,ex,z,rfl,h1⟩ | ⟨rfl,h1⟩
 ·rw [h1] at h ⊢
  obtain ⟨ob,_,h3,h4⟩:=Cr h
  rw [h4] at h ⊢
  have key:∀ (el:TypeId) (t:Tl),(αO ob).cellsy=true → (αO ob).elem=el → (αO ob).isRo=t.isRo → (Bool.rec (gT (Nat.beq el e) (gW t (pM σ b .dead f))) (Bool.rec (gT (Nat.beq el e) (gW t (pM σ b .dead f))) (f σ) (Nat.ble (Nat.succ k) N)) ex:FR) ≠ .bad →
    ∃ σ',Hr std (αH σ) e N (.sl b o n k ex z)=true ∧ αH σ'=Hv std (αH σ) N (.sl b o n k ex z) ∧ (Bool.rec (gT (Nat.beq el e) (gW t (pM σ b .dead f))) (Bool.rec (gT (Nat.beq el e) (gW t (pM σ b .dead f))) (f σ) (Nat.ble (Nat.succ k) N)) ex:FR)=f σ':=by
   intro el t c1 c2 c3 h
   have dead:gT (Nat.beq el e) (gW t (pM σ b .dead f)) ≠ .bad → (Nat.beq el e && !(αO ob).isRo)=true ∧ ∃ σ',αH σ'=(αH σ).put b .dead ∧ gT (Nat.beq el e) (gW t (pM σ b .dead f))=f σ':=fun h=>by
    obtain ⟨g1,g2⟩:=Af h
    rw [g2] at h ⊢
    obtain ⟨g3,g4⟩:=Ha h
    rw [g4,pM_eq]
    exact ⟨by rw [g1,c3,g3];rfl,_,pM_α σ b .dead,rfl⟩
   cases ex with
   | false =>
    obtain ⟨g1,σ',g2,g3⟩:=dead h
    refine ⟨σ',?_,g2,g3⟩
    simp only [Hr,h3]
    rw [c1,c2,g1];rfl
   | true =>
    have h:(Bool.rec (gT (Nat.beq el e) (gW t (pM σ b .dead f))) (f σ) (Nat.ble (Nat.succ k) N):FR) ≠ .bad:=h
    show ∃ σ',_ ∧ _ ∧ (Bool.rec (gT (Nat.beq el e) (gW t (pM σ b .dead f))) (f σ) (Nat.ble (Nat.succ k) N):FR)=_
    cases hb:Nat.ble (Nat.succ k) N with
    | false =>
     rw [hb] at h
     obtain ⟨g1,σ',g2,g3⟩:=dead h
     refine ⟨σ',?_,?_,g3⟩
     ·simp only [Hr,h3]
      rw [c1,c2,g1];rfl
     ·rw [g2]
      show _=bif Nat.ble (Nat.succ k) N then αH σ else (αH σ).put b .dead
      rw [hb];rfl
    | true =>
     refine ⟨σ,?_,?_,rfl⟩
     ·simp only [Hr,h3]
      have hb:std.ltN k N=true:=hb
      rw [c1,hb,Bool.true_and,Bool.and_self,Bool.or_true]
     ·show _=bif Nat.ble (Nat.succ k) N then αH σ else (αH σ).put b .dead
      rw [hb];rfl
  cases ob with
  | cells l el t=>exact key el t rfl rfl rfl h
  | bs s el t=>exact key el t rfl rfl rfl h
  | ints k' l el t=>exact key el t rfl rfl rfl h
  | _=>exact absurd rfl h
 ·exact ⟨σ,rfl,rfl,h1⟩
theorem unpI_zero (n:Nat):A5 (Ce n)=List.replicate n 0 ∧ bl (Ce n)=n:=by
 have hb:bl (Ce n)=n:=by rw [Iv];exact (by simpa using bl_of (n:=n) (v:=0) (Nat.pow_pos (by omega)))
 refine ⟨?_,hb⟩
 unfold A5 unp
 rw [hb,Iv]
 apply List.ext_getElem?
 intro i
 rw [List.getElem?_map,List.getElem?_replicate]
 by_cases hi:i < n
 ·rw [F8 _ _ _ hi,if_pos hi,Option.map_some]
  obtain ⟨q,rfl⟩:=Nat.exists_eq_add_of_lt hi
  have:256 ^ (i + q + 1) / 256 ^ i % 256=0:=by
   rw [show i + q + 1=i + (q + 1) by omega,Nat.pow_add,Nat.mul_div_cancel_left _ (Nat.pow_pos (by omega)),Nat.pow_succ,Nat.mul_mod_left]
  rw [this];rfl
 ·rw [List.getElem?_eq_none (by rw [Bu];omega),if_neg hi];rfl
theorem unpI_zero' (n:Nat):A5 (Ce n)=List.replicate n 0:=(unpI_zero n).1
def apR (e:TypeId) (size:Nat) (s:FV) (m:Nat) (R2:RowF) (σ:FH) (k:KV):FR:=Nat.rec (kSN (fun _ _ _ _ _ z=>gT (Nat.beq z size) (k s σ)) (k s σ) s) (fun p _=>L4 false size σ s fun n R1=>fN (Nat.add n (Nat.succ p)) fun N=>gT (Nat.ble N 1000000000000) (baQ e N s σ fun σ=>catQ e R1 R2 fun o=>nM σ o fun b σ=>k (.sl b 0 N N false size) σ)) m
theorem apR_sm (e:TypeId) (size:Nat) (s:FV) (m:Nat) (R2:RowF) (σ:FH) (k:KV):Sm (apR e size s m R2 σ k) k (bif std.eqN m 0 && isSl size (αV s) then (true,αV s,αH σ) else appR std (αH σ) e size (αV s) (true,m,αR R2)):=by
 intro h
 unfold apR at h ⊢
 cases m with
 | zero =>
  have h:kSN (fun _ _ _ _ _ z=>gT (Nat.beq z size) (k s σ)) (k s σ) s ≠ .bad:=h
  show ∃ v σ',_ ∧ kSN (fun _ _ _ _ _ z=>gT (Nat.beq z size) (k s σ)) (k s σ) s=_
  rcases kSN_cases h with ⟨b,o,n,kk,ex,z,rfl,g1⟩ | ⟨rfl,g1⟩
  ·rw [g1] at h ⊢
   obtain ⟨g2,g3⟩:=Af h
   refine ⟨.sl b o n kk ex z,σ,?_,g3⟩
   simp only [αV,isSl,g2,std];rfl
  ·exact ⟨.o .sl,σ,rfl,g1⟩
 | succ p =>
  have h:(L4 false size σ s fun n R1=>fN (Nat.add n (Nat.succ p)) fun N=>gT (Nat.ble N 1000000000000) (baQ e N s σ fun σ=>catQ e R1 R2 fun o=>nM σ o fun b σ=>k (.sl b 0 N N false size) σ)) ≠ .bad:=h
  show ∃ v σ',_ ∧ (L4 false size σ s fun n R1=>fN (Nat.add n (Nat.succ p)) fun N=>gT (Nat.ble N 1000000000000) (baQ e N s σ fun σ=>catQ e R1 R2 fun o=>nM σ o fun b σ=>k (.sl b 0 N N false size) σ))=_
  obtain ⟨n,R1,h3,h4⟩:=Fi h
  rw [h4] at h ⊢
  try dsimp only at h ⊢
  rw [Aj] at h ⊢
  obtain ⟨g1,g2⟩:=Af h
  rw [g2] at h ⊢
  obtain ⟨σ1,g3,g4,g5⟩:=baQ_cases h
  rw [g5] at h ⊢
  try dsimp only at h ⊢
  obtain ⟨o,g6,g7⟩:=catQ_cases h
  rw [g7] at h ⊢
  try dsimp only at h ⊢
  obtain ⟨g8,σ2,g9,g10⟩:=Et h
  rw [g10]
  refine ⟨.sl σ1.next 0 (n + (p + 1)) (n + (p + 1)) false size,σ2,?_,rfl⟩
  show appR std (αH σ) e size (αV s) (true,p + 1,αR R2)=_
  unfold appR
  rw [h3]
  dsimp only
  rw [g6]
  dsimp only
  have k1:Hr std (αH σ) e (std.addN n (p + 1)) (αV s)=true:=g3
  have k2:std.leN (std.addN n (p + 1)) 1000000000000=true:=g1
  have k3:αH σ1=Hv std (αH σ) (std.addN n (p + 1)) (αV s):=g4
  have k4:(αH σ1).next=(αH σ).next:=by
   rw [k3]
   cases αV s <;> try rfl
   rename_i b0 o0 n0 k0 ex0 z0
   cases ex0
   ·rfl
   ·show (bif std.ltN k0 (std.addN n (p + 1)) then αH σ else (αH σ).put b0 .dead).next=_
    cases std.ltN k0 (std.addN n (p + 1)) <;> rfl
  rw [k1,k2,← k3,g9]
  have k5:Nat.blt (αH σ).next 1000000=true:=by rw [← k4];exact g8
  rw [k5]
  have k6:std.eqN (p + 1) 0=false:=rfl
  rw [k6,← k4];rfl
def apQ (e:TypeId) (str:Bool) (size:Nat) (s x:FV) (σ:FH) (k:KV):FR:=L4 str size σ x fun m R2=>apR e size s m R2 σ k
theorem apQ_sm (e:TypeId) (str:Bool) (size:Nat) (s x:FV) (σ:FH) (k:KV):Sm (apQ e str size s x σ k) k (Bb std (αH σ) (.append e str size) [αV s,αV x]):=by
 intro h
 unfold apQ at h ⊢
 obtain ⟨m,R2,h1,h2⟩:=Fi h
 rw [h2] at h ⊢
 try dsimp only at h ⊢
 simp only [Bb,appN]
 rw [h1]
 exact apR_sm e size s m R2 σ k h
def azQ (e:TypeId) (kd:IntKind) (s x:FV) (σ:FH) (k:KV):FR:=kNn (fun _ n=>gT (Nat.ble n 1000000) (gK .u8 kd (fN (Ce n) fun z=>apR e 1 s n (.bs z) σ k))) x
theorem azQ_sm (hz:∀ n,A5 (Ce n)=List.replicate n 0) (e:TypeId) (kd:IntKind) (s x:FV) (σ:FH) (k:KV):Sm (azQ e kd s x σ k) k (Bb std (αH σ) (.appz e kd) [αV s,αV x]):=by
 intro h
 unfold azQ at h ⊢
 obtain ⟨kk,n,rfl,h1⟩:=Dx h
 rw [h1] at h ⊢
 obtain ⟨h2,h3⟩:=Af h
 rw [h3] at h ⊢
 obtain ⟨rfl,h4⟩:=Hb h
 rw [h4,Aj] at h ⊢
 have:=apR_sm e 1 s n (.bs (Ce n)) σ k h
 simp only [αV,Bb,appX]
 have hr:zrow std .u8 (Int.ofNat n)=(true,n,αR (.bs (Ce n))):=by
  unfold zrow
  show (decide ((0:Int) ≤ Int.ofNat n) && Nat.ble n 1000000,n,Row.ints .u8 (List.replicate n 0))=_
  rw [dec0,h2]
  show _=(true,n,Row.ints .u8 (A5 (Ce n)))
  rw [hz];rfl
 rw [hr]
 exact this
def pcQ (R:RowF) (q:Nat) (c:FV → FR):FR:=kR (fun s=>gT (Nat.ble q (bl s)) (fN (At s 0 q) fun m=>c (.bs m))) (fun l=>Be q l fun l=>agF l c) (fun k l=>Be q l fun l=>c (.ints k l)) R
theorem pcQ_cases {R:RowF} {q:Nat} {c:FV → FR} (h:pcQ R q c ≠ .bad):∃ v,αV v=L6 std q (αR R) ∧ pcQ R q c=c v:=by
 cases R with
 | bs s =>
  have h:gT (Nat.ble q (bl s)) (fN (At s 0 q) fun m=>c (.bs m)) ≠ .bad:=h
  obtain ⟨h1,h2⟩:=Af h
  refine ⟨.bs (At s 0 q),?_,h2.trans (Aj _ _)⟩
  simp only [αV,αR,L6,std]
  rw [Fg (by rw [Nat.zero_add];exact Dt h1)]
 | cells l =>
  show ∃ v,_ ∧ (Be q l fun l=>agF l c)=_
  rw [Bq]
  obtain ⟨v,h1,h2⟩:=agF_of (l.take q) c
  exact ⟨v,by rw [h1,αL_take];rfl,h2⟩
 | ints k l =>
  show ∃ v,_ ∧ (Be q l fun l=>c (.ints k l))=_
  rw [Bq]
  exact ⟨.ints k (l.take q),rfl,rfl⟩
def cpQ (size:Nat) (str:Bool) (d x:FV) (σ:FH) (k:KV):FR:=L4 str size σ x fun m R=>kSN (fun b o n _ _ z=>gT (Nat.beq z size) (fN (Bool.rec n m (Nat.ble m n)) fun cnt=>Nat.rec (k (.n .i64 0) σ) (fun _ _=>pcQ R (Nat.mul cnt size) fun v=>gM σ b fun ob=>woF ob (Nat.mul cnt size) o v fun ob=>pM σ b ob fun σ=>k (.n .i64 cnt) σ) cnt)) (k (.n .i64 0) σ) d
theorem cpQ_sm (size:Nat) (str:Bool) (d x:FV) (σ:FH) (k:KV):Sm (cpQ size str d x σ k) k (Bb std (αH σ) (.copy size str) [αV d,αV x]):=by
 intro h
 unfold cpQ at h ⊢
 obtain ⟨m,R,h1,h2⟩:=Fi h
 rw [h2] at h ⊢
 try dsimp only at h ⊢
 rcases kSN_cases h with ⟨b,o,n,kk,ex,z,rfl,g1⟩ | ⟨rfl,g1⟩
 ·rw [g1] at h ⊢
  obtain ⟨g2,g3⟩:=Af h
  rw [g3,Aj] at h ⊢
  simp only [αV,Bb]
  rw [h1]
  dsimp only
  have e1:(bif std.leN m n then m else n)=(Bool.rec n m (Nat.ble m n):Nat):=by
   show (bif Nat.ble m n then m else n)=_
   cases Nat.ble m n <;> rfl
  rw [e1]
  generalize (Bool.rec n m (Nat.ble m n):Nat)=cnt at h ⊢
  cases cnt with
  | zero =>
   refine ⟨.n .i64 0,σ,?_,rfl⟩
   simp only [cpyA,g2];rfl
  | succ p =>
   have h:(pcQ R (Nat.mul (p + 1) size) fun v=>gM σ b fun ob=>woF ob (Nat.mul (p + 1) size) o v fun ob=>pM σ b ob fun σ=>k (.n .i64 (p + 1)) σ) ≠ .bad:=h
   show ∃ v σ',_ ∧ (pcQ R (Nat.mul (p + 1) size) fun v=>gM σ b fun ob=>woF ob (Nat.mul (p + 1) size) o v fun ob=>pM σ b ob fun σ=>k (.n .i64 (p + 1)) σ)=_
   obtain ⟨v,h3,h4⟩:=pcQ_cases h
   rw [h4] at h ⊢
   try dsimp only at h ⊢
   obtain ⟨ob,_,h5,h6⟩:=Cr h
   rw [h6] at h ⊢
   obtain ⟨ob',g4,g5,g6⟩:=woF_ok _ _ _ _ _ h
   rw [g6]
   dsimp only
   rw [pM_eq]
   refine ⟨.n .i64 (p + 1),_,?_,rfl⟩
   unfold cpyA
   rw [show std.eqN (p + 1) 0=false from rfl,cond_false]
   rw [h5]
   dsimp only
   rw [pM_α,g5,h3]
   rw [Bool.and_eq_true,h3] at g4
   have g4:(αO ob).writeOk std o (L6 std (std.mulN (p + 1) size) (αR R))=true:=g4.1
   rw [g4,g2];rfl
 ·rw [g1]
  refine ⟨.n .i64 0,σ,?_,rfl⟩
  simp only [αV,Nl.av,Bb]
  rw [h1];rfl
/-! Maps. -/
def kyI (x y:FV) (yes no:FR):FR:=FV.rec (motive_1:=fun _=>FR) (motive_2:=fun _=>FR) (fun k a=>kNn (fun k' b=>gK k k' (Bool.rec no yes (Nat.beq a b))) y) (fun k a=>kI (fun k' _=>gK k k' no) (fun k' b=>gK k k' (Bool.rec no yes (Nat.beq a b))) y) (fun _=>.bad) (fun _=>.bad) (fun _ _=>.bad) (fun _ _ _ _ _ _=>.bad) (fun _=>.bad) (fun _=>.bad) (fun _ _ _ _ _=>.bad) (fun _ _ _=>.bad) (fun _ _=>.bad) (fun _=>.bad) (fun _ _=>.bad) (fun _ _=>.bad) (fun _=>.bad) .bad (fun _ _ _ _=>.bad) x
def kyQ (ck:CK) (x y:FV) (yes no:FR):FR:=CK.rec (motive:=fun _=>FR) (kyI x y yes no) (kS (fun a=>kS (fun b=>sEq a b yes no) y) x) (kB (fun a=>kB (fun b=>Bool.rec (Bool.rec yes no b) (Bool.rec no yes b) a) y) x) ck
theorem kyQ_cases {ck:CK} {x y:FV} {yes no:FR} (h:kyQ ck x y yes no ≠ .bad):∃ e,B3 std true [ck] (αV x) (αV y)=(true,e) ∧ kyQ ck x y yes no=bif e then yes else no:=by
 have fl:∀ {a b:AV} {e:Bool},B5 std ck a b=(true,e) → B3 std true [ck] a b=(true,e):=fun {a b e} h=>by
  simp only [B3,Ax,h];cases e <;> rfl
 cases ck with
 | int =>
  cases x with
  | n k a =>
   obtain ⟨k',b,rfl,h1⟩:=Dx (show kNn (fun k' b=>gK k k' (Bool.rec no yes (Nat.beq a b))) y ≠ .bad from h)
   have h:gK k k' (Bool.rec no yes (Nat.beq a b)) ≠ .bad:=by rw [← h1];exact h
   obtain ⟨rfl,h2⟩:=Hb h
   refine ⟨Nat.beq a b,fl ?_,(h1.trans h2).trans (by cases Nat.beq a b <;> rfl)⟩
   simp only [αV,B5,std,decide_true,(Fw a b).1]
  | z k a =>
   rcases kI_cases (show kI (fun k' _=>gK k k' no) (fun k' b=>gK k k' (Bool.rec no yes (Nat.beq a b))) y ≠ .bad from h) with ⟨k',b,rfl,h1⟩ | ⟨k',b,rfl,h1⟩
   ·have h:gK k k' no ≠ .bad:=by rw [← h1];exact h
    obtain ⟨rfl,h2⟩:=Hb h
    refine ⟨false,fl ?_,h1.trans h2⟩
    simp only [αV,B5,std,decide_true,(Fw a b).2.2.1]
   ·have h:gK k k' (Bool.rec no yes (Nat.beq a b)) ≠ .bad:=by rw [← h1];exact h
    obtain ⟨rfl,h2⟩:=Hb h
    refine ⟨Nat.beq a b,fl ?_,(h1.trans h2).trans (by cases Nat.beq a b <;> rfl)⟩
    simp only [αV,B5,std,decide_true,(Fw a b).2.2.2]
  | _=>exact absurd rfl h
 | str =>
  have h:kS (fun a=>kS (fun b=>sEq a b yes no) y) x ≠ .bad:=h
  show ∃ e,_ ∧ kS (fun a=>kS (fun b=>sEq a b yes no) y) x=_
  obtain ⟨a,rfl,h1⟩:=G8 h
  rw [h1] at h ⊢
  obtain ⟨b,rfl,h2⟩:=G8 h
  rw [h2] at h ⊢
  rcases sEq_cases h with ⟨h3,h4⟩ | ⟨h3,h4⟩
  ·exact ⟨true,fl (by simp [αV,B5,std,h3]),h4⟩
  ·exact ⟨false,fl (by simp [αV,B5,std,h3]),h4⟩
 | bool =>
  have h:kB (fun a=>kB (fun b=>Bool.rec (Bool.rec yes no b) (Bool.rec no yes b) a) y) x ≠ .bad:=h
  show ∃ e,_ ∧ kB (fun a=>kB (fun b=>Bool.rec (Bool.rec yes no b) (Bool.rec no yes b) a) y) x=_
  obtain ⟨a,rfl,h1⟩:=Ii h
  rw [h1] at h ⊢
  obtain ⟨b,rfl,h2⟩:=Ii h
  rw [h2]
  refine ⟨a == b,fl rfl,?_⟩
  cases a <;> cases b <;> rfl
def fiQ (ck:CK) (key:FV) (l:List (FV × FV)) (i:Nat) (found:Nat → FV → FR) (nn:FR):FR:=List.rec (motive:=fun _=>Nat → FR) (fun _=>nn) (fun p _ ih i=>Prod.rec (fun x y=>kyQ ck key x (found i y) (fN (Nat.succ i) ih)) p) l i
theorem fiQ_cases {ck:CK} {key:FV} {found:Nat → FV → FR} {nn:FR}:∀ {l:List (FV × FV)} {i:Nat},fiQ ck key l i found nn ≠ .bad → ∃ r:Option (Nat × FV),B4 std true [ck] (αV key) (αP l) i=(true,r.map fun q=>(q.1,αV q.2)) ∧ fiQ ck key l i found nn=(match r with | some q=>found q.1 q.2 | none=>nn)
 | [],i,_=>⟨none,rfl,rfl⟩
 | p :: l,i,h=>by
  obtain ⟨x,y⟩:=p
  have h:kyQ ck key x (found i y) (fN (Nat.succ i) fun i=>fiQ ck key l i found nn) ≠ .bad:=h
  show ∃ r:Option (Nat × FV),_ ∧ kyQ ck key x (found i y) (fN (Nat.succ i) fun i=>fiQ ck key l i found nn)=_
  obtain ⟨e,h1,h2⟩:=kyQ_cases h
  rw [h2] at h ⊢
  simp only [αP,B4]
  rw [h1]
  cases e with
  | true=>exact ⟨some (i,y),rfl,rfl⟩
  | false =>
   dsimp only [cond_false] at h ⊢
   rw [Aj] at h ⊢
   obtain ⟨r,h3,h4⟩:=fiQ_cases (l:=l) (i:=i + 1) h
   refine ⟨r,?_,h4⟩
   rw [h3];rfl
theorem findA_at {sc:Bool} {ks:List CK} {k:AV}:∀ {l:List (AV × AV)} {i j:Nat} {v:AV} {ok:Bool},B4 std sc ks k l i=(ok,some (j,v)) → ∃ m p,j=i + m ∧ l[m]?=some p ∧ p.2=v
 | [],i,j,v,ok,h=>by cases h
 | p :: l,i,j,v,ok,h=>by
  unfold B4 at h
  generalize B3 std sc ks k p.1=r at h
  obtain ⟨o1,e⟩:=r
  cases e with
  | true=>cases h;exact ⟨0,p,rfl,rfl,rfl⟩
  | false =>
   dsimp only at h
   generalize hq:B4 std sc ks k l (i + 1)=q at h
   obtain ⟨o2,r2⟩:=q
   simp only [Prod.mk.injEq] at h
   obtain ⟨_,rfl⟩:=h
   obtain ⟨m,p',h1,h2,h3⟩:=findA_at hq
   exact ⟨m + 1,p',by omega,h2,h3⟩
def fsQ (sc:Bool) (ks:List CK) (key:FV) (l:List (FV × FV)) (found:Nat → FV → FR) (nn:FR):FR:=Prod.rec (fun ok r=>gT ok (Option.rec nn (fun q=>Prod.rec (fun i _=>fN i fun i=>F2 l i fun p=>Prod.rec (fun _ y=>found i y) p) q) r)) (B4 std sc ks (αV key) (αP l) 0)
def fdQ (sc:Bool) (ks:List CK) (key:FV) (l:List (FV × FV)) (found:Nat → FV → FR) (nn:FR):FR:=Bool.rec (fsQ false ks key l found nn) (List.rec (motive:=fun _=>FR) (fsQ true ks key l found nn) (fun ck m _=>List.rec (motive:=fun _=>FR) (fiQ ck key l 0 found nn) (fun _ _ _=>fsQ true ks key l found nn) m) ks) sc
theorem Mi {sc:Bool} {ks:List CK} {key:FV} {l:List (FV × FV)} {found:Nat → FV → FR} {nn:FR} (h:fsQ sc ks key l found nn ≠ .bad):∃ r:Option (Nat × FV),B4 std sc ks (αV key) (αP l) 0=(true,r.map fun q=>(q.1,αV q.2)) ∧ fsQ sc ks key l found nn=(match r with | some q=>found q.1 q.2 | none=>nn):=by
 unfold fsQ at h ⊢
 generalize hf:B4 std sc ks (αV key) (αP l) 0=r at h
 obtain ⟨ok,r⟩:=r
 have h:gT ok (Option.rec nn (fun q=>Prod.rec (fun i _=>fN i fun i=>F2 l i fun p=>Prod.rec (fun _ y=>found i y) p) q) r) ≠ .bad:=h
 show ∃ r',_ ∧ gT ok (Option.rec nn (fun q=>Prod.rec (fun i _=>fN i fun i=>F2 l i fun p=>Prod.rec (fun _ y=>found i y) p) q) r)=_
 obtain ⟨h1,h2⟩:=Af h
 rw [h2] at h ⊢
 subst h1
 cases r with
 | none=>exact ⟨none,rfl,rfl⟩
 | some q =>
  obtain ⟨i,v⟩:=q
  have h:(fN i fun i=>F2 l i fun p=>(Prod.rec (fun _ y=>found i y) p:FR)) ≠ .bad:=h
  show ∃ r',_ ∧ (fN i fun i=>F2 l i fun p=>(Prod.rec (fun _ y=>found i y) p:FR))=_
  rw [Aj] at h ⊢
  obtain ⟨p,h3,h4⟩:=Ed h
  rw [h4]
  obtain ⟨m,p',e1,e2,e3⟩:=findA_at hf
  rw [αP_map,List.getElem?_map] at e2
  rw [Nat.zero_add] at e1
  subst e1
  rw [h3] at e2
  cases e2
  refine ⟨some (i,p.2),?_,rfl⟩
  rw [← e3];rfl
theorem Mk {sc:Bool} {ks:List CK} {key:FV} {l:List (FV × FV)} {found:Nat → FV → FR} {nn:FR} (h:fdQ sc ks key l found nn ≠ .bad):∃ r:Option (Nat × FV),B4 std sc ks (αV key) (αP l) 0=(true,r.map fun q=>(q.1,αV q.2)) ∧ fdQ sc ks key l found nn=(match r with | some q=>found q.1 q.2 | none=>nn):=by
 cases sc with
 | false=>exact Mi h
 | true =>
  cases ks with
  | nil=>exact Mi h
  | cons ck m =>
   cases m with
   | nil=>exact fiQ_cases h
   | cons _ _=>exact Mi h
def kMp (f:List (FV × FV) → FR) (ob:FObj):FR:=FObj.rec (motive:=fun _=>FR) .bad (fun _ _ _=>.bad) (fun _ _ _=>.bad) (fun _ _ _ _=>.bad) (fun l=>f l) .bad ob
theorem I5 {f:List (FV × FV) → FR} {ob:FObj} (h:kMp f ob ≠ .bad):∃ l,ob=.map l ∧ kMp f ob=f l:=by
 cases ob <;> first | exact ⟨_,rfl,rfl⟩ | exact absurd rfl h
theorem αP_append (l m:List (FV × FV)):αP (l ++ m)=αP l ++ αP m:=by rw [αP_map,αP_map,αP_map,List.map_append]
theorem αP_set (l:List (FV × FV)) (i:Nat) (p:FV × FV):αP (l.set i p)=(αP l).set i (αV p.1,αV p.2):=by rw [αP_map,αP_map,List.map_set]
def erK {α:Type} (l:List α) (i:Nat) (k:List α → FR):FR:=List.rec (motive:=fun _=>Nat → (List α → FR) → FR) (fun _ k=>k []) (fun x l ih i k=>Nat.rec (k l) (fun j _=>ih j fun l=>k (x :: l)) i) l i k
theorem erK_eq {α:Type}:∀ (l:List α) (i:Nat) (k:List α → FR),erK l i k=k (l.eraseIdx i)
 | [],i,k=>rfl
 | x :: l,0,k=>rfl
 | x :: l,i + 1,k=>by show erK l i (fun l=>k (x :: l))=_;rw [erK_eq l i];rfl
theorem αP_erase:∀ (l:List (FV × FV)) (i:Nat),αP (l.eraseIdx i)=(αP l).eraseIdx i
 | [],i=>rfl
 | p :: l,0=>rfl
 | p :: l,i + 1=>by rw [List.eraseIdx_cons_succ,αP,αP_erase l i];rfl
def okQ (sc:Bool) (ks:List CK) (key:FV) (r:FR):FR:=gT (B3 std sc ks (αV key) (αV key)).1 r
def muQ (sc:Bool) (ks:List CK) (m key v:FV) (σ:FH) (k:KV):FR:=kM (fun b=>gM σ b (kMp fun l=>okQ sc ks key (fdQ sc ks key l (fun i _=>gT sc (J1 l i (key,v) fun l=>pM σ b (.map l) fun σ=>k (.tup []) σ)) (gT (sc || (αV key).isInts) (Dk l [(key,v)] fun l=>pM σ b (.map l) fun σ=>k (.tup []) σ))))) m
theorem muQ_sm (sc:Bool) (ks:List CK) (m key v:FV) (σ:FH) (k:KV):Sm (muQ sc ks m key v σ k) k (Bb std (αH σ) (.mapUpd sc ks) [αV m,αV key,αV v]):=by
 intro h
 unfold muQ at h ⊢
 obtain ⟨b,rfl,h1⟩:=kM_cases h
 rw [h1] at h ⊢
 obtain ⟨ob,_,h3,h4⟩:=Cr h
 rw [h4] at h ⊢
 obtain ⟨l,rfl,h5⟩:=I5 h
 rw [h5] at h ⊢
 obtain ⟨h6,h7⟩:=Af (show gT _ _ ≠ .bad from h)
 unfold okQ at h ⊢
 rw [h7] at h ⊢
 obtain ⟨r,h8,h9⟩:=Mk h
 rw [h9] at h ⊢
 simp only [αV,Bb,h3,αO]
 rw [h8]
 cases r with
 | none =>
  try dsimp only at h ⊢
  obtain ⟨g1,g2⟩:=Af h
  rw [g2,Co,pM_eq]
  refine ⟨.tup [],_,?_,rfl⟩
  rw [pM_α]
  simp only [αO,αP_append,h6,Option.map_none,Option.isNone_none,Bool.true_and]
  rw [g1];rfl
 | some q =>
  try dsimp only at h ⊢
  obtain ⟨g1,g2⟩:=Af h
  rw [g2] at h ⊢
  subst g1
  rw [Ix] at h ⊢
  by_cases hl:q.1 < l.length
  ·rw [if_pos hl,pM_eq]
   refine ⟨.tup [],_,?_,rfl⟩
   rw [pM_α]
   simp only [αO,αP_set,h6,Option.map_some,Bool.true_and,Bool.true_or]
   rfl
  ·rw [if_neg hl] at h;exact absurd rfl h
def mdQ (sc:Bool) (ks:List CK) (m key:FV) (σ:FH) (k:KV):FR:=FV.rec (motive_1:=fun _=>FR) (motive_2:=fun _=>FR) (fun _ _=>.bad) (fun _ _=>.bad) (fun _=>.bad) (fun _=>.bad) (fun _ _=>.bad) (fun _ _ _ _ _ _=>.bad) (fun b=>gM σ b (kMp fun l=>fdQ sc ks key l (fun i _=>erK l i fun l=>pM σ b (.map l) fun σ=>k (.tup []) σ) (pM σ b (.map l) fun σ=>k (.tup []) σ))) (fun _=>.bad) (fun _ _ _ _ _=>.bad) (fun _ _ _=>.bad) (fun _ _=>.bad) (fun _=>.bad) (fun _ _=>.bad) (fun _ _=>.bad) (fun j=>Nl.rec (motive:=fun _=>FR) .bad .bad .bad (okQ sc ks key (k (.tup []) σ)) .bad .bad j) .bad (fun _ _ _ _=>.bad) m
theorem mdQ_sm (sc:Bool) (ks:List CK) (m key:FV) (σ:FH) (k:KV):Sm (mdQ sc ks m key σ k) k (Bb std (αH σ) (.mapDel sc ks) [αV m,αV key]):=by
 intro h
 cases m with
 | m b =>
  have h:gM σ b (kMp fun l=>fdQ sc ks key l (fun i _=>erK l i fun l=>pM σ b (.map l) fun σ=>k (.tup []) σ) (pM σ b (.map l) fun σ=>k (.tup []) σ)) ≠ .bad:=h
  show ∃ v σ',_ ∧ gM σ b (kMp fun l=>fdQ sc ks key l (fun i _=>erK l i fun l=>pM σ b (.map l) fun σ=>k (.tup []) σ) (pM σ b (.map l) fun σ=>k (.tup []) σ))=_
  obtain ⟨ob,_,h3,h4⟩:=Cr h
  rw [h4] at h ⊢
  obtain ⟨l,rfl,h5⟩:=I5 h
  rw [h5] at h ⊢
  obtain ⟨r,h8,h9⟩:=Mk h
  rw [h9] at h ⊢
  simp only [αV,Bb,h3,αO]
  rw [h8]
  cases r with
  | none =>
   dsimp only
   rw [pM_eq]
   refine ⟨.tup [],_,?_,rfl⟩
   rw [pM_α];rfl
  | some q =>
   dsimp only
   rw [erK_eq,pM_eq]
   refine ⟨.tup [],_,?_,rfl⟩
   rw [pM_α]
   simp only [αO,αP_erase];rfl
 | o j =>
  cases j with
  | map =>
   obtain ⟨h6,h7⟩:=Af (show gT (B3 std sc ks (αV key) (αV key)).1 (k (.tup []) σ) ≠ .bad from h)
   refine ⟨.tup [],σ,?_,h7⟩
   simp only [αV,Nl.av,Bb,h6];rfl
  | _=>exact absurd rfl h
 | _=>exact absurd rfl h
theorem T.set_self {α:Type}:∀ (f:Nat) (t:T α) (n:Nat) (x:α),n < 2 ^ f → t.get n=some x → T.set f t n x=t
 | 0,t,n,x,h,hx=>by
  have hn:n=0:=by simpa using h
  subst hn
  cases t with
  | leaf=>cases hx
  | node v l r=>rw [T.get_eq] at hx;cases hx;rfl
 | f + 1,t,n,x,h,hx=>by
  rw [T.set_succ]
  rw [T.get_eq] at hx
  rw [Nat.pow_succ] at h
  cases t with
  | leaf =>
   exfalso
   cases h0:Nat.beq n 0 <;> rw [h0] at hx
   ·cases h1:Nat.beq (n % 2) 1 <;> rw [h1] at hx <;> cases hx
   ·cases hx
  | node v l r =>
   cases h0:Nat.beq n 0 with
   | true=>rw [h0] at hx;cases hx;rfl
   | false =>
    rw [h0] at hx
    have hn:n ≠ 0:=fun e=>by rw [e] at h0;cases h0
    cases h1:Nat.beq (n % 2) 1 with
    | true =>
     rw [h1] at hx
     have:=T.set_self f l (n / 2) x (by omega) hx
     show T.node v (T.set f l (n / 2) x) r=_
     rw [this]
    | false =>
     rw [h1] at hx
     have:=T.set_self f r (n / 2 - 1) x (by omega) hx
     show T.node v l (T.set f r (n / 2 - 1) x)=_
     rw [this]
def mkQ (v:FV) (σ:FH) (k:KV):FR:=kSl (fun b _ _ c e _=>gT (Nat.ble (Nat.succ b) 1000000) (gM σ b fun ob=>FObj.rec (motive:=fun _=>FR) .bad (fun _ _ t=>gW t (Nat.rec (gT e (k v σ)) (fun _ _=>k v σ) c)) (fun _ _ t=>gW t (Nat.rec (gT e (k v σ)) (fun _ _=>k v σ) c)) (fun _ _ _ t=>gW t (Nat.rec (gT e (k v σ)) (fun _ _=>k v σ) c)) (fun _=>.bad) .bad ob)) v
theorem mkQ_sm (v:FV) (σ:FH) (k:KV):Sm (mkQ v σ k) k (Bb std (αH σ) .mark [αV v]):=by
 intro h
 unfold mkQ at h ⊢
 obtain ⟨b,o,n,c,e,z,rfl,h1⟩:=kSl_cases h
 rw [h1] at h ⊢
 obtain ⟨hb,h2⟩:=Af h
 rw [h2] at h ⊢
 obtain ⟨ob,h0,h3,h4⟩:=Cr h
 rw [h4] at h ⊢
 have hput:(αH σ).put b (αO ob)=αH σ:=by
  have:(αH σ).mem.put b (αO ob)=(αH σ).mem:=T.set_self 20 _ _ _ (by have:=Dt hb;omega) h3
  unfold AH.put;rw [this]
 have key:∀ t:Tl,(αO ob).cellsy=true → (αO ob).isRo=t.isRo → gW t (Nat.rec (gT e (k (.sl b o n c e z) σ)) (fun _ _=>k (.sl b o n c e z) σ) c) ≠ .bad → ∃ v σ',Bb std (αH σ) .mark [αV (.sl b o n c e z)]=(true,αV v,αH σ') ∧ gW t (Nat.rec (gT e (k (.sl b o n c e z) σ)) (fun _ _=>k (.sl b o n c e z) σ) c)=k v σ':=by
  intro t c1 c2 h
  obtain ⟨g1,g2⟩:=Ha h
  rw [g2] at h ⊢
  have fin:(αV (.sl b o n c e z)).sure=true → Bb std (αH σ) .mark [αV (.sl b o n c e z)]=(true,αV (.sl b o n c e z),αH σ):=fun hs=>by
   have hs:(AV.sl b o n c e z).sure=true:=hs
   simp only [αV,Bb,h3]
   rw [c1,c2,g1,hs,hput];rfl
  cases c with
  | zero =>
   obtain ⟨g3,g4⟩:=Af (show gT e (k (.sl b o n 0 e z) σ) ≠ .bad from h)
   exact ⟨_,σ,fin g3,g4⟩
  | succ c=>exact ⟨_,σ,fin rfl,rfl⟩
 cases ob with
 | cells l e' t=>exact key t rfl rfl h
 | bs s e' t=>exact key t rfl rfl h
 | ints k' l e' t=>exact key t rfl rfl h
 | _=>exact absurd rfl h
/-! By their lists of operands. -/
def k1L (l:List FV) (f:FV → FR):FR:=List.rec (motive:=fun _=>FR) .bad (fun x m _=>List.rec (motive:=fun _=>FR) (f x) (fun _ _ _=>.bad) m) l
def k2L (l:List FV) (f:FV → FV → FR):FR:=List.rec (motive:=fun _=>FR) .bad (fun x m _=>k1L m (f x)) l
def k3L (l:List FV) (f:FV → FV → FV → FR):FR:=List.rec (motive:=fun _=>FR) .bad (fun x m _=>k2L m (f x)) l
theorem Dg {l:List FV} {f:FV → FR} (h:k1L l f ≠ .bad):∃ x,l=[x] ∧ k1L l f=f x:=by
 match l,h with
 | [],h=>exact absurd rfl h
 | [x],_=>exact ⟨x,rfl,rfl⟩
 | _ :: _ :: _,h=>exact absurd rfl h
theorem Cv {l:List FV} {f:FV → FV → FR} (h:k2L l f ≠ .bad):∃ x y,l=[x,y] ∧ k2L l f=f x y:=by
 match l,h with
 | [],h=>exact absurd rfl h
 | x :: m,h =>
  obtain ⟨y,rfl,h2⟩:=Dg (show k1L m (f x) ≠ .bad from h)
  exact ⟨x,y,rfl,h2⟩
theorem k3L_cases {l:List FV} {f:FV → FV → FV → FR} (h:k3L l f ≠ .bad):∃ x y z,l=[x,y,z] ∧ k3L l f=f x y z:=by
 match l,h with
 | [],h=>exact absurd rfl h
 | x :: m,h =>
  obtain ⟨y,z,rfl,h2⟩:=Cv (show k2L m (f x) ≠ .bad from h)
  exact ⟨x,y,z,rfl,h2⟩
def xQ:XOp → List FV → FH → KV → FR
 | .append e str size=>fun l σ k=>k2L l fun s x=>apQ e str size s x σ k
 | .copy size str=>fun l σ k=>k2L l fun d x=>cpQ size str d x σ k
 | .appz e kd=>fun l σ k=>k2L l fun s x=>azQ e kd s x σ k
 | .mapUpd sc ks=>fun l σ k=>k3L l fun m key v=>muQ sc ks m key v σ k
 | .mapDel sc ks=>fun l σ k=>k2L l fun m key=>mdQ sc ks m key σ k
 | .mark=>fun l σ k=>k1L l fun v=>mkQ v σ k
theorem xQ_sm (x:XOp) (l:List FV) (σ:FH) (k:KV):Sm (xQ x l σ k) k (Bb std (αH σ) x (αL l)):=by
 cases x with
 | append e str size =>
  intro h
  obtain ⟨s,x,rfl,h2⟩:=Cv (show k2L l (fun s x=>apQ e str size s x σ k) ≠ .bad from h)
  show ∃ v σ',_ ∧ k2L [s,x] (fun s x=>apQ e str size s x σ k)=_
  rw [h2];exact apQ_sm e str size s x σ k (by rw [← h2];exact h)
 | appz e kd =>
  intro h
  obtain ⟨s,x,rfl,h2⟩:=Cv (show k2L l (fun s x=>azQ e kd s x σ k) ≠ .bad from h)
  show ∃ v σ',_ ∧ k2L [s,x] (fun s x=>azQ e kd s x σ k)=_
  rw [h2];exact azQ_sm unpI_zero' e kd s x σ k (by rw [← h2];exact h)
 | copy size str =>
  intro h
  obtain ⟨s,x,rfl,h2⟩:=Cv (show k2L l (fun s x=>cpQ size str s x σ k) ≠ .bad from h)
  show ∃ v σ',_ ∧ k2L [s,x] (fun s x=>cpQ size str s x σ k)=_
  rw [h2];exact cpQ_sm size str s x σ k (by rw [← h2];exact h)
 | mapUpd sc ks =>
  intro h
  obtain ⟨s,x,y,rfl,h2⟩:=k3L_cases (show k3L l (fun m key v=>muQ sc ks m key v σ k) ≠ .bad from h)
  show ∃ v σ',_ ∧ k3L [s,x,y] (fun m key v=>muQ sc ks m key v σ k)=_
  rw [h2];exact muQ_sm sc ks s x y σ k (by rw [← h2];exact h)
 | mapDel sc ks =>
  intro h
  obtain ⟨s,x,rfl,h2⟩:=Cv (show k2L l (fun m key=>mdQ sc ks m key σ k) ≠ .bad from h)
  show ∃ v σ',_ ∧ k2L [s,x] (fun m key=>mdQ sc ks m key σ k)=_
  rw [h2];exact mdQ_sm sc ks s x σ k (by rw [← h2];exact h)
 | mark =>
  intro h
  obtain ⟨s,rfl,h2⟩:=Dg (show k1L l (fun v=>mkQ v σ k) ≠ .bad from h)
  show ∃ v σ',_ ∧ k1L [s] (fun v=>mkQ v σ k)=_
  rw [h2];exact mkQ_sm s σ k (by rw [← h2];exact h)
end
end Go.Proofs.YtfdfdagbeeeomaaDoor.V2
namespace Go.Proofs.YtfdfdagbeeeomaaDoor.V2
open Go
noncomputable section
theorem Sm.gv {r:FR} {k:KV} {o:Bool × AV} {σ:FH} (h:Sv r (fun v=>k v σ) o):Sm r k (match o with | (ok,v)=>(ok,v,αH σ)):=Sm.ofv h
/-! Values alone. -/
def kBsF (f:Nat → FR) (s:FR) (v:FV):FR:=FV.rec (motive_1:=fun _=>FR) (motive_2:=fun _=>FR) (fun _ _=>s) (fun _ _=>s) (fun _=>s) (fun _=>s) (fun _ _=>s) (fun _ _ _ _ _ _=>s) (fun _=>s) (fun _=>s) (fun _ _ _ _ _=>s) (fun _ _ _=>s) (fun _ _=>s) (fun c=>f c) (fun _ _=>s) (fun _ _=>s) (fun _=>s) .bad (fun _ _ _ _=>.bad) v
theorem kBsF_cases (v:FV) (f:Nat → FR) (s:FR):(∃ c,v=.bs c ∧ kBsF f s v=f c) ∨ kBsF f s v=s:=by
 cases v <;> first | exact .inl ⟨_,rfl,rfl⟩ | exact .inr rfl
def isTwo (l:List FV):Bool:=List.rec false (fun _ m _=>List.rec false (fun _ q _=>List.rec true (fun _ _ _=>false) q) m) l
theorem isTwo_eq {l:List FV} (h:isTwo l=true):∃ x y,l=[x,y]:=by
 match l,h with
 | [],h=>cases h
 | [_],h=>cases h
 | [x,y],_=>exact ⟨x,y,rfl⟩
 | _ :: _ :: _ :: _,h=>cases h
def ekB (k:EK) (j:Nl):Bool:=Nl.rec (motive:=fun _=>Bool) false (EK.rec (motive:=fun _=>Bool) false true false false false false k) (EK.rec (motive:=fun _=>Bool) false false true false false false k) (EK.rec (motive:=fun _=>Bool) false false false true false false k) (EK.rec (motive:=fun _=>Bool) false false false false true false k) (EK.rec (motive:=fun _=>Bool) false false false false false true k) j
def F5 (neg:Bool) (k:EK) (x y:FV) (c:FV → FR):FR:=FV.rec (motive_1:=fun _=>FR) (motive_2:=fun _=>FR) (fun _ _=>slV (Al std (.eqv neg k) [αV x,αV y]) c) (fun _ _=>slV (Al std (.eqv neg k) [αV x,αV y]) c) (fun _=>slV (Al std (.eqv neg k) [αV x,αV y]) c) (fun _=>slV (Al std (.eqv neg k) [αV x,αV y]) c) (fun _ _=>slV (Al std (.eqv neg k) [αV x,αV y]) c) (fun _ _ _ _ _ _=>slV (Al std (.eqv neg k) [αV x,αV y]) c) (fun _=>slV (Al std (.eqv neg k) [αV x,αV y]) c) (fun _=>slV (Al std (.eqv neg k) [αV x,αV y]) c) (fun _ _ _ _ _=>slV (Al std (.eqv neg k) [αV x,αV y]) c) (fun _ _ _=>slV (Al std (.eqv neg k) [αV x,αV y]) c) (fun _ _=>slV (Al std (.eqv neg k) [αV x,αV y]) c) (fun _=>slV (Al std (.eqv neg k) [αV x,αV y]) c) (fun _ _=>slV (Al std (.eqv neg k) [αV x,αV y]) c) (fun _ _=>slV (Al std (.eqv neg k) [αV x,αV y]) c) (fun j=>gT (ekB k j) (nlF j x (Bool.rec (c (.b true)) (c (.b false)) neg) (Bool.rec (c (.b false)) (c (.b true)) neg))) .bad (fun _ _ _ _=>.bad) y
theorem nlF_cases {j:Nl} {x:FV} {y n:FR} (h:nlF j x y n ≠ .bad):∃ t:Bool,(∀ k,ekB k j=true → eqvA std k (αV x) (αV (.o j))=(true,t)) ∧ nlF j x y n=bif t then y else n:=by
 cases x with
 | o i=>cases i <;> cases j <;> first | (exact absurd rfl h) | (exact ⟨true,(fun k hk=>by cases k <;> first | rfl | cases hk),rfl⟩)
 | p b o=>cases j <;> first | (exact absurd rfl h) | (exact ⟨false,(fun k hk=>by cases k <;> first | rfl | cases hk),rfl⟩)
 | sl b o n k e z=>cases j <;> first | (exact absurd rfl h) | (exact ⟨false,(fun k hk=>by cases k <;> first | rfl | cases hk),rfl⟩)
 | m b=>cases j <;> first | (exact absurd rfl h) | (exact ⟨false,(fun k hk=>by cases k <;> first | rfl | cases hk),rfl⟩)
 | fn f a b=>cases j <;> first | (exact absurd rfl h) | (exact ⟨false,(fun k hk=>by cases k <;> first | rfl | cases hk),rfl⟩)
 | ifc t v=>cases j <;> first | (exact absurd rfl h) | (exact ⟨false,(fun k hk=>by cases k <;> first | rfl | cases hk),rfl⟩)
 | _=>exact absurd rfl h
theorem eqQ1_sv (neg:Bool) (k:EK) (x y:FV) (c:FV → FR):Sv (F5 neg k x y c) c (Al std (.eqv neg k) [αV x,αV y]):=by
 cases y
 case o j =>
  intro h
  obtain ⟨h1,h2⟩:=Af (show gT (ekB k j) (nlF j x (Bool.rec (c (.b true)) (c (.b false)) neg) (Bool.rec (c (.b false)) (c (.b true)) neg)) ≠ .bad from h)
  have h:gT (ekB k j) (nlF j x (Bool.rec (c (.b true)) (c (.b false)) neg) (Bool.rec (c (.b false)) (c (.b true)) neg)) ≠ .bad:=h
  show ∃ v,_ ∧ gT (ekB k j) (nlF j x (Bool.rec (c (.b true)) (c (.b false)) neg) (Bool.rec (c (.b false)) (c (.b true)) neg))=_
  rw [h2] at h ⊢
  obtain ⟨t,h3,h4⟩:=nlF_cases h
  rw [h4]
  simp only [Al]
  rw [h3 k h1]
  cases t <;> cases neg <;> exact ⟨.b _,rfl,rfl⟩
 all_goals exact Dj (Al std (.eqv neg k) [αV x,αV _]) c
def bdQ (cs:List FV) (ss:List (Nat × Nat)) (args:List FV) (k:List FV → FR) (s:FR):FR:=List.rec (motive:=fun _=>List (Nat × Nat) → List FV → (List FV → FR) → FR) (fun ss cs k=>List.rec (motive:=fun _=>FR) (k cs) (fun _ _ _=>.bad) ss)
 (fun a _ ih ss cs k=>List.rec (motive:=fun _=>FR) .bad (fun p ss _=>Prod.rec (fun i n=>kC (gT (Nat.beq 1 n) (J1 cs i a fun cs=>ih ss cs k)) (fun m=>A9 m 0 fun q=>gT (Nat.beq q n) (A9 cs 0 fun L=>gT (Nat.ble (Nat.add i n) L) (Be i cs fun c1=>Bo (Nat.add i n) cs fun c2=>Dk m c2 fun c2=>Dk c1 c2 fun cs=>ih ss cs k))) s a) p) ss) args ss cs k
theorem set_take {α:Type}:∀ (l:List α) (i:Nat) (a:α),i < l.length → l.set i a=l.take i ++ [a] ++ l.drop (i + 1)
 | [],i,a,h=>by cases h
 | x :: l,0,a,h=>rfl
 | x :: l,i + 1,a,h=>by
  have:=set_take l i a (by simpa using h)
  rw [List.set_cons_succ,this];rfl
theorem bdQ_cases {k:List FV → FR} {s:FR}:∀ (args:List FV) (ss:List (Nat × Nat)) (cs:List FV),bdQ cs ss args k s ≠ .bad → (∃ l,Hm (αL cs) ss (αL args)=(true,αL l) ∧ bdQ cs ss args k s=k l) ∨ bdQ cs ss args k s=s
 | [],[],cs,h=>.inl ⟨cs,rfl,rfl⟩
 | [],_ :: _,cs,h=>absurd rfl h
 | _ :: _,[],cs,h=>absurd rfl h
 | a :: args,(i,n) :: ss,cs,h=>by
  have h:kC (gT (Nat.beq 1 n) (J1 cs i a fun cs=>bdQ cs ss args k s)) (fun m=>A9 m 0 fun q=>gT (Nat.beq q n) (A9 cs 0 fun L=>gT (Nat.ble (Nat.add i n) L) (Be i cs fun c1=>Bo (Nat.add i n) cs fun c2=>Dk m c2 fun c2=>Dk c1 c2 fun cs=>bdQ cs ss args k s))) s a ≠ .bad:=h
  show (∃ l,_ ∧ kC (gT (Nat.beq 1 n) (J1 cs i a fun cs=>bdQ cs ss args k s)) (fun m=>A9 m 0 fun q=>gT (Nat.beq q n) (A9 cs 0 fun L=>gT (Nat.ble (Nat.add i n) L) (Be i cs fun c1=>Bo (Nat.add i n) cs fun c2=>Dk m c2 fun c2=>Dk c1 c2 fun cs=>bdQ cs ss args k s))) s a=_) ∨
   kC (gT (Nat.beq 1 n) (J1 cs i a fun cs=>bdQ cs ss args k s)) (fun m=>A9 m 0 fun q=>gT (Nat.beq q n) (A9 cs 0 fun L=>gT (Nat.ble (Nat.add i n) L) (Be i cs fun c1=>Bo (Nat.add i n) cs fun c2=>Dk m c2 fun c2=>Dk c1 c2 fun cs=>bdQ cs ss args k s))) s a=s
  rcases kC_cases (gT (Nat.beq 1 n) (J1 cs i a fun cs=>bdQ cs ss args k s)) (fun m=>A9 m 0 fun q=>gT (Nat.beq q n) (A9 cs 0 fun L=>gT (Nat.ble (Nat.add i n) L) (Be i cs fun c1=>Bo (Nat.add i n) cs fun c2=>Dk m c2 fun c2=>Dk c1 c2 fun cs=>bdQ cs ss args k s))) s a with ⟨h1,h2⟩ | ⟨m,rfl,h2⟩ | h2
  ·rw [h2] at h ⊢
   obtain ⟨g1,g2⟩:=Af h
   rw [g2] at h ⊢
   rw [Ix] at h ⊢
   by_cases hl:i < cs.length
   ·rw [if_pos hl] at h ⊢
    rcases bdQ_cases args ss _ h with ⟨l,h3,h4⟩ | h4
    ·refine .inl ⟨l,?_,h4⟩
     obtain ⟨s1,_,s3,_⟩:=Kt h1
     have hn:=Nat.eq_of_beq_eq_true g1
     subst hn
     simp only [αL,Hm]
     rw [s1,s3]
     have e1:(Nat.beq [αV a].length 1 && Nat.ble (i + 1) (αL cs).length)=true:=by
      rw [αL_length,Bool.and_eq_true];exact ⟨rfl,by rw [Nat.ble_eq];exact hl⟩
     rw [Bool.true_and,e1]
     dsimp only
     rw [αL_set,set_take _ _ _ (by rw [αL_length];exact hl)] at h3
     exact h3
    ·exact .inr h4
   ·rw [if_neg hl] at h;exact absurd rfl h
  ·rw [h2] at h ⊢
   rw [A0,Nat.zero_add] at h ⊢
   obtain ⟨g1,g2⟩:=Af h
   rw [g2] at h ⊢
   rw [A0,Nat.zero_add] at h ⊢
   obtain ⟨g3,g4⟩:=Af h
   rw [g4] at h ⊢
   rw [Bq,B9,Co,Co] at h ⊢
   rcases bdQ_cases args ss _ h with ⟨l,h3,h4⟩ | h4
   ·refine .inl ⟨l,?_,h4⟩
    have hn:=Nat.eq_of_beq_eq_true g1
    subst hn
    simp only [αL,Hm,αV]
    have e1:((AV.agg (αL m)).known && Nat.beq (AV.agg (αL m)).cells.length m.length && Nat.ble (i + m.length) (αL cs).length)=true:=by
     show (true && Nat.beq (αL m).length m.length && Nat.ble (i + m.length) (αL cs).length)=true
     rw [αL_length,αL_length,Nat.beq_refl];exact g3
    rw [e1]
    dsimp only
    rw [αL_append,αL_append,αL_take,αL_drop] at h3
    rw [List.append_assoc]
    exact h3
   ·exact .inr h4
  ·rw [h2];exact .inr rfl
def buQ (zero:List AV) (spots:List (Nat × Nat)) (l:List FV) (c:FV → FR):FR:=bdQ (βL zero) spots l (fun cs=>agF cs c) (slV (Al std (.build zero spots) (αL l)) c)
def buN (cs:List FV) (zero:List AV) (spots:List (Nat × Nat)) (l:List FV) (σ:FH) (k:KV):FR:=bdQ cs spots l (fun cs=>agF cs fun v=>k v σ) (slV (Al std (.build zero spots) (αL l)) fun v=>k v σ)
def mfG (f:Fn) (n:Nat) (l:List FV) (σ:FH) (k:KV):FR:=mfF f n l fun v=>k v σ
theorem buQ_sv (zero:List AV) (spots:List (Nat × Nat)) (l:List FV) (c:FV → FR):Sv (buQ zero spots l c) c (Al std (.build zero spots) (αL l)):=by
 intro h
 unfold buQ at h ⊢
 rcases bdQ_cases _ _ _ h with ⟨l',h1,h2⟩ | h2
 ·rw [h2]
  obtain ⟨v,h3,h4⟩:=agF_of l' c
  refine ⟨v,?_,h4⟩
  rw [αβL] at h1
  simp only [Al,h1,h3]
 ·rw [h2] at h ⊢;exact Dj _ _ h
def eqB (neg:Bool) (ks:List CK) (x y:FV) (c:FV → FR) (s:FR):FR:=kBsF (fun a=>kBsF (fun b=>gT (ks.all CK.isInt && Nat.beq (bl a) ks.length && Nat.beq (bl b) ks.length && bok a && bok b) (Bool.rec (Bool.rec (c (.b false)) (c (.b true)) neg) (Bool.rec (c (.b true)) (c (.b false)) neg) (Nat.beq a b))) s y) s x
theorem unpI_inj {a b:Nat} (ha:bok a=true) (hb:bok b=true) (h:A5 a=A5 b):a=b:=by
 refine unp_inj ha hb ?_
 unfold A5 at h
 exact (List.map_inj_right fun x y hxy=>UInt8.toNat_inj.1 (Int.ofNat.inj hxy)).1 h
theorem eqB_sv (neg:Bool) (ks:List CK) (x y:FV) (c:FV → FR):Sv (eqB neg ks x y c (slV (Al std (.eqF neg ks) [αV x,αV y]) c)) c (Al std (.eqF neg ks) [αV x,αV y]):=by
 rcases kBsF_cases x (fun a=>kBsF (fun b=>gT (ks.all CK.isInt && Nat.beq (bl a) ks.length && Nat.beq (bl b) ks.length && bok a && bok b) (Bool.rec (Bool.rec (c (.b false)) (c (.b true)) neg) (Bool.rec (c (.b true)) (c (.b false)) neg) (Nat.beq a b))) (slV (Al std (.eqF neg ks) [αV x,αV y]) c) y) (slV (Al std (.eqF neg ks) [αV x,αV y]) c) with ⟨a,rfl,h1⟩ | h1
 ·unfold eqB
  rw [h1]
  rcases kBsF_cases y (fun b=>gT (ks.all CK.isInt && Nat.beq (bl a) ks.length && Nat.beq (bl b) ks.length && bok a && bok b) (Bool.rec (Bool.rec (c (.b false)) (c (.b true)) neg) (Bool.rec (c (.b true)) (c (.b false)) neg) (Nat.beq a b))) (slV (Al std (.eqF neg ks) [αV (.bs a),αV y]) c) with ⟨b,rfl,h2⟩ | h2
  ·rw [h2]
   intro h
   obtain ⟨g1,g2⟩:=Af h
   rw [g2]
   simp only [Bool.and_eq_true] at g1
   obtain ⟨⟨⟨⟨g3,g4⟩,g5⟩,g6⟩,g7⟩:=g1
   simp only [Al,αV,B3,std,A7,g3,g4,g5,decide_true,Bool.true_and]
   cases hb:Nat.beq a b with
   | true =>
    have e:=Nat.eq_of_beq_eq_true hb
    subst e
    cases neg
    ·exact ⟨.b true,by simp [αV],rfl⟩
    ·exact ⟨.b false,by simp [αV],rfl⟩
   | false =>
    have e:A5 a ≠ A5 b:=fun e=>by rw [unpI_inj g6 g7 e,Nat.beq_refl] at hb;cases hb
    cases neg
    ·exact ⟨.b false,by simp [αV,e],rfl⟩
    ·exact ⟨.b true,by simp [αV,e],rfl⟩
  ·rw [h2];exact Dj _ _
 ·unfold eqB
  rw [h1];exact Dj _ _
def mnQ (mx:Bool) (x y:FV) (c:FV → FR) (s:FR):FR:=FV.rec (motive_1:=fun _=>FR) (motive_2:=fun _=>FR) (fun k a=>FV.rec (motive_1:=fun _=>FR) (motive_2:=fun _=>FR) (fun k' b=>gK k k' (Bool.rec (c (.n k (Bool.rec b a mx))) (c (.n k (Bool.rec a b mx))) (Nat.ble (Nat.succ a) b))) (fun _ _=>s) (fun _=>s) (fun _=>s) (fun _ _=>s) (fun _ _ _ _ _ _=>s) (fun _=>s) (fun _=>s) (fun _ _ _ _ _=>s) (fun _ _ _=>s) (fun _ _=>s) (fun _=>s) (fun _ _=>s) (fun _ _=>s) (fun _=>s) .bad (fun _ _ _ _=>.bad) y) (fun _ _=>s) (fun _=>s) (fun _=>s) (fun _ _=>s) (fun _ _ _ _ _ _=>s) (fun _=>s) (fun _=>s) (fun _ _ _ _ _=>s) (fun _ _ _=>s) (fun _ _=>s) (fun _=>s) (fun _ _=>s) (fun _ _=>s) (fun _=>s) .bad (fun _ _ _ _=>.bad) x
theorem mnQ_sv (mx:Bool) (x y:FV) (c:FV → FR) {p:POp} (hp:p=bif mx then .maxI else .minI):Sv (mnQ mx x y c (slV (Al std p [αV x,αV y]) c)) c (Al std p [αV x,αV y]):=by
 cases x with
 | n k a =>
  cases y with
  | n k' b =>
   show Sv (gK k k' (Bool.rec (c (.n k (Bool.rec b a mx))) (c (.n k (Bool.rec a b mx))) (Nat.ble (Nat.succ a) b))) c _
   refine gK_sv fun e=>?_
   subst e hp
   have e1:decide (Int.ofNat a < Int.ofNat b)=Nat.ble (Nat.succ a) b:=(Mo a b).1
   have e2:decide (Int.ofNat b < Int.ofNat a)=Nat.ble (Nat.succ b) a:=(Mo b a).1
   cases mx with
   | true =>
    simp only [Al,αV,minL,std,cond_true,e1]
    cases hb:Nat.ble (Nat.succ a) b
    ·exact .of (c:=c) (.n k a) (by simp [αV])
    ·exact .of (c:=c) (.n k b) (by simp [αV])
   | false =>
    simp only [Al,αV,minL,std,cond_false,e2]
    cases hb:Nat.ble (Nat.succ a) b
    ·have:Nat.ble (Nat.succ b) a=true ∨ a=b:=by
      by_cases h:a=b
      ·exact .inr h
      ·left;rw [Nat.ble_eq]
       have:¬ (Nat.succ a ≤ b):=fun h=>by rw [Nat.ble_eq_true_of_le h] at hb;cases hb
       omega
     rcases this with h | rfl
     ·rw [h];exact .of (c:=c) (.n k b) (by simp [αV])
     ·refine .of (c:=c) (.n k a) ?_
      cases Nat.ble (Nat.succ a) a <;> simp [αV]
    ·have:Nat.ble (Nat.succ b) a=false:=by
      rw [Bool.eq_false_iff];intro h
      have:=Dt h;have:=Dt hb;omega
     rw [this];exact .of (c:=c) (.n k a) (by simp [αV])
  | _=>exact Dj _ _
 | _=>exact Dj _ _
def pQ:POp → List FV → FH → KV → FR
 | .build zero spots=>fun l σ k=>buQ zero spots l fun v=>k v σ
 | .field1 off=>fun l σ k=>k1L l fun x=>f1F off x fun v=>k v σ
 | .fieldN off size=>fun l σ k=>k1L l fun x=>fnF off size x fun v=>k v σ
 | .idxStr=>fun l σ k=>k2L l fun x i=>sAt x i fun v=>k v σ
 | .mkFn f n=>fun l σ k=>mfF f n l fun v=>k v σ
 | .assertT t co z=>fun l σ k=>k1L l fun x=>atF t co (βV z) x fun v=>k v σ
 | .eqv neg ek=>fun l σ k=>k2L l fun x y=>F5 neg ek x y fun v=>k v σ
 | .eqF neg ks=>fun l σ k=>k2L l fun x y=>eqB neg ks x y (fun v=>k v σ) (slV (Al std (.eqF neg ks) [αV x,αV y]) fun v=>k v σ)
 | .minI=>fun l σ k=>Bool.rec (slV (Al std .minI (αL l)) fun v=>k v σ) (k2L l fun x y=>mnQ false x y (fun v=>k v σ) (slV (Al std .minI [αV x,αV y]) fun v=>k v σ)) (isTwo l)
 | .maxI=>fun l σ k=>Bool.rec (slV (Al std .maxI (αL l)) fun v=>k v σ) (k2L l fun x y=>mnQ true x y (fun v=>k v σ) (slV (Al std .maxI [αV x,αV y]) fun v=>k v σ)) (isTwo l)
 | .idxArr len size agg=>fun l σ k=>slV (Al std (.idxArr len size agg) (αL l)) fun v=>k v σ
 | .same=>fun l σ k=>slV (Al std .same (αL l)) fun v=>k v σ
 | .capSl=>fun l σ k=>slV (Al std .capSl (αL l)) fun v=>k v σ
theorem pQ_sm (x:POp) (l:List FV) (σ:FH) (k:KV):Sm (pQ x l σ k) k (match Al std x (αL l) with | (ok,v)=>(ok,v,αH σ)):=by
 cases x with
 | build zero spots=>exact Sm.gv (buQ_sv zero spots l _)
 | field1 off =>
  intro h
  obtain ⟨x,rfl,h2⟩:=Dg (show k1L l (fun x=>f1F off x fun v=>k v σ) ≠ .bad from h)
  show ∃ v σ',_ ∧ k1L [x] (fun x=>f1F off x fun v=>k v σ)=_
  rw [h2];exact Sm.gv (f1F_sv off x fun v=>k v σ) (by rw [← h2];exact h)
 | fieldN off size =>
  intro h
  obtain ⟨x,rfl,h2⟩:=Dg (show k1L l (fun x=>fnF off size x fun v=>k v σ) ≠ .bad from h)
  show ∃ v σ',_ ∧ k1L [x] (fun x=>fnF off size x fun v=>k v σ)=_
  rw [h2];exact Sm.gv (fnF_sv off size x fun v=>k v σ) (by rw [← h2];exact h)
 | idxStr =>
  intro h
  obtain ⟨x,i,rfl,h2⟩:=Cv (show k2L l (fun x i=>sAt x i fun v=>k v σ) ≠ .bad from h)
  show ∃ v σ',_ ∧ k2L [x,i] (fun x i=>sAt x i fun v=>k v σ)=_
  rw [h2];exact Sm.gv (sAt_sv x i fun v=>k v σ) (by rw [← h2];exact h)
 | mkFn f n=>exact Sm.gv (mfF_sv f n l _)
 | assertT t co z =>
  intro h
  have h:(k1L l fun x=>atF t co (βV z) x fun v=>k v σ) ≠ .bad:=h
  show ∃ v σ',_ ∧ (k1L l fun x=>atF t co (βV z) x fun v=>k v σ)=_
  obtain ⟨x,rfl,h2⟩:=Dg h
  rw [h2] at h ⊢
  exact Sm.gv (atF_sv t co (βV z) z (αβ z) x fun v=>k v σ) h
 | eqv neg ek =>
  intro h
  obtain ⟨x,i,rfl,h2⟩:=Cv (show k2L l (fun x i=>F5 neg ek x i fun v=>k v σ) ≠ .bad from h)
  show ∃ v σ',_ ∧ k2L [x,i] (fun x i=>F5 neg ek x i fun v=>k v σ)=_
  rw [h2];exact Sm.gv (eqQ1_sv neg ek x i fun v=>k v σ) (by rw [← h2];exact h)
 | eqF neg ks =>
  intro h
  obtain ⟨x,i,rfl,h2⟩:=Cv (show k2L l (fun x y=>eqB neg ks x y (fun v=>k v σ) (slV (Al std (.eqF neg ks) [αV x,αV y]) fun v=>k v σ)) ≠ .bad from h)
  show ∃ v σ',_ ∧ k2L [x,i] (fun x y=>eqB neg ks x y (fun v=>k v σ) (slV (Al std (.eqF neg ks) [αV x,αV y]) fun v=>k v σ))=_
  rw [h2];exact Sm.gv (eqB_sv neg ks x i fun v=>k v σ) (by rw [← h2];exact h)
 | minI =>
  show Sm (Bool.rec (slV (Al std .minI (αL l)) fun v=>k v σ) (k2L l fun x y=>mnQ false x y (fun v=>k v σ) (slV (Al std .minI [αV x,αV y]) fun v=>k v σ)) (isTwo l):FR) k _
  cases hb:isTwo l with
  | false=>exact Sm.gv (Dj _ _)
  | true =>
   obtain ⟨x,y,rfl⟩:=isTwo_eq hb
   exact Sm.gv (mnQ_sv false x y (fun v=>k v σ) rfl)
 | maxI =>
  show Sm (Bool.rec (slV (Al std .maxI (αL l)) fun v=>k v σ) (k2L l fun x y=>mnQ true x y (fun v=>k v σ) (slV (Al std .maxI [αV x,αV y]) fun v=>k v σ)) (isTwo l):FR) k _
  cases hb:isTwo l with
  | false=>exact Sm.gv (Dj _ _)
  | true =>
   obtain ⟨x,y,rfl⟩:=isTwo_eq hb
   exact Sm.gv (mnQ_sv true x y (fun v=>k v σ) rfl)
 | idxArr len size agg=>exact Sm.gv (Dj _ _)
 | same=>exact Sm.gv (Dj _ _)
 | capSl=>exact Sm.gv (Dj _ _)
/-! What reads the memory. -/
def s2Q (x:FV) (σ:FH) (c:FV → FR):FR:=L4 false 1 σ x fun _ R=>kR (fun s=>c (.s s)) (fun l=>List.rec (motive:=fun _=>FR) (c (.s 1)) (fun _ _ _=>.bad) l) (fun _ _=>slV (Bn std (αH σ) .sl2str [αV x]) c) R
theorem istr_unpI (s:Nat):std.istr (A5 s)=unp s:=by
 show (A5 s).map (fun n=>UInt8.ofNat n.toNat)=unp s
 unfold A5
 rw [List.map_map]
 conv=>rhs;rw [← List.map_id (unp s)]
 congr 1
 funext b
 simp
theorem s2Q_sv (x:FV) (σ:FH) (c:FV → FR):Sv (s2Q x σ c) c (Bn std (αH σ) .sl2str [αV x]):=by
 intro h
 unfold s2Q at h ⊢
 obtain ⟨n,R,h1,h2⟩:=Fi h
 rw [h2] at h ⊢
 cases R with
 | bs s =>
  refine ⟨.s s,?_,rfl⟩
  simp only [Bn]
  rw [h1]
  simp only [αR,αV,istr_unpI,decide_true,Bool.and_true]
 | cells l =>
  cases l with
  | nil =>
   refine ⟨.s 1,?_,rfl⟩
   simp only [Bn]
   rw [h1]
   simp only [αR,αL,αV]
   rfl
  | cons _ _=>exact absurd rfl h
 | ints k l=>exact Dj _ _ h
def lmQ (x:FV) (σ:FH) (c:FV → FR):FR:=FV.rec (motive_1:=fun _=>FR) (motive_2:=fun _=>FR) (fun _ _=>.bad) (fun _ _=>.bad) (fun _=>.bad) (fun _=>.bad) (fun _ _=>.bad) (fun _ _ _ _ _ _=>.bad) (fun b=>gM σ b (kMp fun l=>A9 l 0 fun n=>c (.n .i64 n))) (fun _=>.bad) (fun _ _ _ _ _=>.bad) (fun _ _ _=>.bad) (fun _ _=>.bad) (fun _=>.bad) (fun _ _=>.bad) (fun _ _=>.bad) (fun j=>Nl.rec (motive:=fun _=>FR) .bad .bad .bad (c (.n .i64 0)) .bad .bad j) .bad (fun _ _ _ _=>.bad) x
theorem lmQ_sv (x:FV) (σ:FH) (c:FV → FR):Sv (lmQ x σ c) c (Bn std (αH σ) .lenMap [αV x]):=by
 intro h
 cases x with
 | m b =>
  have h:gM σ b (kMp fun l=>A9 l 0 fun n=>c (.n .i64 n)) ≠ .bad:=h
  show ∃ v,_ ∧ gM σ b (kMp fun l=>A9 l 0 fun n=>c (.n .i64 n))=_
  obtain ⟨ob,_,h3,h4⟩:=Cr h
  rw [h4] at h ⊢
  obtain ⟨l,rfl,h5⟩:=I5 h
  rw [h5,A0,Nat.zero_add]
  refine ⟨.n .i64 l.length,?_,rfl⟩
  simp only [αV,Bn,h3,αO,αP_map,List.length_map]
  rfl
 | o j =>
  cases j with
  | map=>exact ⟨.n .i64 0,rfl,rfl⟩
  | _=>exact absurd rfl h
 | _=>exact absurd rfl h
def lkQ (sc:Bool) (ks:List CK) (co:Bool) (zero:FV) (m key:FV) (σ:FH) (c:FV → FR):FR:=FV.rec (motive_1:=fun _=>FR) (motive_2:=fun _=>FR) (fun _ _=>.bad) (fun _ _=>.bad) (fun _=>.bad) (fun _=>.bad) (fun _ _=>.bad) (fun _ _ _ _ _ _=>.bad) (fun b=>gM σ b (kMp fun l=>fdQ sc ks key l (fun _ v=>Bool.rec (c v) (c (.tup [v,.b true])) co) (Bool.rec (c zero) (c (.tup [zero,.b false])) co))) (fun _=>.bad) (fun _ _ _ _ _=>.bad) (fun _ _ _=>.bad) (fun _ _=>.bad) (fun _=>.bad) (fun _ _=>.bad) (fun _ _=>.bad) (fun j=>Nl.rec (motive:=fun _=>FR) .bad .bad .bad (okQ sc ks key (Bool.rec (c zero) (c (.tup [zero,.b false])) co)) .bad .bad j) .bad (fun _ _ _ _=>.bad) m
theorem lkQ_sv (sc:Bool) (ks:List CK) (co:Bool) (zero:FV) (m key:FV) (σ:FH) (c:FV → FR):Sv (lkQ sc ks co zero m key σ c) c (Bn std (αH σ) (.lookup sc ks co (αV zero)) [αV m,αV key]):=by
 intro h
 cases m with
 | m b =>
  have h:gM σ b (kMp fun l=>fdQ sc ks key l (fun _ v=>Bool.rec (c v) (c (.tup [v,.b true])) co) (Bool.rec (c zero) (c (.tup [zero,.b false])) co)) ≠ .bad:=h
  show ∃ v,_ ∧ gM σ b (kMp fun l=>fdQ sc ks key l (fun _ v=>Bool.rec (c v) (c (.tup [v,.b true])) co) (Bool.rec (c zero) (c (.tup [zero,.b false])) co))=_
  obtain ⟨ob,_,h3,h4⟩:=Cr h
  rw [h4] at h ⊢
  obtain ⟨l,rfl,h5⟩:=I5 h
  rw [h5] at h ⊢
  obtain ⟨r,h8,h9⟩:=Mk h
  rw [h9]
  simp only [αV,Bn,h3,αO]
  rw [h8]
  cases r with
  | none=>cases co <;> exact ⟨_,rfl,rfl⟩
  | some q=>cases co <;> exact ⟨_,rfl,rfl⟩
 | o j =>
  cases j with
  | map =>
   obtain ⟨h6,h7⟩:=Af (show gT (B3 std sc ks (αV key) (αV key)).1 (Bool.rec (c zero) (c (.tup [zero,.b false])) co) ≠ .bad from h)
   have h7:lkQ sc ks co zero (.o .map) key σ c=Bool.rec (c zero) (c (.tup [zero,.b false])) co:=h7
   rw [h7]
   simp only [αV,Nl.av,Bn,h6]
   cases co <;> exact ⟨_,rfl,rfl⟩
  | _=>exact absurd rfl h
 | _=>exact absurd rfl h
def lkG (sc:Bool) (ks:List CK) (co:Bool) (zero:FV) (m key:FV) (σ:FH) (k:KV):FR:=lkQ sc ks co zero m key σ fun v=>k v σ
def lQ:LOp → List FV → FH → KV → FR
 | .sl2str=>fun l σ k=>k1L l fun x=>s2Q x σ fun v=>k v σ
 | .lenMap=>fun l σ k=>k1L l fun x=>lmQ x σ fun v=>k v σ
 | .lookup sc ks co z=>fun l σ k=>k2L l fun m key=>lkQ sc ks co (βV z) m key σ fun v=>k v σ
theorem lQ_sm (x:LOp) (l:List FV) (σ:FH) (k:KV):Sm (lQ x l σ k) k (match Bn std (αH σ) x (αL l) with | (ok,v)=>(ok,v,αH σ)):=by
 cases x with
 | sl2str =>
  intro h
  obtain ⟨x,rfl,h2⟩:=Dg (show k1L l (fun x=>s2Q x σ fun v=>k v σ) ≠ .bad from h)
  show ∃ v σ',_ ∧ k1L [x] (fun x=>s2Q x σ fun v=>k v σ)=_
  rw [h2];exact Sm.gv (s2Q_sv x σ fun v=>k v σ) (by rw [← h2];exact h)
 | lenMap =>
  intro h
  obtain ⟨x,rfl,h2⟩:=Dg (show k1L l (fun x=>lmQ x σ fun v=>k v σ) ≠ .bad from h)
  show ∃ v σ',_ ∧ k1L [x] (fun x=>lmQ x σ fun v=>k v σ)=_
  rw [h2];exact Sm.gv (lmQ_sv x σ fun v=>k v σ) (by rw [← h2];exact h)
 | lookup sc ks co z =>
  intro h
  have h:(k2L l fun m key=>lkQ sc ks co (βV z) m key σ fun v=>k v σ) ≠ .bad:=h
  show ∃ v σ',_ ∧ (k2L l fun m key=>lkQ sc ks co (βV z) m key σ fun v=>k v σ)=_
  obtain ⟨m,key,rfl,h2⟩:=Cv h
  rw [h2] at h ⊢
  have:=lkQ_sv sc ks co (βV z) m key σ fun v=>k v σ
  rw [αβ] at this
  exact Sm.gv this h
/-! New blocks. -/
def slN (r:Bool × (Nat → AV) × AObj) (σ:FH) (k:KV):FR:=Prod.rec (fun ok q=>Prod.rec (fun v o=>gT ok (fO (βO o) fun o=>nM σ o fun b σ=>fV (βV (v b)) fun w=>k w σ)) q) r
theorem slN_sm (r:Bool × (Nat → AV) × AObj) (σ:FH) (k:KV):Sm (slN r σ k) k (match r with | (ok,v,o)=>(ok && Nat.blt (αH σ).next 1000000,v (αH σ).next,(αH σ).new o)):=by
 obtain ⟨ok,v,o⟩:=r
 intro h
 have h:gT ok (fO (βO o) fun o=>nM σ o fun b σ=>fV (βV (v b)) fun w=>k w σ) ≠ .bad:=h
 show ∃ w σ',_ ∧ gT ok (fO (βO o) fun o=>nM σ o fun b σ=>fV (βV (v b)) fun w=>k w σ)=_
 obtain ⟨rfl,h2⟩:=Af h
 rw [h2,D6] at h ⊢
 obtain ⟨h3,σ',h4,h5⟩:=Et h
 rw [h5,Fu]
 refine ⟨βV (v σ.next),σ',?_,rfl⟩
 dsimp only
 rw [αβ,h4,αβO,h3];rfl
def onF (l:List FV) (r s:FR):FR:=List.rec r (fun v _ ih=>kC ih (fun _=>s) s v) l
theorem onF_cases:∀ (l:List FV) (r s:FR),((αL l).all (fun a=>a.known && Nat.beq a.cells.length 1)=true ∧ (αL l).flatMap AV.cells=αL l ∧ onF l r s=r) ∨ onF l r s=s
 | [],r,s=>.inl ⟨rfl,rfl,rfl⟩
 | v :: l,r,s=>by
  show (_ ∧ _ ∧ kC (onF l r s) (fun _=>s) s v=r) ∨ kC (onF l r s) (fun _=>s) s v=s
  rcases kC_cases (onF l r s) (fun _=>s) s v with ⟨h1,h2⟩ | ⟨_,_,h2⟩ | h2
  ·rw [h2]
   obtain ⟨s1,_,s3,_⟩:=Kt h1
   rcases onF_cases l r s with ⟨h3,h4,h5⟩ | h5
   ·refine .inl ⟨?_,?_,h5⟩
    ·simp only [αL,List.all_cons,s1,s3,h3];rfl
    ·simp only [αL,List.flatMap_cons,s3,h4];rfl
   ·exact .inr h5
  ·rw [h2];exact .inr rfl
  ·rw [h2];exact .inr rfl
def bsQ (e:TypeId) (size n:Nat) (l:List FV) (σ:FH) (k:KV):FR:=Bool.rec (slN (Bt std (.bslice e size n) (αL l)) σ k) (onF l (A9 l 0 fun q=>gT (Nat.beq q n) (ofQ l e .exact fun o=>nM σ o fun b σ=>k (.sl b 0 n n true 1) σ)) (slN (Bt std (.bslice e size n) (αL l)) σ k)) (Nat.beq size 1)
theorem bsQ_sm (e:TypeId) (size n:Nat) (l:List FV) (σ:FH) (k:KV):Sm (bsQ e size n l σ k) k (match Bt std (.bslice e size n) (αL l) with | (ok,v,o)=>(ok && Nat.blt (αH σ).next 1000000,v (αH σ).next,(αH σ).new o)):=by
 unfold bsQ
 cases hs:Nat.beq size 1 with
 | false=>exact slN_sm _ _ _
 | true =>
  have hs:=Nat.eq_of_beq_eq_true hs
  subst hs
  show Sm (onF l (A9 l 0 fun q=>gT (Nat.beq q n) (ofQ l e .exact fun o=>nM σ o fun b σ=>k (.sl b 0 n n true 1) σ)) (slN (Bt std (.bslice e 1 n) (αL l)) σ k)) k _
  rcases onF_cases l (A9 l 0 fun q=>gT (Nat.beq q n) (ofQ l e .exact fun o=>nM σ o fun b σ=>k (.sl b 0 n n true 1) σ)) (slN (Bt std (.bslice e 1 n) (αL l)) σ k) with ⟨h1,h2,h3⟩ | h3
  ·rw [h3]
   intro h
   rw [A0,Nat.zero_add] at h ⊢
   obtain ⟨g1,g2⟩:=Af h
   rw [g2] at h ⊢
   obtain ⟨o,g3,g4⟩:=ofQ_of l e .exact fun o=>nM σ o fun b σ=>k (.sl b 0 n n true 1) σ
   rw [g4] at h ⊢
   obtain ⟨g5,σ',g6,g7⟩:=Et h
   rw [g7]
   refine ⟨.sl σ.next 0 n n true 1,σ',?_,rfl⟩
   simp only [Bt]
   rw [h2,h1,αL_length,Nat.mul_one,g1,← g3,g6,g5];rfl
  ·rw [h3];exact slN_sm _ _ _
def ssQ (e:TypeId) (x:FV) (σ:FH) (k:KV):FR:=kS (fun s=>nM σ (.bs s e .exact) fun b σ=>fN (bl s) fun n=>k (.sl b 0 n n false 1) σ) x
theorem ssQ_sm (e:TypeId) (x:FV) (σ:FH) (k:KV):Sm (ssQ e x σ k) k (match Bt std (.str2sl e) [αV x] with | (ok,v,o)=>(ok && Nat.blt (αH σ).next 1000000,v (αH σ).next,(αH σ).new o)):=by
 intro h
 unfold ssQ at h ⊢
 obtain ⟨s,rfl,h1⟩:=G8 h
 rw [h1] at h ⊢
 obtain ⟨h2,σ',h3,h4⟩:=Et h
 rw [h4,Aj]
 refine ⟨.sl σ.next 0 (bl s) (bl s) false 1,σ',?_,rfl⟩
 simp only [αV,Bt]
 rw [h2,h3]
 simp only [std,Bz]
 rfl
def zbQ (zero:List AV):Bool:=match zero with
 | [.int .u8 (.ofNat 0)]=>true
 | _=>false
theorem zbQ_eq {zero:List AV} (h:zbQ zero=true):zero=[.int .u8 0]:=by
 unfold zbQ at h
 split at h
 ·rfl
 ·cases h
def msQ (e:TypeId) (size:Nat) (zero:List AV) (l:List FV) (σ:FH) (k:KV):FR:=Bool.rec (slN (Bt std (.makeSl e size zero) (αL l)) σ k) (k2L l fun n c=>kNn (fun _ n=>kNn (fun _ c=>gT (Nat.ble n c) (gT (Nat.ble c 1000000) (fN (Ce c) fun z=>nM σ (.bs z e .exact) fun b σ=>k (.sl b 0 n c true size) σ))) c) n) (zbQ zero)
theorem msQ_sm (e:TypeId) (size:Nat) (zero:List AV) (l:List FV) (σ:FH) (k:KV):Sm (msQ e size zero l σ k) k (match Bt std (.makeSl e size zero) (αL l) with | (ok,v,o)=>(ok && Nat.blt (αH σ).next 1000000,v (αH σ).next,(αH σ).new o)):=by
 unfold msQ
 cases hz:zbQ zero with
 | false=>exact slN_sm _ _ _
 | true =>
  have hz:=zbQ_eq hz
  subst hz
  intro h
  have h:(k2L l fun n c=>kNn (fun _ n=>kNn (fun _ c=>gT (Nat.ble n c) (gT (Nat.ble c 1000000) (fN (Ce c) fun z=>nM σ (.bs z e .exact) fun b σ=>k (.sl b 0 n c true size) σ))) c) n) ≠ .bad:=h
  show ∃ v σ',_ ∧ (k2L l fun n c=>kNn (fun _ n=>kNn (fun _ c=>gT (Nat.ble n c) (gT (Nat.ble c 1000000) (fN (Ce c) fun z=>nM σ (.bs z e .exact) fun b σ=>k (.sl b 0 n c true size) σ))) c) n)=_
  obtain ⟨x,y,rfl,h2⟩:=Cv h
  rw [h2] at h ⊢
  obtain ⟨_,n,rfl,h3⟩:=Dx h
  rw [h3] at h ⊢
  obtain ⟨_,c,rfl,h4⟩:=Dx h
  rw [h4] at h ⊢
  obtain ⟨g1,g2⟩:=Af h
  rw [g2] at h ⊢
  obtain ⟨g3,g4⟩:=Af h
  rw [g4,Aj] at h ⊢
  obtain ⟨g5,σ',g6,g7⟩:=Et h
  rw [g7]
  refine ⟨.sl σ.next 0 n c true size,σ',?_,rfl⟩
  simp only [αL,αV,Bt]
  rw [g5]
  have e1:(std.le 0 (Int.ofNat n) && std.le (Int.ofNat n) (Int.ofNat c) && std.leN (std.ton (Int.ofNat c)) 1000000)=true:=by
   show (decide ((0:Int) ≤ Int.ofNat n) && decide (Int.ofNat n ≤ Int.ofNat c) && Nat.ble c 1000000)=true
   rw [dec0,(cb_leq n c).1,g1,g3];rfl
  rw [e1,g6]
  simp only [Bool.and_self,Prod.mk.injEq,true_and]
  refine ⟨rfl,?_⟩
  congr 1
  show C8 std c e [.int .u8 0]=.ints .u8 (A5 (Ce c)) e .exact
  rw [(unpI_zero c).1]
  rfl
def mmQ (l:List FV) (σ:FH) (k:KV):FR:=List.rec (motive:=fun _=>FR) (nM σ (.map []) fun b σ=>k (.m b) σ) (fun _ _ _=>slN (Bt std .makeMap (αL l)) σ k) l
theorem mmQ_sm (l:List FV) (σ:FH) (k:KV):Sm (mmQ l σ k) k (match Bt std .makeMap (αL l) with | (ok,v,o)=>(ok && Nat.blt (αH σ).next 1000000,v (αH σ).next,(αH σ).new o)):=by
 cases l with
 | cons _ _=>exact slN_sm _ _ _
 | nil =>
  intro h
  have h:(nM σ (.map []) fun b σ=>k (.m b) σ) ≠ .bad:=h
  show ∃ v σ',_ ∧ (nM σ (.map []) fun b σ=>k (.m b) σ)=_
  obtain ⟨h2,σ',h3,h4⟩:=Et h
  rw [h4]
  refine ⟨.m σ.next,σ',?_,rfl⟩
  simp only [αL,Bt]
  rw [h2,h3];rfl
def nQ:NOp → List FV → FH → KV → FR
 | .bslice e size n=>bsQ e size n
 | .str2sl e=>fun l σ k=>k1L l fun x=>ssQ e x σ k
 | .makeSl e size zero=>msQ e size zero
 | .makeMap=>mmQ
theorem nQ_sm (x:NOp) (l:List FV) (σ:FH) (k:KV):Sm (nQ x l σ k) k (match Bt std x (αL l) with | (ok,v,o)=>(ok && Nat.blt (αH σ).next 1000000,v (αH σ).next,(αH σ).new o)):=by
 cases x with
 | bslice e size n=>exact bsQ_sm e size n l σ k
 | str2sl e =>
  intro h
  obtain ⟨x,rfl,h2⟩:=Dg (show k1L l (fun x=>ssQ e x σ k) ≠ .bad from h)
  show ∃ v σ',_ ∧ k1L [x] (fun x=>ssQ e x σ k)=_
  rw [h2];exact ssQ_sm e x σ k (by rw [← h2];exact h)
 | makeSl e size zero=>exact msQ_sm e size zero l σ k
 | makeMap=>exact mmQ_sm l σ k
end
end Go.Proofs.YtfdfdagbeeeomaaDoor.V2
