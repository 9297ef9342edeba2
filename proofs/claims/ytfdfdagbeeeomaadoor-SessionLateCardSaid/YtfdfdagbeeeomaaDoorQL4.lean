/- Part 4 of the proof: texts of the proof. -/
import Derived.Test.YtfdfdagbeeeomaaDoorQL3
import Derived.RangeFuncLeaves
import Derived.Sort.LoopGhostIn
import Derived.Maps.RangeRun
namespace Go.Proofs.YtfdfdagbeeeomaaDoor.V2
open Go
noncomputable section
def J4 (vals:T AV):List (Option Nat) → Nat → T AV → T AV
 | [],_,env=>env
 | d :: l,i,env=>J4 vals l (i + 1) (Hz env d (F1 vals i))
section
variable {P:Program} {Γ:Gam} {pu:FuncId → Bool} {ops:Array Oper} {steps:List (Nat × CRow)} {env:T AV} {ρ0:Ren} {σ0:AH} {W0:World} {a0:Act}
variable {nt G:Nat} {B:List (List Nat)} {order:List Nat} {rc:Nat → List Nat}
theorem putAll_er {ρ:Ren} {vals:T AV} {vs:Nat → Value} (hd:∀ k d,Bh ops k=some d → d < nt) (hv:∀ k,k < ops.size → VR ρ (F1 vals k) (vs k)):∀ (n i:Nat) (env:T AV) (a:Act),i + n=ops.size → ER G nt ρ env a →
  ER G nt ρ (J4 vals ((List.range' i n).map (Bh ops)) i env) (Cg ops a vs (List.range' i n))
 | 0,i,env,a,_,h=>h
 | n + 1,i,env,a,he,h=>by
  rw [List.range'_succ,List.map_cons]
  exact putAll_er hd hv n (i + 1) _ _ (by omega) (h.put (hd i) (hv i (by omega)))
structure DInv (Γ:Gam) (pu:FuncId → Bool) (ops:Array Oper) (steps:List (Nat × CRow)) (B:List (List Nat)) (env:T AV) (ρ0:Ren) (σ0:AH) (W0:World) (a0:Act) (rc:Nat → List Nat) (listed:Array Bool) (a:Act) (W:World):Prop where
 size:listed.size=ops.size
 closed:∀ i,lst listed i=true → ∀ k ∈ B.getD i [],lst listed k=true
 ex:∃ done rest vals σ ρ vs bl,DSt Γ pu ops steps env ρ0 σ0 W0 a0 rc bl listed a W done rest vals σ ρ vs ∧ ∀ p,rest.head?=some p → kd pu p.2=.S
theorem wpAnyIn_of_inv {F:Fence} {n:Nat} {P:Program} {ops:Array Oper} {Q:Exit → Act → World → Prop} (J:Array Bool → Act → World → Prop)
  (hstep:∀ listed a w,J listed a w → ∀ i ∈ Region.ready .any ops listed,wpOpIn F n P ops Q i (J (listed.setIfInBounds i true)) a w)
  (hend:∀ listed a w,J listed a w → Region.ready .any ops listed=[] → Q .normal a w) :
  ∀ (fuel:Nat) (listed:Array Bool) (a:Act) (w:World),listed.size=ops.size → (listed.toList.filter (! ·)).length ≤ fuel → J listed a w → wpAnyIn F n P .any ops Q fuel listed a w:=by
 intro fuel
 induction fuel with
 | zero =>
  intro listed a w hs hc hJ
  have hr:Region.ready .any ops listed=[]:=by
   apply List.eq_nil_iff_forall_not_mem.2
   intro i hi
   have h0:=(mem_ready.1 hi).1
   have hlt:i < listed.size:=by
    rcases Nat.lt_or_ge i listed.size with h | h
    ·exact h
    ·simp [Array.getElem?_eq_none h] at h0
   have:(false:Bool) ∈ listed.toList.filter (! ·):=List.mem_filter.2 ⟨by
    have e:listed[i]=false:=by simpa [hlt] using h0
    rw [← e];exact Array.getElem_mem_toList hlt,rfl⟩
   have:=List.length_pos_of_mem this
   omega
  exact ⟨hr,hend _ _ _ hJ hr⟩
 | succ fuel ih =>
  intro listed a w hs hc hJ
  refine ⟨hend _ _ _ hJ,fun i hi=>?_⟩
  refine wpOpIn_mono (fun a' w' hJ'=>ih _ a' w' (by simpa using hs) ?_ hJ') (hstep _ _ _ hJ i hi)
  have h0:=(mem_ready.1 hi).1
  have hlt:i < listed.size:=by
   rcases Nat.lt_or_ge i listed.size with h | h
   ·exact h
   ·simp [Array.getElem?_eq_none h] at h0
  have e:listed[i]=false:=by simpa [hlt] using h0
  have hcount:∀ (l:List Bool) (i:Nat) (h:i < l.length),l[i]=false → ((l.set i true).filter (! ·)).length + 1=(l.filter (! ·)).length:=by
   intro l
   induction l with
   | nil=>intro i h;simp at h
   | cons x l ih =>
    intro i h hx
    cases i with
    | zero=>simp at hx;subst hx;simp
    | succ i =>
     have:=ih i (by simpa using h) (by simpa using hx)
     cases x <;> simp at this ⊢ <;> omega
  have:=hcount listed.toList i (by simpa using hlt) (by simpa using e)
  rw [Array.toList_setIfInBounds]
  omega
theorem kd_nd {P:Program} {nt:Nat} {rf:Operand → Ref} {ops:Array Oper} {o:Oper} {r:CRow} {pu:FuncId → Bool} (hrow:Jm P nt rf ops o=some r) (hk:kd pu r=.A):∀ c,o.op ≠ .defer c:=fun c e=>by
 obtain ⟨_,h2,_,_⟩:=Cj hrow
 rw [e] at h2
 have h3:r.op=.aop .badop:=(Option.some.inj (show some (COp.aop .badop)=some r.op from h2)).symm
 unfold kd at hk
 rw [h3] at hk
 revert hk
 simp only [kdA]
 repeat' split
 all_goals (intro h;cases h)
theorem drawn_any {Y:List Yl} {ro:Option Nat} (hΓ:GamOk P G Γ Y) (hY0:YInv Y ρ0 σ0 W0) (hpu:Jh Γ pu) (hst:Ej P nt G ops B order=some steps) (hord:Gq pu B rc [] steps=true) (hall:(List.range ops.size).all (Js steps)=true) (hsm:ops.size ≤ 1000000)
  (hchk:I7 ops B []=true) (hr0:HR ρ0 σ0 W0) (he0:ER G nt ρ0 env a0) (hok:(evD std Γ env steps rc steps .leaf σ0).1=true) {Q:Exit → Act → World → Prop}
  (hQ:∀ ρ' a' W',HR ρ' (evD std Γ env steps rc steps .leaf σ0).2.2 W' → ER G nt ρ' (J4 (evD std Γ env steps rc steps .leaf σ0).2.1 (ops.toList.map (·.dst)) 0 env) a' → Stp σ0.next ρ0 σ0 W0 ρ' (evD std Γ env steps rc steps .leaf σ0).2.2 W' → a'.defers=a0.defers → Q .normal a' W') :
  wpAnyIn (fen ro) 0 P .any ops Q ops.size (Array.replicate ops.size false) a0 W0:=by
 have hchk0:=hchk
 simp only [I7,Bool.and_eq_true] at hchk
 obtain ⟨⟨⟨⟨⟨_,cE⟩,cB⟩,cS⟩,cT⟩,cN⟩:=hchk
 have hE:∀ i k,k ∈ B.getD i [] → i < ops.size → k < i ∧ ∃ o,ops[i]?=some o ∧ ∃ e ∈ o.after,Region.binds .any e=true ∧ (k=e.on ∨ k ∈ B.getD e.on []):=by
  intro i k hk hi
  have:=List.all_eq_true.1 (List.all_eq_true.1 cE i (List.mem_range.2 hi)) k hk
  cases ho:ops[i]? with
  | none=>rw [ho] at this;simp at this
  | some o =>
   rw [ho] at this
   simp only [Bool.and_eq_true,decide_eq_true_eq] at this
   obtain ⟨e,he,hb⟩:∃ e ∈ o.after,(Region.binds .any e && (k == e.on || (B.getD e.on []).contains k))=true:=by
    obtain ⟨j,hj,hb⟩:=Array.any_eq_true.1 this.2
    exact ⟨_,Array.getElem_mem hj,hb⟩
   simp only [Bool.and_eq_true,Bool.or_eq_true,beq_iff_eq,List.contains_iff_mem] at hb
   exact ⟨this.1,o,rfl,e,he,hb.1,hb.2⟩
 have hS:∀ i k o,ops[i]?=some o → k < ops.size → k ≠ i → k ∉ B.getD i [] → i ∉ B.getD k [] → ∀ t,Bh ops k=some t → t ∉ o.looksAt ops ∧ o.dst ≠ some t:=by
  intro i k o ho hk hne h1 h2 t ht
  have hi:i < ops.size:=(Array.getElem?_eq_some_iff.1 ho).1
  have:=List.all_eq_true.1 cS i (List.mem_range.2 hi)
  rw [ho] at this
  have:=List.all_eq_true.1 this k (List.mem_range.2 hk)
  rw [ht] at this
  simp only [Bool.or_eq_true,beq_iff_eq,List.contains_iff_mem,Bool.and_eq_true,Bool.not_eq_true',beq_eq_false_iff_ne] at this
  rcases this with ((h | h) | h) | h
  ·exact absurd h hne
  ·exact absurd h h1
  ·exact absurd h h2
  ·exact ⟨fun hm=>by have:=List.contains_iff_mem.2 hm;rw [this] at h;simp at h,h.2⟩
 have hdl:∀ k d,Bh ops k=some d → d < nt:=by
  intro k d hk
  unfold Bh at hk
  cases ho:ops[k]? with
  | none=>rw [ho] at hk;cases hk
  | some o =>
   rw [ho] at hk
   have hks:k < ops.size:=(Array.getElem?_eq_some_iff.1 ho).1
   obtain ⟨r,hr⟩:=hasId_iff.1 (List.all_eq_true.1 hall k (List.mem_range.2 hks))
   obtain ⟨o',ho',hrow⟩:=(Ci hst).2 _ hr
   rw [ho] at ho';cases ho'
   exact (Cj hrow).2.2.2 d hk
 refine wpAnyIn_of_inv (DInv Γ pu ops steps B env ρ0 σ0 W0 a0 rc) ?_ ?_ ops.size _ a0 _ (by simp) (by simp) ?_
 ·-- one operation more
  intro listed a W hJ i hi
  obtain ⟨hun,o,ho,hready⟩:=mem_ready.1 hi
  have hilt:i < ops.size:=(Array.getElem?_eq_some_iff.1 ho).1
  have hils:i < listed.size:=by rw [hJ.size];exact hilt
  have hnl:lst listed i=false:=by
   have:listed[i]=false:=by simpa [hils] using hun
   simp [lst,hils,this]
  have hBi:∀ k ∈ B.getD i [],lst listed k=true:=by
   intro k hk
   obtain ⟨_,o',ho',e,he,hb,hor⟩:=hE i k hk hilt
   rw [ho] at ho';cases ho'
   have hon:=hready e he hb
   rcases hor with rfl | hk2
   ·exact hon
   ·exact hJ.closed _ hon k hk2
  obtain ⟨done,rest,vals,σ,ρ,vs,bl,hD,hhead⟩:=hJ.ex
  have hiB:∀ k,lst listed k=true → i ∉ B.getD k []:=fun k hk hik=>by
   have:=hJ.closed k hk i hik;rw [hnl] at this;cases this
  have hsort:B.getD i []=(List.range ops.size).filter fun k=>(B.getD i []).contains k:=by
   have:=List.all_eq_true.1 cT i (List.mem_range.2 hilt)
   exact beq_iff_eq.1 this
  have hsame:∀ t ∈ o.looksAt ops,a.tmps[t]?=(Cg ops a0 vs (B.getD i [])).tmps[t]?:=by
   intro t ht
   rw [hD.act,hsort]
   refine actOf_at ops vs t _ _ _ (fun k hk hd=>?_) a0 a0 rfl rfl
   have hklt:=List.mem_range.1 hk
   by_cases hkB:k ∈ B.getD i []
   ·rw [hBi k hkB,List.contains_iff_mem.2 hkB]
   ·rw [show (B.getD i []).contains k=false from by rw [Bool.eq_false_iff];exact fun h=>hkB (List.contains_iff_mem.1 h)]
    rw [Bool.eq_false_iff]
    intro hkl
    have hki:k ≠ i:=fun e=>by rw [e,hnl] at hkl;cases hkl
    exact (hS i k o ho hklt hki hkB (hiB k hkl) t hd).1 ht
  have he0':ER G nt ρ env a0:=he0.sub (hD.stp.sub hr0)
  have hev:∀ x,VR ρ (evR env vals (rfD G ops (B.getD i []) o x)) (a.eval x):=by
   intro x
   cases x with
   | const v=>exact Gw ρ v
   | global g=>exact he0'.ev (.global g)
   | func f=>exact he0'.ev (.func f)
   | tmp t =>
    simp only [rfD]
    cases hc:(o.looksAt ops).contains t
    ·trivial
    ·simp only [cond_true,Act.eval]
     have hs:=hsame t (List.contains_iff_mem.1 hc)
     rw [Array.getD_eq_getD_getElem?,hs]
     cases hl:Ig ops t (B.getD i []) with
     | some k =>
      simp only [evR]
      have hkB:=Md hl
      have hdk:Bh ops k=some t:=by
       have:∀ {l:List Nat} {k:Nat},Ig ops t l=some k → Bh ops k=some t:=by
        intro l
        induction l with
        | nil=>intro k h;cases h
        | cons j l ih =>
         intro k h
         rw [lastW_cons] at h
         split at h
         ·rename_i i hi;cases h;exact ih hi
         ·cases hd:Bh ops j == some t <;> rw [hd] at h <;> cases h
          exact beq_iff_eq.1 hd
       exact this hl
      rw [Kh _ _ (by rw [he0.size];exact hdl k t hdk),hl]
      exact hD.vals_ k (hBi k hkB)
     | none =>
      simp only [evR]
      have hkeep:(Cg ops a0 vs (B.getD i [])).tmps[t]?=a0.tmps[t]?:=by
       by_cases hts:t < a0.tmps.size
       ·rw [Kh _ _ hts,hl]
       ·have h1:(Cg ops a0 vs (B.getD i [])).tmps.size ≤ t:=by rw [actOf_size];exact Nat.le_of_not_lt hts
        rw [Array.getElem?_eq_none h1,Array.getElem?_eq_none (Nat.le_of_not_lt hts)]
      rw [hkeep,← Array.getD_eq_getD_getElem?]
      cases ht:env.get t with
      | none=>trivial
      | some v=>exact he0'.at_ t v ht
  have hdst:Bh ops i=o.dst:=by simp [Bh,ho]
  have hact:∀ v,a.put o.dst v=Cg ops a0 (upd vs i v) ((List.range ops.size).filter (lst (listed.setIfInBounds i true))):=fun v=>by
   rw [actOf_insert ops a0 vs ops.size i _ (lst listed) _ hilt hnl (I4 hils),← hD.act,hdst]
   intro k hik hkn hkl t ht hkt
   rw [hdst] at ht
   refine (hS i k o ho hkn (by omega) (fun hkB=>?_) (hiB k hkl) t hkt).2 ht
   have:=(hE i k hkB hilt).1
   omega
  have hsz':(listed.setIfInBounds i true).size=ops.size:=by simpa using hJ.size
  have hcl':∀ j,lst (listed.setIfInBounds i true) j=true → ∀ k ∈ B.getD j [],lst (listed.setIfInBounds i true) k=true:=by
   intro j hj k hk
   rw [I4 hils] at hj ⊢
   rcases Bool.or_eq_true_iff.1 hj with h | h
   ·rw [hJ.closed j h k hk];rfl
   ·rw [beq_iff_eq.1 h] at hk;rw [hBi k hk];rfl
  have hlf:∀ j,lst (listed.setIfInBounds i true) j=false → j ≠ i ∧ lst listed j=false:=fun j hj=>by
   rw [I4 hils,Bool.or_eq_false_iff] at hj
   exact ⟨by have:=hj.2;rwa [beq_eq_false_iff_ne] at this,hj.1⟩
  have hlt':∀ j,lst (listed.setIfInBounds i true) j=true → j=i ∨ lst listed j=true:=fun j hj=>by
   rw [I4 hils] at hj
   rcases Bool.or_eq_true_iff.1 hj with h | h
   ·exact .inr h
   ·exact .inl (beq_iff_eq.1 h)
  obtain ⟨r,hrs⟩:=hasId_iff.1 (List.all_eq_true.1 hall i (List.mem_range.2 hilt))
  obtain ⟨o',ho',hrow⟩:=(Ci hst).2 _ hrs
  simp only at ho' hrow
  rw [ho] at ho';cases ho'
  unfold wpOpIn
  simp only [ho]
  have hs0:=hD.stp.next
  rw [hD.split] at hrs
  rcases List.mem_append.1 hrs with hdn | hre
  ·-- one that waits
   have hpend:=hD.pend _ hdn hnl
   have hvals:∀ {ρ':Ren} {v:Value},Sub ρ ρ' → VR ρ' (F1 vals i) v → ∀ j,lst (listed.setIfInBounds i true) j=true → VR ρ' (F1 vals j) (upd vs i v j):=by
    intro ρ' v hsub hv j hj
    by_cases hji:j=i
    ·subst hji;rw [upd_self];exact hv
    ·rw [upd_ne _ _ hji];exact (hD.vals_ j ((hlt' j hj).resolve_left hji)).mono hsub
   have hnext:∀ {ρ':Ren} {W':World} {v:Value},HR ρ' σ W' → Stp σ0.next ρ0 σ0 W0 ρ' σ W' → Sub ρ ρ' → VR ρ' (F1 vals i) v → (∀ p ∈ done,kd pu p.2=.A → p.1 ≠ i → lst listed p.1=false → ρ (bl p.1)=none → ρ' (bl p.1)=none) →
     DInv Γ pu ops steps B env ρ0 σ0 W0 a0 rc (listed.setIfInBounds i true) (a.put o.dst v) W':=by
    intro ρ' W' v h1 h2 h3 h4 h5
    refine ⟨hsz',hcl',done,rest,vals,σ,ρ',upd vs i v,bl,⟨hD.split,fun p hp hk=>by rw [I4 hils,hD.barS p hp hk];rfl,fun j hj=>?_,hD.eval,hD.ok,h1,h2,hvals h3 h4,hact v,fun p hp hl=>?_,fun p hp q hq hk hk' hne hl hl'=>hD.apart p hp q hq hk hk' hne (hlf _ hl).2 (hlf _ hl').2⟩,hhead⟩
    ·rcases hlt' j hj with rfl | h
     ·exact ⟨r,hdn⟩
     ·exact hD.only j h
    ·obtain ⟨hne,hl⟩:=hlf _ hl
     have hp0:=hD.pend p hp hl
     refine ⟨hp0.val,fun hk=>?_⟩
     obtain ⟨σ',e1,e2,e3,e4,e5,e6⟩:=hp0.new hk
     exact ⟨σ',e1,e2,e3,h5 p hp hk hne hl e4,e5,e6⟩
   cases hk:kd pu r with
   | S=>have:=hD.barS _ hdn hk;rw [hnl] at this;cases this
   | A =>
    obtain ⟨σ',e1,e2,e3,e4,e5,e6⟩:=hpend.new hk
    simp only at e1 e2 e3 e4 e5
    obtain ⟨hw,v,x,n,s,hrun,hO,hval⟩:=A_run hrow hk hev e6 W
    rw [if_pos hw]
    refine ⟨fun _ _=>trivial,?_⟩
    rw [Oper.semAt_eq _ _ _ (kd_nd hrow hk),hrun,Oper.uponIn_value]
    obtain ⟨ρ',f1,f2,f3,f4⟩:=(hD.hr.drew n).fill e4 e3 e5 hO
    refine hnext f4 ⟨fun m hm=>(f2 m (by omega)).trans (hD.stp.ext m hm),fun m c d hc=>?_,hs0,fun m ob hm hn=>hD.stp.keep m ob hm hn,fun c hc hn=>?_,hD.stp.tape,hD.stp.os,hD.stp.output,by have:=hD.stp.size;simp;omega,fun m c d ob hm hρ hc ho hr=>let ⟨q1,q2⟩:=hD.stp.ro m c d ob hm hρ hc ho hr;⟨q1,by
     have hcW:c < W.heap.size:=Nat.lt_of_lt_of_le hc hD.stp.size
     rw [← q2]
     show (W.heap.push x)[c]?=_
     rw [Array.getElem?_push,if_neg (by omega)]⟩⟩ f3 ?_ (fun p hp hkp hne hl hn=>?_)
    ·by_cases hmb:m=bl i
     ·subst hmb;rw [f1] at hc;cases hc;exact .inr hD.stp.size
     ·rw [f2 m hmb] at hc;exact hD.stp.img m c d hc
    ·have hcW:c < W.heap.size:=Nat.lt_of_lt_of_le hc hD.stp.size
     have:=hD.stp.frame c hc hn
     rw [← this]
     show (W.heap.push x)[c]?=_
     rw [Array.getElem?_push,if_neg (by omega)]
    ·rw [e1]
     exact hval ρ' _ f1
    ·rw [f2 _ (hD.apart p hp (i,r) hdn hkp hk hne hl hnl)]
     exact hn
   | P =>
    obtain ⟨e1,e2,e3⟩:=hpend.val (.inl hk)
    refine Fb hΓ (hY0.step (fun y hy=>(hY0 y hy).lt) hD.stp) he0'.glob hrow hev hD.hr e1 fun v W' ρ' h1 h2 h3=>?_
    simp only at e2 e3
    rw [e3] at h1 h2
    rw [e2] at h3
    exact hnext h1 (hD.stp.trans h2 hs0) (h2.sub hD.hr) h3 fun p hp hkp _ hl hn=>by
     obtain ⟨_,_,_,f3,_⟩:=(hD.pend p hp hl).new hkp
     rw [h2.ext _ f3];exact hn
   | L =>
    obtain ⟨e1,e2,e3⟩:=hpend.val (.inr hk)
    refine Fb hΓ (hY0.step (fun y hy=>(hY0 y hy).lt) hD.stp) he0'.glob hrow hev hD.hr e1 fun v W' ρ' h1 h2 h3=>?_
    simp only at e2 e3
    rw [e3] at h1 h2
    rw [e2] at h3
    exact hnext h1 (hD.stp.trans h2 hs0) (h2.sub hD.hr) h3 fun p hp hkp _ hl hn=>by
     obtain ⟨_,_,_,f3,_⟩:=(hD.pend p hp hl).new hkp
     rw [h2.ext _ f3];exact hn
  ·-- the bar
   have hisHead:∃ rest',rest=(i,r) :: rest':=by
    cases hrr:rest with
    | nil=>rw [hrr] at hre;cases hre
    | cons s rest' =>
     rw [hrr] at hre
     rcases List.mem_cons.1 hre with h | h
     ·exact ⟨rest',by rw [h]⟩
     ·exfalso
      obtain ⟨l1,l2,e⟩:=List.append_of_mem h
      have hsS:=hhead s (by rw [hrr];rfl)
      have hs':steps=(done ++ s :: l1) ++ (i,r) :: l2:=by rw [hD.split,hrr,e];simp
      have hsB:=(Fl hord hs').2.2.1 s (by simp) hsS
      have hsl:=hBi _ hsB
      obtain ⟨r',hr'⟩:=hD.only _ hsl
      have hs2:steps=done ++ s :: rest':=by rw [hD.split,hrr]
      exact (Fl hord hs2).2.1 _ hr' rfl
   obtain ⟨rest',rfl⟩:=hisHead
   have hkS:kd pu r=.S:=hhead _ rfl
   obtain ⟨hB,hdis,hbar,hLs⟩:=Fl hord hD.split
   have hps:(i,r) ∈ steps:=by rw [hD.split];simp
   have hi20:=(id_small hst hsm hps).2
   simp only at hi20 hB hdis hbar hLs
   have hok':=hD.ok
   rw [Fv] at hok'
   generalize hg:Aw std Γ (evR env vals) σ r=g at hok'
   obtain ⟨ok,v0,σ1⟩:=g
   simp only at hok'
   generalize hrk:Jn std Γ env steps (vals.put i v0) σ1 (rc i)=rk at hok'
   generalize hrest:evD std Γ env steps rc rest' (vals.put i v0) σ1=rr at hok'
   obtain ⟨okr,xr⟩:=rr
   simp only [Bool.and_eq_true] at hok'
   obtain ⟨⟨rfl,rfl⟩,rfl⟩:=hok'
   have hgok:(Aw std Γ (evR env vals) σ r).1=true:=by rw [hg]
   refine Fb hΓ (hY0.step (fun y hy=>(hY0 y hy).lt) hD.stp) he0'.glob hrow hev hD.hr hgok fun v W' ρ' h1 h2 h3=>?_
   rw [hg] at h1 h2 h3
   simp only at h1 h2 h3
   have hsub:=h2.sub hD.hr
   have hvalj:∀ j,j ≠ i → F1 (vals.put i v0) j=F1 vals j:=fun j hj=>by rw [Gy hi20,if_neg hj]
   have hagree:∀ q ∈ done,∀ x ∈ q.2.refs,evR env (vals.put i v0) x=evR env vals x:=fun q hq=>evR_agree hi20 (done_refs hst hord hD.split (List.mem_append_left _ hq))
   have hnew:DSt Γ pu ops steps env ρ0 σ0 W0 a0 rc bl (listed.setIfInBounds i true) (a.put o.dst v) W' (done ++ [(i,r)]) rest' (vals.put i v0) σ1 ρ' (upd vs i v):=by
    refine ⟨by rw [hD.split];simp,fun p hp hk=>?_,fun j hj=>?_,?_,by rw [hrest],h1,hD.stp.trans h2 hs0,fun j hj=>?_,hact v,fun q hq hl=>?_,fun p hp q hq hk hk' hne hl hl'=>?_⟩
    ·rw [I4 hils]
     rcases List.mem_append.1 hp with hp | hp
     ·rw [hD.barS p hp hk];rfl
     ·rw [List.mem_singleton] at hp;subst hp;simp
    ·rcases hlt' j hj with rfl | h
     ·exact ⟨r,by simp⟩
     ·obtain ⟨r',hr'⟩:=hD.only j h;exact ⟨r',List.mem_append_left _ hr'⟩
    ·rw [Kb _ _ _ _ _ _ hD.eval,Fv,hg];simp only [hrk];rfl
    ·by_cases hji:j=i
     ·subst hji;rw [upd_self,Gy hi20,if_pos rfl];exact h3
     ·rw [upd_ne _ _ hji,hvalj j hji];exact (hD.vals_ j ((hlt' j hj).resolve_left hji)).mono hsub
    ·obtain ⟨hne,hl⟩:=hlf _ hl
     have hqd:q ∈ done:=by
      rcases List.mem_append.1 hq with h | h
      ·exact h
      ·rw [List.mem_singleton] at h;subst h;exact absurd rfl hne
     have hp0:=hD.pend q hqd hl
     refine ⟨fun hk=>?_,fun hk=>?_⟩
     ·rcases hk with hk | hk
      ·obtain ⟨e1,e2,_⟩:=hp0.val (.inl hk)
       rw [Dy (hagree q hqd),kd_P (A:=std) hpu (fun v=>lit_evR (env:=env) vals v) hk σ1 σ,hvalj _ hne]
       exact ⟨e1,e2,rfl⟩
      ·rcases hLs hkS q hqd hk with hin | hin
       ·exfalso
        have:=hBi _ hin
        rw [hl] at this;cases this
       ·obtain ⟨q',hq',e1,e2,e3⟩:=rechk_mem hrk q.1 hin
        have hqs:q ∈ steps:=by rw [hD.split];exact List.mem_append_left _ hqd
        obtain ⟨oq,hoq,hrq⟩:=(Ci hst).2 q hqs
        obtain ⟨oq',hoq',hrq'⟩:=(Ci hst).2 q' hq'
        rw [e1,hoq] at hoq'
        cases hoq'
        rw [e1,hrq] at hrq'
        simp only [Option.some.injEq] at hrq'
        rw [← hrq'] at e2 e3
        exact ⟨e2,e3,(kd_L (Γ:=Γ) hk (σ:=σ1) (σ':=σ1) (fun _ _ h=>h) e2).2⟩
     ·obtain ⟨σ',e1,e2,e3,e4,e5,e6⟩:=hp0.new hk
      rw [hvalj _ hne,J7 (hagree q hqd),J0 (hagree q hqd)]
      refine ⟨σ',e1,e2,Nat.lt_of_lt_of_le e3 h2.next,by rw [h2.ext _ e3];exact e4,h2.keep _ _ e3 e4 e5 (objA_tail e6 hk),by rw [Dy (hagree q hqd)];exact e6⟩
    ·obtain ⟨hn1,hl⟩:=hlf _ hl
     obtain ⟨hn2,hl'⟩:=hlf _ hl'
     have hd:∀ q ∈ done ++ [(i,r)],q.1 ≠ i → q ∈ done:=fun q hq hne=>by
      rcases List.mem_append.1 hq with h | h
      ·exact h
      ·rw [List.mem_singleton] at h;subst h;exact absurd rfl hne
     exact hD.apart p (hd p hp hn1) q (hd q hq hn2) hk hk' hne hl hl'
   obtain ⟨d',r',v',s',bl',k1,k2⟩:=seg hpu hst hord hsm rest' _ _ _ _ hnew
   exact ⟨hsz',hcl',d',r',v',s',ρ',_,bl',k1,k2⟩
 ·-- the end
  intro listed a W hJ hr
  have hallL:∀ n,n ≤ ops.size → ∀ k,k < n → lst listed k=true:=by
   intro n
   induction n with
   | zero=>intro _ k hk;omega
   | succ n ih =>
    intro hn k hk
    have ih:=ih (by omega)
    by_cases hkn:k < n
    ·exact ih k hkn
    ·obtain rfl:k=n:=by omega
     cases hl:lst listed k with
     | true=>rfl
     | false =>
      have hks:k < listed.size:=by rw [hJ.size];omega
      obtain ⟨o,ho⟩:∃ o,ops[k]?=some o:=⟨_,Array.getElem?_eq_getElem (by omega)⟩
      have:k ∈ Region.ready .any ops listed:=by
       refine mem_ready.2 ⟨?_,o,ho,fun e he hb=>?_⟩
       ·have:listed[k]=false:=by simpa [lst,hks] using hl
        simp [hks,this]
       ·have:=List.all_eq_true.1 cB k (List.mem_range.2 (by omega))
        rw [ho] at this
        have:=Array.all_eq_true_iff_forall_mem.1 this e he
        rw [hb] at this
        simp at this
        exact ih e.on this
      rw [hr] at this;cases this
  have hallL:=hallL ops.size (Nat.le_refl _)
  obtain ⟨done,rest,vals,σ,ρ,vs,bl,hD,hhead⟩:=hJ.ex
  have hrest:rest=[]:=by
   cases hrr:rest with
   | nil=>rfl
   | cons p rest' =>
    exfalso
    have hs':steps=done ++ p :: rest':=by rw [hD.split,hrr]
    have hps:p ∈ steps:=by rw [hs'];simp
    obtain ⟨r',hr'⟩:=hD.only _ (hallL _ (id_small hst hsm hps).1)
    exact (Fl hord hs').2.1 _ hr' rfl
  subst hrest
  have hsd:steps=done:=by rw [hD.split];simp
  have hev:=hD.eval
  rw [← hsd] at hev
  have hfil:(List.range ops.size).filter (lst listed)=List.range ops.size:=List.filter_eq_self.2 fun k hk=>hallL k (List.mem_range.1 hk)
  have hact:=hD.act
  rw [hfil] at hact
  have hdd:ops.toList.map (·.dst)=(List.range' 0 ops.size).map (Bh ops):=by
   apply List.ext_getElem?
   intro j
   rw [List.getElem?_map,List.getElem?_map,Array.getElem?_toList]
   by_cases hj:j < ops.size
   ·rw [List.getElem?_range' hj]
    simp [Bh,hj]
   ·rw [Array.getElem?_eq_none (by omega),List.getElem?_eq_none (by simp;omega)];rfl
  refine hQ ρ a W (by rw [hev];exact hD.hr) ?_ (by rw [hev];exact hD.stp) (by rw [hact,actOf_defers])
  rw [hev,hdd,hact,List.range_eq_range']
  exact putAll_er hdl (fun k hk=>hD.vals_ k (hallL k hk)) ops.size 0 env a0 (by omega) (he0.sub (hD.stp.sub hr0))
 ·-- the begin
  have hf:∀ i,lst (Array.replicate ops.size false) i=false:=fun i=>by
   unfold lst;rw [Array.getD_eq_getD_getElem?,Array.getElem?_replicate];split <;> rfl
  have hstart:DSt Γ pu ops steps env ρ0 σ0 W0 a0 rc (fun _=>0) (Array.replicate ops.size false) a0 W0 [] steps .leaf σ0 ρ0 (fun _=>undef):=by
   refine ⟨rfl,fun p hp=>(by cases hp),fun i hi=>(by rw [hf] at hi;cases hi),rfl,hok,hr0,Stp.refl (Nat.le_refl _),fun i hi=>(by rw [hf] at hi;cases hi),?_,fun p hp=>(by cases hp),fun p hp=>(by cases hp)⟩
   have:(List.range ops.size).filter (lst (Array.replicate ops.size false))=[]:=List.filter_eq_nil_iff.2 fun k hk=>by rw [hf];simp
   rw [this];rfl
  obtain ⟨d',r',v',s',bl',k1,k2⟩:=seg hpu hst hord hsm steps [] _ _ _ hstart
  exact ⟨by simp,fun i hi=>(by rw [hf] at hi;cases hi),d',r',v',s',ρ0,_,bl',k1,k2⟩
end
end
end Go.Proofs.YtfdfdagbeeeomaaDoor.V2
namespace Go.Proofs.YtfdfdagbeeeomaaDoor.V2
open Go
noncomputable section
def sameTl:Tl → Tl → Bool
 | .exact,.exact=>true
 | .more,.more=>true
 | .ro,.ro=>true
 | _,_=>false
theorem sameTl_eq {a b:Tl} (h:sameTl a b=true):a=b:=by cases a <;> cases b <;> first | rfl | cases h
def samesP (A:Ar):List (AV × AV) → List (AV × AV) → Bool
 | [],[]=>true
 | p :: l,q :: m=>same A p.1 q.1 && same A p.2 q.2 && samesP A l m
 | _,_=>false
theorem samesP_eq:∀ {a b:List (AV × AV)},samesP std a b=true → a=b
 | [],[],_=>rfl
 | (p1,p2) :: l,(q1,q2) :: m,h=>by
  simp only [samesP,Bool.and_eq_true] at h
  rw [Iy _ _ h.1.1,Iy _ _ h.1.2,samesP_eq h.2]
 | [],_ :: _,h=>by cases h
 | _ :: _,[],h=>by cases h
def sameO (A:Ar):AObj → AObj → Bool
 | .dead,.dead=>true
 | .cells l e t,.cells l' e' t'=>Ht A l l' && Nat.beq e e' && sameTl t t'
 | .ints k l e t,.ints k' l' e' t'=>decide (k=k') && A.ieq l l' && Nat.beq e e' && sameTl t t'
 | .map l,.map l'=>samesP A l l'
 | .hid,.hid=>true
 | _,_=>false
theorem sameO_eq {a b:AObj} (h:sameO std a b=true):a=b:=by
 cases a <;> cases b <;> try (cases h;done)
 ·rfl
 ·simp only [sameO,Bool.and_eq_true,Nat.beq_eq] at h
  rw [G0 _ _ h.1.1,h.1.2,sameTl_eq h.2]
 ·simp only [sameO,Bool.and_eq_true,Nat.beq_eq,std,decide_eq_true_eq] at h
  rw [h.1.1.1,h.1.1.2,h.1.2,sameTl_eq h.2]
 ·rw [samesP_eq h]
 ·rfl
def eqT (A:Ar):T AObj → T AObj → Bool
 | .leaf,.leaf=>true
 | .node v l r,.node v' l' r'=>(match v,v' with
  | none,none=>true
  | some a,some b=>sameO A a b
  | _,_=>false) && eqT A l l' && eqT A r r'
 | _,_=>false
theorem eqT_eq:∀ {a b:T AObj},eqT std a b=true → a=b
 | .leaf,.leaf,_=>rfl
 | .node v l r,.node v' l' r',h=>by
  simp only [eqT,Bool.and_eq_true] at h
  obtain ⟨⟨h1,h2⟩,h3⟩:=h
  have e:v=v':=by
   cases v <;> cases v' <;> try (cases h1;done)
   ·rfl
   ·rw [sameO_eq h1]
  rw [e,eqT_eq h2,eqT_eq h3]
 | .leaf,.node _ _ _,h=>by cases h
 | .node _ _ _,.leaf,h=>by cases h
def meetO (A:Ar):Option AV → Option AV → Option AV
 | some a,some b=>bif same A a b then some a else none
 | _,_=>none
def Jr (A:Ar):T AV → T AV → T AV
 | .node v l r,.node v' l' r'=>.node (meetO A v v') (Jr A l l') (Jr A r r')
 | .leaf,_=>.leaf
 | .node _ _ _,.leaf=>.leaf
theorem Mb:∀ (a b:T AV) (n:Nat) (v:AV),(Jr std a b).get n=some v → a.get n=some v ∧ b.get n=some v
 | .leaf,b,n,v,h=>by
  have h:(T.leaf:T AV).get n=some v:=h
  rw [T.get_leaf] at h;cases h
 | .node x l r,.leaf,n,v,h=>by
  have h:(T.leaf:T AV).get n=some v:=h
  rw [T.get_leaf] at h;cases h
 | .node x l r,.node x' l' r',n,v,h=>by
  have e:Jr std (.node x l r) (.node x' l' r')=.node (meetO std x x') (Jr std l l') (Jr std r r'):=rfl
  rw [e,T.get_eq] at h
  rw [T.get_eq,T.get_eq (.node x' l' r')]
  cases hn:Nat.beq n 0 with
  | true =>
   rw [hn] at h
   have h:meetO std x x'=some v:=h
   show x=some v ∧ x'=some v
   cases x with
   | none=>cases h
   | some a =>
    cases x' with
    | none=>cases h
    | some b =>
     have h:(bif same std a b then some a else none)=some v:=h
     cases hs:same std a b with
     | false=>rw [hs] at h;cases h
     | true=>rw [hs] at h;cases h;exact ⟨rfl,by rw [Iy _ _ hs]⟩
  | false =>
   rw [hn] at h
   cases ho:Nat.beq (n % 2) 1 with
   | true=>rw [ho] at h;exact Mb l l' (n / 2) v h
   | false=>rw [ho] at h;exact Mb r r' (n / 2 - 1) v h
end
end Go.Proofs.YtfdfdagbeeeomaaDoor.V2
namespace Go.Proofs.YtfdfdagbeeeomaaDoor.V2
open Go
noncomputable section
structure ML where
 it:Nat
 n0:Nat
 n1:Nat
 e0:Nat
 id1:Nat
 rN:List CRow
 rE:List CRow
structure MD where
 r1:List CRow
 c:Ref
 r2:List CRow
 xm:Ref
 xk:Ref
 ks:List CK
 dst:Option Nat
inductive ACode where
 | skip
 | ret
 | exit (id:Nat)
 | seq (a b:ACode)
 | cond (c:Ref) (a b:ACode)
 | block (id:Nat) (c:ACode)
 | loop (c:ACode)
 | reg (rows:List CRow)
 | regd (steps:List (Nat × CRow)) (rcs:List (Nat × List Nat)) (dsts:List (Option Nat))
 | bad
 | rfun (f:Ref) (ps:List Nat) (a b:ACode)
 | mfor (pre:List CRow) (x:Ref) (m:ML) (body:ACode) (dl:Option MD)
def Lg:List Oper → List (List Nat) → List (List Nat)
 | [],acc=>acc
 | o :: l,acc=>Lg l (acc ++ [(List.range acc.length).filter fun k=>o.after.any fun e=>Region.binds .any e && (k == e.on || (acc.getD e.on []).contains k)])
def Lx {α:Type} (f:α → Bool):List α → Option (α × List α)
 | []=>none
 | x :: l=>bif f x then some (x,l) else match Lx f l with
  | some (y,m)=>some (y,x :: m)
  | none=>none
def sched (pu:FuncId → Bool) (B:List (List Nat)):Nat → List (Nat × CRow) → List (Nat × CRow) → List (Nat × CRow)
 | 0,done,_=>done
 | n + 1,done,Kl=>match Lx (fun p=>!(kd pu p.2 == .S) && (B.getD p.1 []).all (Js done)) Kl with
  | some (p,r)=>sched pu B n (done ++ [p]) r
  | none=>match Lx (fun p=>(B.getD p.1 []).all (Js done)) Kl with
   | some (p,r)=>sched pu B n (done ++ [p]) r
   | none=>done
def rcsOf (pu:FuncId → Bool) (B:List (List Nat)):List (Nat × CRow) → List (Nat × CRow) → List (Nat × List Nat)
 | _,[]=>[]
 | done,p :: l=>match (done.filter fun q=>(kd pu q.2 == .L) && !(B.getD p.1 []).contains q.1).map (·.1) with
  | []=>rcsOf pu B (done ++ [p]) l
  | ks=>bif kd pu p.2 == .S then (p.1,ks) :: rcsOf pu B (done ++ [p]) l else rcsOf pu B (done ++ [p]) l
def Mw:List (Nat × List Nat) → Nat → List Nat
 | [],_=>[]
 | p :: l,k=>bif Nat.beq p.1 k then p.2 else Mw l k
def compD (P:Program) (G nt:Nat) (pu:FuncId → Bool) (ops:Array Oper):Option (List (Nat × CRow) × List (Nat × List Nat)) :=
 match Ej P nt G ops (Lg ops.toList []) (List.range ops.size) with
 | none=>none
 | some ts=>match Ej P nt G ops (Lg ops.toList []) ((sched pu (Lg ops.toList []) ops.size [] ts).map (·.1)) with
  | none=>none
  | some st=>bif I7 ops (Lg ops.toList []) [] && (Gq pu (Lg ops.toList []) (Mw (rcsOf pu (Lg ops.toList []) [] st)) [] st && ((List.range ops.size).all (Js st) && Nat.ble ops.size 1000000)) then some (st,rcsOf pu (Lg ops.toList []) [] st) else none
def Ih:List Oper → Option (List Oper × Oper)
 | []=>none
 | o :: l=>match Ih l with
  | none=>some ([],o)
  | some (k,p)=>some (o :: k,p)
def Ga (P:Program) (G nt:Nat):Code → Option (List CRow × Ref × Nat)
 | .region _ O false=>match Ih O.toList with
  | some (l0,oR)=>match oR.op with
   | .range t x=>match P.underlying t with
    | some (.map _ _)=>match oR.guard with
     | none=>match oR.dst with
      | some it=>bif Nat.blt it nt then match Cw P nt (rfS G) O l0 with
       | some pre=>some (pre,rfS G x,it)
       | none=>none else none
      | none=>none
     | some _=>none
    | _=>none
   | _=>none
  | none=>none
 | _=>none
def Id (P:Program) (G nt it:Nat):Code → Option (ML × Code)
 | .block id (.loop (.seq (.region _ ON false) (.seq (.cond (.tmp n1) .skip (.exit id')) (.block id1 (.seq (.region _ OE false) BODY)))))=>bif Nat.beq id' id then match ON.toList with
  | oN :: lN=>match OE.toList with
   | oE :: lE=>match oN.op with
    | .next (.tmp t1) false=>match oE.op with
     | .entry (.tmp t2)=>bif Nat.beq t1 it && Nat.beq t2 it && oN.guard.isNone && oE.guard.isNone then match oN.dst with
      | some n0=>match oE.dst with
       | some e0=>bif Nat.blt n0 nt && Nat.blt e0 nt then match Cw P nt (rfS G) ON lN with
        | some rN=>match Cw P nt (rfS G) OE lE with
         | some rE=>some (⟨it,n0,n1,e0,id1,rN,rE⟩,BODY)
         | none=>none
        | none=>none else none
       | none=>none
      | none=>none else none
     | _=>none
    | _=>none
   | []=>none
  | []=>none else none
 | _=>none
def delOf (P:Program) (G nt:Nat):Code → Option MD
 | .seq (.region _ R1 false) (.cond c (.region _ R2 false) .skip)=>match Ih R2.toList with
  | some (l2,oD)=>match oD.op with
   | .call { callee:=.builtin .delete,args:=args,argTypes:=ats }=>match args.toList with
    | [xm,xk]=>match ats.toList with
     | t :: _=>match P.underlying t with
      | some (.map k _)=>match Bm P 100 k with
       | some ks=>bif Az P k && oD.guard.isNone && (match oD.dst with | none=>true | some d=>Nat.blt d nt) then match Cw P nt (rfS G) R1 R1.toList with
        | some r1=>match Cw P nt (rfS G) R2 l2 with
         | some r2=>some ⟨r1,rfS G c,r2,rfS G xm,rfS G xk,ks,oD.dst⟩
         | none=>none
        | none=>none else none
       | none=>none
      | _=>none
     | []=>none
    | _=>none
   | _=>none
  | none=>none
 | _=>none
def bodyOf:ACode → Option ACode
 | .block _ (.loop (.seq _ (.seq _ (.block _ (.seq (.reg _) b)))))=>some b
 | _=>none
def Jq (P:Program) (G nt:Nat) (x:Code) (y:Code) (y':ACode):Option ACode:=match Ga P G nt x with
 | none=>none
 | some (pre,x,it)=>match Id P G nt it y with
  | none=>none
  | some (m,BODY)=>match bodyOf y' with
   | none=>none
   | some b=>match delOf P G nt BODY with
    | some q=>some (.mfor pre x m .skip (some q))
    | none=>some (.mfor pre x m b none)
def Fp (P:Program) (G nt:Nat) (x y:Code) (x' y':ACode):ACode:=match Jq P G nt x y y' with
 | some z=>z
 | none=>match y,y' with
  | .seq y1 _,.seq y1' y2'=>match Jq P G nt x y1 y1' with
   | some z=>.seq z y2'
   | none=>.seq x' y'
  | _,_=>.seq x' y'
def A3 (P:Program) (G nt:Nat) (pu:FuncId → Bool):Code → Option ACode
 | .skip=>some .skip
 | .ret=>some .ret
 | .exit id=>some (.exit id)
 | .seq a b=>match A3 P G nt pu a with
  | none=>none
  | some a'=>match A3 P G nt pu b with
   | none=>none
   | some b'=>some (Fp P G nt a b a' b')
 | .cond c a b=>match A3 P G nt pu a with
  | none=>none
  | some a'=>match A3 P G nt pu b with
   | none=>none
   | some b'=>some (.cond (rfS G c) a' b')
 | .block id c=>match A3 P G nt pu c with
  | none=>none
  | some c'=>some (.block id c')
 | .loop c=>match A3 P G nt pu c with
  | none=>none
  | some c'=>some (.loop c')
 | .region _ ops false=>match Cw P nt (rfS G) ops ops.toList with
  | none=>none
  | some rows=>some (.reg rows)
 | .region _ ops true=>match compD P G nt pu ops with
  | none=>some .bad
  | some st=>some (.regd st.1 st.2 (ops.toList.map (·.dst)))
 | .rangeFunc f ps a b=>match A3 P G nt pu a with
  | none=>none
  | some a'=>match A3 P G nt pu b with
   | none=>none
   | some b'=>bif ps.toList.all (fun p=>Nat.blt p nt) then some (.rfun (rfS G f) ps.toList a' b') else some .bad
 | _=>some .bad
def evDr (A:Ar) (Γ:Gam) (steps:List (Nat × CRow)) (rcs:List (Nat × List Nat)) (dsts:List (Option Nat)) (env:T AV) (σ:AH):Bool × T AV × AH:=match evD A Γ env steps (Mw rcs) steps .leaf σ with
 | (ok,vals,σ')=>(ok,J4 vals dsts 0 env,σ')
inductive AX where
 | normal
 | exit (id:Nat)
 | ret
def AX.out:AX → Exit
 | .normal=>.normal
 | .exit id=>.exit id
 | .ret=>.ret
abbrev RS:=Option (List (AX × T AV × AH))
inductive RR where
 | bad
 | ok (e:AX) (env:T AV) (σ:AH)
def RR.next (r:RR) (f:T AV → AH → RR):RR:=RR.rec (motive:=fun _=>RR) .bad (fun e env σ=>AX.rec (motive:=fun _=>RR) (f env σ) (fun i=>.ok (.exit i) env σ) (.ok .ret env σ) e) r
def RR.block (id:Nat) (r:RR):RR:=RR.rec (motive:=fun _=>RR) .bad (fun e env σ=>AX.rec (motive:=fun _=>RR) (.ok .normal env σ) (fun i=>bif Nat.beq i id then .ok .normal env σ else .ok (.exit i) env σ) (.ok .ret env σ) e) r
def Hi (N:Nat) (f:T AV → AH → RR) (n:Nat):T AV → AH → RR:=Nat.rec (motive:=fun _=>T AV → AH → RR) (fun _ _=>.bad) (fun _ ih env σ=>bif Nat.ble N σ.next then (f env σ).next ih else .bad) n
def Lj:T AV → List Nat → List AV → T AV
 | env,p :: ps,v :: vs=>Lj (env.put p v) ps vs
 | env,_,_=>env
abbrev Cs:=List ((AV × AV) × Bool)
def Kl:Cs → Nat → List Nat
 | [],_=>[]
 | x :: l,i=>bif x.2 then Kl l (i + 1) else i :: Kl l (i + 1)
def isPtr (b:Nat):AV → Bool
 | .ptr b' o=>Nat.beq b' b && Nat.beq o 0
 | _=>false
def Mg (t:Bool):AV → Bool
 | .bool b=>b == t
 | _=>false
abbrev Bd:=Nat → Cs → Nat → T AV → AH → Option (AX × T AV × AH × Cs)
def shw (bm:Nat) (cs:Cs) (σ:AH):AH:=σ.put bm (.map (cs.map (·.1)))
def bindL {α β:Type}:List α → (α → Option (List β)) → Option (List β)
 | [],_=>some []
 | p :: L,f=>match f p with
  | none=>none
  | some l=>match bindL L f with
   | none=>none
   | some m=>some (l ++ m)
def mnext (m:ML) (bm:Nat) (go:Cs → T AV → AH → RS) (o:AX × T AV × AH × Cs):RS:=match o.1 with
 | .normal=>go o.2.2.2 o.2.1 o.2.2.1
 | .exit j=>bif Nat.beq j m.id1 then go o.2.2.2 o.2.1 o.2.2.1 else none
 | .ret=>some [(.ret,o.2.1,shw bm o.2.2.2 o.2.2.1)]
def mround (A:Ar) (Γ:Gam) (m:ML) (bm bi:Nat) (bd:Bd) (go:Cs → T AV → AH → RS) (cs:Cs) (e1:T AV) (σ1:AH) (i:Nat):RS:=match cs[i]? with
 | none=>none
 | some x=>match evP A Γ m.rE (e1.put m.e0 (.tup [x.1.1,x.1.2])) σ1 with
  | (ok,e2,σ2)=>bif ok then match bd bm (cs.set i (x.1,true)) i e2 σ2 with
   | none=>none
   | some o=>mnext m bm go o else none
def mgo (A:Ar) (Γ:Gam) (m:ML) (bm bi:Nat) (bd:Bd):Nat → Cs → T AV → AH → RS
 | 0,_,_,_=>none
 | k + 1,cs,env,σ=>bif isPtr bi (evS env (.slot m.it)) then match Kl cs 0 with
  | []=>match evP A Γ m.rN (env.put m.n0 (.tup [.bool false])) σ with
   | (ok,e1,σ1)=>bif ok && Mg false (evS e1 (.slot m.n1)) then some [(.normal,e1,shw bm cs σ1)] else none
  | is=>match evP A Γ m.rN (env.put m.n0 (.tup [.bool true,.top,.top])) σ with
   | (ok,e1,σ1)=>bif ok && Mg true (evS e1 (.slot m.n1)) && isPtr bi (evS e1 (.slot m.it)) then bindL is (mround A Γ m bm bi bd (mgo A Γ m bm bi bd k) cs e1 σ1) else none else none
def mfr (A:Ar) (Γ:Gam) (pre:List CRow) (x:Ref) (m:ML) (bd:Bd) (env:T AV) (σ:AH):RS:=match evP A Γ pre env σ with
 | (ok,e1,σ1)=>bif ok && Nat.blt σ1.next 1000000 then match evS e1 x with
  | .map bm=>match σ1.get bm with
   | some (.map l)=>mgo A Γ m bm σ1.next bd (l.length + 1) (l.map fun p=>(p,false)) (e1.put m.it (.ptr σ1.next 0)) ((σ1.put bm .hid).new .hid)
   | _=>none
  | _=>none else none
def bdR (f:Nat → T AV → AH → RR):Bd:=fun _ cs _ env σ=>match f σ.next env σ with
 | .bad=>none
 | .ok e env' σ'=>some (e,env',σ',cs)
def bdD (A:Ar) (Γ:Gam) (q:MD):Bd:=fun bm cs _ env σ=>match evP A Γ q.r1 env σ with
 | (ok,e1,σ1)=>bif ok then match evS e1 q.c with
  | .bool t=>bif t then match evP A Γ q.r2 e1 σ1 with
   | (ok2,e2,σ2)=>bif ok2 then match evS e2 q.xm with
    | .map b=>bif Nat.beq b bm then match B4 A true q.ks (evS e2 q.xk) (cs.map (·.1)) 0 with
     | (ok3,r)=>bif ok3 then some (.normal,Hz e2 q.dst (.tup []),σ2,match r with | some (i,_)=>cs.eraseIdx i | none=>cs) else none else none
    | _=>none else none else some (.normal,e1,σ1,cs)
  | _=>none else none
def detR (A:Ar):RS → RR
 | none=>.bad
 | some L=>match L with
  | []=>.bad
  | o :: L=>match L with
   | []=>.ok o.1 o.2.1 o.2.2
   | _=>match o.1 with
    | .normal=>bif L.all fun p=>(match p.1 with | .normal=>true | _=>false) && Nat.beq p.2.2.next o.2.2.next && eqT A p.2.2.mem o.2.2.mem then .ok .normal (L.foldl (fun e p=>Jr A e p.2.1) o.2.1) o.2.2 else .bad
    | _=>.bad
def rnd (f:T AV → AH → RR) (env:T AV) (ps:List Nat) (args:List AV) (σ:AH):Out:=bif Nat.beq ps.length args.length then (match f (Lj env ps args) σ with
  | .ok e _ σ'=>(match e with
   | .normal=>(true,.bool true,σ')
   | _=>bad σ)
  | .bad=>bad σ) else bad σ
def runR (A:Ar) (fuel:Nat) (c:ACode):Gam → Nat → T AV → AH → RR :=
 ACode.rec (motive:=fun _=>Gam → Nat → T AV → AH → RR)
  (fun _ _ env σ=>.ok .normal env σ)
  (fun _ _ env σ=>.ok .ret env σ)
  (fun id _ _ env σ=>.ok (.exit id) env σ)
  (fun _ _ ia ib Γ N env σ=>(ia Γ N env σ).next (ib Γ N))
  (fun c _ _ ia ib Γ N env σ=>match evS env c with | .bool t=>bif t then ia Γ N env σ else ib Γ N env σ | _=>.bad)
  (fun id _ ih Γ N env σ=>(ih Γ N env σ).block id)
  (fun _ ih Γ N env σ=>Hi N (ih Γ N) fuel env σ)
  (fun rows Γ _ env σ=>match evP A Γ rows env σ with | (ok,env',σ')=>bif ok then .ok .normal env' σ' else .bad)
  (fun st rcs ds Γ _ env σ=>match evDr A Γ st rcs ds env σ with | (ok,env',σ')=>bif ok then .ok .normal env' σ' else .bad)
  (fun _ _ _ _=>.bad)
  (fun f ps _ _ ia ib Γ _ env σ=>match evS env f with
   | .fn g first cap=>match g with
    | .func n=>match (Γ.up σ.next (rnd (fun e s=>(ia Γ.bare s.next e s).next (ib Γ.bare s.next)) env ps)).fn n (first ++ (.yld σ.next :: cap)) (σ.new AObj.shut) with
     | (ok,_,σ')=>bif Nat.blt σ.next 1000000 && ok then .ok .normal env σ' else .bad
    | _=>.bad
   | _=>.bad)
  (fun pre x m _ dl ib Γ _ env σ=>detR A (mfr A Γ pre x m (match dl with | none=>bdR (ib Γ) | some q=>bdD A Γ q) env σ))
  c
def run (A:Ar) (Γ:Gam) (N fuel:Nat) (c:ACode) (env:T AV) (σ:AH):RR:=runR A fuel c Γ N env σ
def both (A:Ar) (Γ:Gam) (fuel:Nat) (a b:ACode) (e:T AV) (s:AH):RR:=(run A Γ s.next fuel a e s).next (run A Γ s.next fuel b)
def Wk (G nt N:Nat) (env:T AV) (σ:AH) (env':T AV) (σ':AH):Prop:=∀ ρ W,HR ρ σ W → ∃ ρ',HR ρ' σ' W ∧ (∀ a,ER G nt ρ env a → ER G nt ρ' env' a) ∧ (∀ b,b < N → ρ' b=ρ b) ∧
 (∀ b c d,ρ' b=some (c,d) → ∃ b0 d0,ρ b0=some (c,d0)) ∧ N ≤ σ'.next ∧ ∀ b,b < N → σ'.get b=σ.get b
def Le (env env':T AV):Prop:=∀ t v,env'.get t=some v → v=evS env (.slot t)
theorem Le.refl (env:T AV):Le env env:=fun t v h=>by simp only [evS,h]
theorem ER.le {G nt:Nat} {ρ:Ren} {env env':T AV} {a:Act} (h:ER G nt ρ env a) (hl:Le env env'):ER G nt ρ env' a :=
 ⟨h.small,h.size,h.glob,fun t v ht=>by rw [hl t v ht];exact h.ev (.tmp t)⟩
def Lw (G nt N:Nat) (env:T AV) (σ:AH) (env':T AV) (σ':AH):Prop:=(Le env env' ∧ σ'=σ) ∨ Wk G nt N env σ env' σ'
theorem Lw.refl {G nt N:Nat} {env:T AV} {σ:AH}:Lw G nt N env σ env σ:=.inl ⟨Le.refl env,rfl⟩
theorem Lw.use {G nt N:Nat} {env:T AV} {σ:AH} {env':T AV} {σ':AH} (h:Lw G nt N env σ env' σ') (hN:N ≤ σ.next) {ρ:Ren} {W:World} (hr:HR ρ σ W):∃ ρ',HR ρ' σ' W ∧ (∀ a,ER G nt ρ env a → ER G nt ρ' env' a) ∧ (∀ b,b < N → ρ' b=ρ b) ∧
 (∀ b c d,ρ' b=some (c,d) → ∃ b0 d0,ρ b0=some (c,d0)) ∧ N ≤ σ'.next ∧ ∀ b,b < N → σ'.get b=σ.get b:=by
 rcases h with ⟨h,rfl⟩ | h
 ·exact ⟨ρ,hr,fun a ha=>ha.le h,fun _ _=>rfl,fun b _ d hb=>⟨b,d,hb⟩,hN,fun _ _=>rfl⟩
 ·exact h ρ W hr
def bdF (A:Ar) (Γ:Gam) (fuel:Nat) (b:ACode) (dl:Option MD):Bd:=match dl with | none=>bdR (fun N=>run A Γ N fuel b) | some q=>bdD A Γ q
def AK:=Exit → T AV → AH → Prop
def AK.seq (k:T AV → AH → Prop) (K:AK):AK
 | .normal,env,σ=>k env σ
 | e,env,σ=>K e env σ
def AK.block (id:Nat) (K:AK):AK
 | .exit i,env,σ=>if i=id then K .normal env σ else K (.exit i) env σ
 | e,env,σ=>K e env σ
def avc (A:Ar) (Γ:Gam) (G nt N:Nat):ACode → AK → T AV → AH → Prop
 | .skip,K,env,σ=>K .normal env σ
 | .ret,K,env,σ=>K .ret env σ
 | .exit id,K,env,σ=>K (.exit id) env σ
 | .seq a b,K,env,σ=>avc A Γ G nt N a (AK.seq (fun env' σ'=>∃ env2 σ2,Lw G nt N env' σ' env2 σ2 ∧ avc A Γ G nt N b K env2 σ2) K) env σ
 | .cond c a b,K,env,σ=>match evS env c with
  | .bool t=>(t=true → avc A Γ G nt N a K env σ) ∧ (t=false → avc A Γ G nt N b K env σ)
  | _=>False
 | .block id c,K,env,σ=>avc A Γ G nt N c (AK.block id K) env σ
 | .loop c,K,env,σ=>∃ (I:T AV → AH → Prop) (μ:T AV → AH → Nat),(∃ env1 σ1,Lw G nt N env σ env1 σ1 ∧ I env1 σ1) ∧
   ∀ env σ,I env σ → avc A Γ G nt N c (AK.seq (fun env' σ'=>∃ env2 σ2,Lw G nt N env' σ' env2 σ2 ∧ I env2 σ2 ∧ μ env2 σ2 < μ env σ) K) env σ
 | .reg rows,K,env,σ=>((evP A Γ rows env σ).1=true ∧ K .normal (evP A Γ rows env σ).2.1 (evP A Γ rows env σ).2.2) ∨ ∃ L,evPS A Γ rows env σ=some L ∧ ∀ p ∈ L,K .normal p.1 p.2
 | .regd st rcs ds,K,env,σ=>(evDr A Γ st rcs ds env σ).1=true ∧ K .normal (evDr A Γ st rcs ds env σ).2.1 (evDr A Γ st rcs ds env σ).2.2
 | .bad,_,_,_=>False
 | .rfun f ps a b,K,env,σ=>match evS env f with
  | .fn g first cap=>match g with
   | .func n=>Nat.blt σ.next 1000000=true ∧ ∃ fuel,(((Γ.up σ.next (rnd (both A Γ.bare fuel a b) env ps)).fn n (first ++ (.yld σ.next :: cap)) (σ.new AObj.shut)).1=true ∧
     K .normal env ((Γ.up σ.next (rnd (both A Γ.bare fuel a b) env ps)).fn n (first ++ (.yld σ.next :: cap)) (σ.new AObj.shut)).2.2) ∨
     ∃ L,(Γ.up σ.next (rnd (both A Γ.bare fuel a b) env ps)).dm n (first ++ (.yld σ.next :: cap)) (σ.new AObj.shut)=some L ∧ ∀ p ∈ L,K .normal env p.2
   | _=>False
  | _=>False
 | .mfor pre x m b dl,K,env,σ=>∃ fuel L,mfr A Γ pre x m (bdF A Γ fuel b dl) env σ=some L ∧ ∀ o ∈ L,∃ env2 σ2,Lw G nt N o.2.1 o.2.2 env2 σ2 ∧ K o.1.out env2 σ2
theorem RR.next_ok {r:RR} {f:T AV → AH → RR} {e:AX} {env:T AV} {σ:AH} (h:r.next f=.ok e env σ) :
  (∃ env1 σ1,r=.ok .normal env1 σ1 ∧ f env1 σ1=.ok e env σ) ∨ (e ≠ .normal ∧ r=.ok e env σ):=by
 cases r with
 | bad=>cases h
 | ok e1 env1 σ1 =>
  cases e1 with
  | normal=>exact .inl ⟨env1,σ1,rfl,h⟩
  | exit i=>cases h;exact .inr ⟨by simp,rfl⟩
  | ret=>cases h;exact .inr ⟨by simp,rfl⟩
theorem least {p:Nat → Prop} (h:∃ k,p k):∃ k,p k ∧ ∀ j,p j → k ≤ j:=by
 obtain ⟨k,hk⟩:=h
 induction k using Nat.strongRecOn with
 | _ k ih =>
  by_cases hj:∃ j,j < k ∧ p j
  ·obtain ⟨j,h1,h2⟩:=hj;exact ih j h1 h2
  ·exact ⟨k,hk,fun j hp=>Nat.le_of_not_lt fun hlt=>hj ⟨j,hlt,hp⟩⟩
open Classical in
def If (p:Nat → Prop):Nat:=if h:∃ k,p k then (least h).choose else 0
theorem leastD_le {p:Nat → Prop} {k:Nat} (h:p k):If p ≤ k:=by
 unfold If
 rw [dif_pos ⟨k,h⟩]
 exact (least ⟨k,h⟩).choose_spec.2 k h
theorem leastD_mem {p:Nat → Prop} {k:Nat} (h:p k):p (If p):=by
 unfold If
 rw [dif_pos ⟨k,h⟩]
 exact (least ⟨k,h⟩).choose_spec.1
theorem foldl_meet:∀ (L:List (AX × T AV × AH)) (e:T AV) (t:Nat) (v:AV),(L.foldl (fun e p=>Jr std e p.2.1) e).get t=some v → e.get t=some v ∧ ∀ p ∈ L,p.2.1.get t=some v
 | [],e,t,v,h=>⟨h,fun p hp=>by cases hp⟩
 | q :: L,e,t,v,h=>by
  obtain ⟨h1,h2⟩:=foldl_meet L (Jr std e q.2.1) t v h
  obtain ⟨h3,h4⟩:=Mb _ _ _ _ h1
  refine ⟨h3,fun p hp=>?_⟩
  rcases List.mem_cons.1 hp with rfl | hp
  ·exact h4
  ·exact h2 p hp
theorem detR_ok {r:RS} {e:AX} {env:T AV} {σ:AH} (h:detR std r=.ok e env σ):∃ L,r=some L ∧ ∀ o ∈ L,o.1=e ∧ Le o.2.1 env ∧ o.2.2=σ:=by
 unfold detR at h
 cases r with
 | none=>cases h
 | some L =>
 cases L with
 | nil=>cases h
 | cons o L =>
 cases L with
 | nil =>
  cases h
  refine ⟨_,rfl,fun p hp=>?_⟩
  rw [List.mem_singleton] at hp
  subst hp
  exact ⟨rfl,Le.refl _,rfl⟩
 | cons q L =>
  obtain ⟨oe,oenv,oσ⟩:=o
  cases oe with
  | exit i=>cases h
  | ret=>cases h
  | normal =>
   dsimp only at h
   generalize hc:((q :: L).all fun p=>(match p.1 with | .normal=>true | _=>false) && Nat.beq p.2.2.next oσ.next && eqT std p.2.2.mem oσ.mem)=c at h
   cases c with
   | false=>cases h
   | true =>
    dsimp only [cond_true] at h
    simp only [RR.ok.injEq] at h
    obtain ⟨rfl,rfl,rfl⟩:=h
    refine ⟨_,rfl,fun p hp=>?_⟩
    have hle:∀ t v,(List.foldl (fun e p=>Jr std e p.2.1) oenv (q :: L)).get t=some v → p.2.1.get t=some v:=fun t v ht=>by
     obtain ⟨h1,h2⟩:=foldl_meet _ _ _ _ ht
     rcases List.mem_cons.1 hp with rfl | hp
     ·exact h1
     ·exact h2 p hp
    refine ⟨?_,fun t v ht=>by simp only [evS,hle t v ht],?_⟩
    ·rcases List.mem_cons.1 hp with rfl | hp
     ·rfl
     ·have:=List.all_eq_true.1 hc p hp
      obtain ⟨pe,_⟩:=p
      cases pe <;> first | rfl | cases this
    ·rcases List.mem_cons.1 hp with rfl | hp
     ·rfl
     ·have:=List.all_eq_true.1 hc p hp
      simp only [Bool.and_eq_true,Nat.beq_eq] at this
      have e1:=this.1.2
      have e2:=eqT_eq this.2
      obtain ⟨pe,penv,⟨pn,pm⟩⟩:=p
      dsimp only at e1 e2
      rw [e1,e2]
theorem run_avc {G nt N fuel:Nat} {Γ:Gam}:∀ (c:ACode) (K:AK) (env:T AV) (σ:AH) (e:AX) (env':T AV) (σ':AH),run std Γ N fuel c env σ=.ok e env' σ' → K e.out env' σ' → avc std Γ G nt N c K env σ:=by
 intro c
 induction c with
 | skip=>intro K env σ e env' σ' h hK;cases h;exact hK
 | ret=>intro K env σ e env' σ' h hK;cases h;exact hK
 | exit id=>intro K env σ e env' σ' h hK;cases h;exact hK
 | seq a b ia ib =>
  intro K env σ e env' σ' h hK
  rcases RR.next_ok (r:=run std Γ N fuel a env σ) (f:=run std Γ N fuel b) h with ⟨env1,σ1,h1,h2⟩ | ⟨h1,h2⟩
  ·exact ia _ _ _ _ _ _ h1 ⟨env1,σ1,.refl,ib K _ _ _ _ _ h2 hK⟩
  ·refine ia _ _ _ _ _ _ h2 ?_
   cases e with
   | normal=>exact absurd rfl h1
   | exit i=>exact hK
   | ret=>exact hK
 | cond c a b ia ib =>
  intro K env σ e env' σ' h hK
  have h:(match evS env c with | .bool t=>bif t then run std Γ N fuel a env σ else run std Γ N fuel b env σ | _=>RR.bad)=.ok e env' σ':=h
  show (match evS env c with | .bool t=>(t=true → avc std Γ G nt N a K env σ) ∧ (t=false → avc std Γ G nt N b K env σ) | _=>False)
  cases hc:evS env c <;> rw [hc] at h <;> try (cases h;done)
  rename_i t
  cases t
  ·exact ⟨fun h=>(by cases h),fun _=>ib K _ _ _ _ _ h hK⟩
  ·exact ⟨fun _=>ia K _ _ _ _ _ h hK,fun h=>(by cases h)⟩
 | block id c ih =>
  intro K env σ e env' σ' h hK
  have h:(run std Γ N fuel c env σ).block id=.ok e env' σ':=h
  show avc std Γ G nt N c (AK.block id K) env σ
  cases hr:run std Γ N fuel c env σ with
  | bad=>rw [hr] at h;cases h
  | ok e1 env1 σ1 =>
   rw [hr] at h
   refine ih _ _ _ _ _ _ hr ?_
   cases e1 with
   | normal=>cases h;exact hK
   | ret=>cases h;exact hK
   | exit i =>
    have h:(bif Nat.beq i id then RR.ok .normal env1 σ1 else .ok (.exit i) env1 σ1)=.ok e env' σ':=h
    show (if i=id then K .normal env1 σ1 else K (.exit i) env1 σ1)
    by_cases hi:i=id
    ·rw [if_pos hi]
     rw [hi,Nat.beq_refl] at h
     cases h;exact hK
    ·rw [if_neg hi]
     rw [T.beq_f hi] at h
     cases h;exact hK
 | loop c ih =>
  intro K env σ e env' σ' h hK
  have h:Hi N (run std Γ N fuel c) fuel env σ=.ok e env' σ':=h
  let p:T AV → AH → Nat → Prop:=fun env σ k=>Hi N (run std Γ N fuel c) k env σ=.ok e env' σ'
  have hN:∀ k env σ,p env σ k → N ≤ σ.next:=by
   intro k env σ hp
   cases k with
   | zero=>cases hp
   | succ k =>
    have hp:(bif Nat.ble N σ.next then (run std Γ N fuel c env σ).next (Hi N (run std Γ N fuel c) k) else RR.bad)=.ok e env' σ':=hp
    cases hb:Nat.ble N σ.next with
    | false=>rw [hb] at hp;cases hp
    | true=>exact Nat.le_of_ble_eq_true hb
  refine ⟨fun env σ=>∃ k,p env σ k,fun env σ=>If (p env σ),⟨env,σ,.refl,⟨fuel,h⟩⟩,?_⟩
  rintro env σ ⟨k,hk⟩
  have hl:=leastD_mem hk
  generalize hm:If (p env σ)=m at hl
  cases m with
  | zero=>cases hl
  | succ m =>
   have hb:=hN _ _ _ hl
   have hl:(bif Nat.ble N σ.next then (run std Γ N fuel c env σ).next (Hi N (run std Γ N fuel c) m) else RR.bad)=.ok e env' σ':=hl
   rw [show Nat.ble N σ.next=true from Nat.ble_eq_true_of_le hb,cond_true] at hl
   rcases RR.next_ok hl with ⟨env1,σ1,h1,h2⟩ | ⟨h1,h2⟩
   ·refine ih _ _ _ _ _ _ h1 ?_
    have h2:p env1 σ1 m:=h2
    exact ⟨env1,σ1,.refl,⟨m,h2⟩,by
     show If (p env1 σ1) < If (p env σ)
     rw [hm]
     exact Nat.lt_of_le_of_lt (leastD_le h2) (Nat.lt_succ_self m)⟩
   ·refine ih _ _ _ _ _ _ h2 ?_
    cases e with
    | normal=>exact absurd rfl h1
    | exit i=>exact hK
    | ret=>exact hK
 | reg rows =>
  intro K env σ e env' σ' h hK
  have h:(match evP std Γ rows env σ with | (ok,env',σ')=>bif ok then RR.ok .normal env' σ' else .bad)=.ok e env' σ':=h
  cases hr:evP std Γ rows env σ with
  | mk ok p =>
   obtain ⟨env1,σ1⟩:=p
   rw [hr] at h
   cases ok
   ·cases h
   ·cases h;exact .inl ⟨by rw [hr],by rw [hr];exact hK⟩
 | bad=>intro K env σ e env' σ' h hK;cases h
 | rfun f ps a b _ _ =>
  intro K env σ e env' σ' h hK
  have h:(match evS env f with
   | .fn g first cap=>match g with
    | .func n=>match (Γ.up σ.next (rnd (both std Γ.bare fuel a b) env ps)).fn n (first ++ (AV.yld σ.next :: cap)) (σ.new AObj.shut) with
     | (ok,_,σ')=>bif Nat.blt σ.next 1000000 && ok then RR.ok .normal env σ' else .bad
    | _=>.bad
   | _=>.bad)=.ok e env' σ':=h
  unfold avc
  cases hc:evS env f <;> rw [hc] at h <;> try (cases h;done)
  rename_i g first cap
  cases g <;> try (cases h;done)
  rename_i n
  dsimp only at h ⊢
  cases hx:(Γ.up σ.next (rnd (both std Γ.bare fuel a b) env ps)).fn n (first ++ (AV.yld σ.next :: cap)) (σ.new AObj.shut) with
  | mk ok p =>
   obtain ⟨v,σ1⟩:=p
   rw [hx] at h
   cases ok
   ·rw [Bool.and_false] at h;cases h
   ·cases hb:Nat.blt σ.next 1000000 with
    | false=>rw [hb] at h;cases h
    | true =>
     rw [hb] at h
     cases h
     exact ⟨rfl,fuel,.inl ⟨by rw [hx],by rw [hx];exact hK⟩⟩
 | regd st rcs ds =>
  intro K env σ e env' σ' h hK
  have h:(match evDr std Γ st rcs ds env σ with | (ok,env',σ')=>bif ok then RR.ok .normal env' σ' else .bad)=.ok e env' σ':=h
  cases hr:evDr std Γ st rcs ds env σ with
  | mk ok p =>
   obtain ⟨env1,σ1⟩:=p
   rw [hr] at h
   cases ok
   ·cases h
   ·cases h;exact ⟨by rw [hr],by rw [hr];exact hK⟩
 | mfor pre x m b dl _ =>
  intro K env σ e env' σ' h hK
  have h:detR std (mfr std Γ pre x m (bdF std Γ fuel b dl) env σ)=.ok e env' σ':=h
  obtain ⟨L,hL,ho⟩:=detR_ok h
  refine ⟨fuel,L,hL,fun o hm=>?_⟩
  obtain ⟨h1,h2,h3⟩:=ho o hm
  exact ⟨env',σ',.inl ⟨h2,h3.symm⟩,by rw [h1];exact hK⟩
section
variable {P:Program} {Γ:Gam} {pu:FuncId → Bool} {G nt N:Nat} {ρ0:Ren} {σ0:AH} {W0:World}
def Gg (r:Nat):Deferred:={ target:=.collected r,args:=#[] }
def setB (W:World) (r:Nat) (o:Obj):World:={ W with heap:=W.heap.setIfInBounds r o }
theorem B1 {W:World} {r c:Nat} {o:Obj} (h:c ≠ r):(setB W r o).heap[c]?=W.heap[c]?:=Array.getElem?_setIfInBounds_ne (Ne.symm h)
theorem Ct {W:World} {r:Nat} {o:Obj}:(setB W r o).heap.size=W.heap.size:=Array.size_setIfInBounds
theorem L2 {W:World} {r:Nat} {l:Loop} {o':Obj} (h:W.heap[r]?=some (.loop l)):(setObj r o').run P W=.ok () (setB W r o'):=by simp [setObj,Sem.run,h,setB]
theorem setB_deferred {W:World} {r:Nat} {l:Option (List Deferred)} {o':Obj} (h:W.heap[r]?=some (.deferred l)):(setObj r o').run P W=.ok () (setB W r o'):=by simp [setObj,Sem.run,h,setB]
theorem HR.keepW {ρ:Ren} {σ:AH} {W W':World} (h:HR ρ σ W) (hs:W.heap.size ≤ W'.heap.size) (hk:∀ c,c < W.heap.size → W'.heap[c]?=W.heap[c]?):HR ρ σ W' :=
 ⟨h.small,h.none_,fun b c d hb=>by
  obtain ⟨h1,h2,o,h3,h4⟩:=h.dom b c d hb
  exact ⟨h1,Nat.lt_of_lt_of_le h2 hs,o,h3,by rw [hk c h2];exact h4⟩,h.inj⟩
def Mks (ρ:Ren) (W:World):List Deferred → Prop
 | []=>True
 | d :: ds=>∃ r,d=Gg r ∧ W.heap[r]?=some (.deferred (some [])) ∧ (∀ b x,ρ b ≠ some (r,x)) ∧ (∀ r',Gg r' ∈ ds → r' ≠ r) ∧ Mks ρ W ds
theorem Mks.step {M:Nat} {ρ ρ':Ren} {σ σ':AH} {W W':World} (hs:Stp M ρ σ W ρ' σ' W'):∀ {ds:List Deferred},Mks ρ W ds → Mks ρ' W' ds
 | [],_=>trivial
 | _ :: _,⟨r,e,h1,h2,h3,h4⟩=>by
  have hlt:r < W.heap.size:=(Array.getElem?_eq_some_iff.1 h1).1
  refine ⟨r,e,by rw [hs.frame r hlt fun b d=>h2 b d];exact h1,fun b x hb=>?_,h3,Mks.step hs h4⟩
  rcases hs.img b r x hb with ⟨b0,d0,h0⟩ | h0
  ·exact h2 b0 d0 h0
  ·omega
theorem Mks.weak {ρ ρ':Ren} {W:World} (h2:∀ b c d,ρ' b=some (c,d) → ∃ b0 d0,ρ b0=some (c,d0)):∀ {ds:List Deferred},Mks ρ W ds → Mks ρ' W ds
 | [],_=>trivial
 | _ :: _,⟨r,e,h1,hn,h3,h4⟩=>⟨r,e,h1,fun b x hb=>by obtain ⟨b0,d0,h0⟩:=h2 b r x hb;exact hn b0 d0 h0,h3,Mks.weak h2 h4⟩
theorem Mks.lt {ρ:Ren} {W:World}:∀ {ds:List Deferred},Mks ρ W ds → ∀ r,Gg r ∈ ds → r < W.heap.size
 | [],_,r,h=>by cases h
 | d :: ds,⟨r0,e,h1,_,_,h4⟩,r,h=>by
  rcases List.mem_cons.1 h with h | h
  ·rw [e] at h
   have:r=r0:=by simpa [Gg] using h
   subst this
   exact (Array.getElem?_eq_some_iff.1 h1).1
  ·exact Mks.lt h4 r h
theorem Mks.setB {ρ:Ren} {W:World} {c:Nat} {o:Obj}:∀ {ds:List Deferred},(∀ r,Gg r ∈ ds → r ≠ c) → Mks ρ W ds → Mks ρ (setB W c o) ds
 | [],_,_=>trivial
 | _ :: _,hc,⟨r,e,h1,h2,h3,h4⟩=>⟨r,e,by rw [B1 (hc r (by rw [e];exact List.mem_cons_self))];exact h1,h2,h3,Mks.setB (fun r' hr=>hc r' (List.mem_cons_of_mem _ hr)) h4⟩
theorem HR.setB {ρ:Ren} {σ:AH} {W:World} {r:Nat} {o:Obj} (h:HR ρ σ W) (hn:∀ b x,ρ b ≠ some (r,x)):HR ρ σ (setB W r o) :=
 ⟨h.small,h.none_,fun b c d hb=>by
  obtain ⟨h1,h2,o,h3,h4⟩:=h.dom b c d hb
  exact ⟨h1,by rw [Ct];exact h2,o,h3,by rw [B1 (fun e=>hn b d (by rw [hb,e]))];exact h4⟩,h.inj⟩
theorem Stp.setB {ρ:Ren} {σ:AH} {W:World} {r:Nat} {o:Obj} (h:Stp N ρ0 σ0 W0 ρ σ W) (hr:W0.heap.size ≤ r):Stp N ρ0 σ0 W0 ρ σ (setB W r o) :=
 ⟨h.ext,h.img,h.next,h.keep,fun c hc hn=>(B1 (by omega)).trans (h.frame c hc hn),h.tape,h.os,h.output,by rw [Ct];exact h.size,fun b c d o hb hρ hc ho hro=>by
  obtain ⟨e1,e2⟩:=h.ro b c d o hb hρ hc ho hro
  exact ⟨e1,(B1 (by omega)).trans e2⟩⟩
def AQ (G nt N B:Nat) (ρ0:Ren) (σ0:AH) (W0:World) (K:AK) (e:Exit) (a:Act) (W:World):Prop :=
 ∃ ρ env σ,K e env σ ∧ HR ρ σ W ∧ ER G nt ρ env a ∧ Stp N ρ0 σ0 W0 ρ σ W ∧ Mks ρ W a.defers ∧ (∀ r,Gg r ∈ a.defers → B ≤ r)
theorem Stp.weak {ρ ρ':Ren} {σ σ':AH} {W:World} (h:Stp N ρ0 σ0 W0 ρ σ W) (h1:∀ b,b < N → ρ' b=ρ b) (h2:∀ b c d,ρ' b=some (c,d) → ∃ b0 d0,ρ b0=some (c,d0)) (h3:N ≤ σ'.next) (h4:∀ b,b < N → σ'.get b=σ.get b) :
  Stp N ρ0 σ0 W0 ρ' σ' W :=
 ⟨fun b hb=>(h1 b hb).trans (h.ext b hb),fun b c d hb=>by obtain ⟨b0,d0,h0⟩:=h2 b c d hb;exact h.img b0 c d0 h0,h3,fun b ob hb hn ho ht=>(h4 b hb).trans (h.keep b ob hb hn ho ht),h.frame,h.tape,h.os,h.output,h.size,fun b c d ob hb hρ hc ho hr=>let ⟨e1,e2⟩:=h.ro b c d ob hb hρ hc ho hr;⟨(h4 b hb).trans e1,e2⟩⟩
theorem OR.loop_any {ρ:Ren} {d:Nat × Nat} {o:AObj} {lp:Loop} {x:Option Obj} (h:OR ρ d o (some (.loop lp))):OR ρ d o x:=by
 refine ⟨fun hc=>?_,fun l e=>?_⟩
 ·obtain ⟨h1,h2⟩:=h.1 hc
  exact ⟨h1,fun hp=>by obtain ⟨c,e,fr,hx,_⟩:=h2 hp;cases hx⟩
 ·obtain ⟨es,ck,hx,_⟩:=h.2 l e
  cases hx
theorem setB_self {W:World} {c:Nat} {o:Obj} (h:c < W.heap.size):(setB W c o).heap[c]?=some o:=by
 show (W.heap.setIfInBounds c o)[c]?=_
 rw [Array.getElem?_setIfInBounds_self_of_lt h]
theorem HR.turnL {ρ:Ren} {σ:AH} {W:World} {c:Nat} {lp:Loop} {o:Obj} (h:HR ρ σ W) (hl:W.heap[c]?=some (.loop lp)):HR ρ σ (V2.setB W c o) :=
 ⟨h.small,h.none_,fun b c' d hb=>by
  obtain ⟨h1,h2,o',h3,h4⟩:=h.dom b c' d hb
  refine ⟨h1,by rw [Ct];exact h2,o',h3,?_⟩
  by_cases hc:c'=c
  ·subst hc;rw [hl] at h4;exact h4.loop_any
  ·rw [B1 hc];exact h4,h.inj⟩
theorem YInv.turn {Y:List Yl} {ρ:Ren} {σ:AH} {W:World} {c:Nat} {o:Obj} (h:YInv Y ρ σ W) (hc:∀ y ∈ Y,y.c ≠ c):YInv Y ρ σ (setB W c o):=fun y hy =>
 ⟨(h y hy).lt,(h y hy).get,(h y hy).at_,(B1 (hc y hy)).trans (h y hy).rec_,(h y hy).sub⟩
theorem YInv.drew {Y:List Yl} {ρ:Ren} {σ:AH} {W:World} (h:YInv Y ρ σ W) (n:Nat):YInv Y ρ σ { W with drawn:=n }:=fun y hy=>⟨(h y hy).lt,(h y hy).get,(h y hy).at_,(h y hy).rec_,(h y hy).sub⟩
theorem Stp.round {N c:Nat} {X Z:Obj} {ρ ρ1 ρ2:Ren} {σ σ1 σ2:AH} {W W1 W3:World} (h1:Stp N ρ σ W ρ1 σ1 W1) (h2:Stp N ρ1 σ1 (V2.setB W1 c X) ρ2 σ2 W3) (hc:c < W.heap.size) (e0:W.heap[c]?=some Z) :
  Stp N ρ σ W ρ2 σ2 (V2.setB W3 c Z):=by
 have hs1:=h1.size
 have hs2:W1.heap.size ≤ W3.heap.size:=by have:=h2.size;rwa [Ct] at this
 have hself:(V2.setB W3 c Z).heap[c]?=some Z:=setB_self (by omega)
 refine ⟨fun b hb=>(h2.ext b hb).trans (h1.ext b hb),fun b k d hb=>?_,h2.next,fun b o hb hn ho ht=>h2.keep b o hb (by rw [h1.ext b hb];exact hn) (h1.keep b o hb hn ho ht) ht,fun k hk hn=>?_,?_,?_,?_,by rw [Ct];omega,fun b k d o hb hρ hk ho hro=>?_⟩
 ·rcases h2.img b k d hb with ⟨b0,d0,h0⟩ | h0
  ·rcases h1.img b0 k d0 h0 with h | h
   ·exact .inl h
   ·exact .inr h
  ·rw [Ct] at h0
   exact .inr (by omega)
 ·by_cases hkc:k=c
  ·subst hkc;rw [hself,e0]
  ·rw [B1 hkc,h2.frame k (by rw [Ct];omega) (fun b d hb=>by
    rcases h1.img b k d hb with ⟨b0,d0,h0⟩ | h0
    ·exact hn b0 d0 h0
    ·omega),B1 hkc]
   exact h1.frame k hk hn
 ·exact h2.tape.trans h1.tape
 ·exact h2.os.trans h1.os
 ·exact h2.output.trans h1.output
 ·obtain ⟨a1,a2⟩:=h1.ro b k d o hb hρ hk ho hro
  obtain ⟨b1,b2⟩:=h2.ro b k d o hb (by rw [h1.ext b hb];exact hρ) (by rw [Ct];omega) a1 hro
  refine ⟨b1,?_⟩
  by_cases hkc:k=c
  ·subst hkc;rw [hself,e0]
  ·rw [B1 hkc,b2,B1 hkc,a2]
structure Start (Y:List Yl) (N B:Nat) (ρ0:Ren) (σ0:AH) (W0:World):Prop where
 b:B ≤ W0.heap.size
 inv:YInv Y ρ0 σ0 W0
 lt:∀ y ∈ Y,y.l < N
 hr:HR ρ0 σ0 W0
theorem bindP_er {ρ:Ren}:∀ (ps:List Nat) (args:List AV) (vs:List Value) (env:T AV) (tmps:Array Value),ps.length=args.length → (ps.all fun p=>Nat.blt p nt)=true → VRs ρ args vs → ER G nt ρ env { tmps:=tmps,defers:=[] } →
  ER G nt ρ (Lj env ps args) { tmps:=(ps.zip vs).foldl (fun tmps (t,a)=>tmps.setIfInBounds t a) tmps,defers:=[] }
 | [],_,_,_,_,_,_,_,he=>he
 | p :: ps,[],_,_,_,hl,_,_,_=>by cases hl
 | p :: ps,a :: args,vs,env,tmps,hl,hp,hv,he=>by
  obtain ⟨v,m,rfl,hv,hm⟩:=hv
  rw [List.all_cons,Bool.and_eq_true,Nat.blt_eq] at hp
  exact bindP_er ps args m (env.put p a) _ (by simpa using hl) hp.2 hm (he.put (d:=some p) (fun t e=>by cases e;exact hp.1) hv)
theorem yield_run {W:World} {c:Nat} {lp:Loop} {vs:List Value} (h:W.heap[c]?=some (.loop lp)) (hl:lp.params.toList.length=vs.length) :
  (Instr.yield c vs.toArray).run P W=.ok (.round c lp.fn ((lp.params.toList.zip vs).foldl (fun tmps (t,a)=>tmps.setIfInBounds t a) lp.tmps) lp.assign lp.body) W:=by
 have hz:(lp.params.zip vs.toArray).foldl (fun tmps (x:Tmp × Value)=>tmps.setIfInBounds x.1 x.2) lp.tmps=(lp.params.toList.zip vs).foldl (fun tmps x=>tmps.setIfInBounds x.1 x.2) lp.tmps:=by
  rw [← Array.foldl_toList,Array.toList_zip]
 have hs:¬ (vs.toArray.size ≠ lp.params.size):=by
  intro hne;apply hne;rw [List.size_toArray,← hl,Array.length_toList]
 simp only [Instr.yield,Instr.getLoop,getObj,Sem.run_bind,Sem.run,h,Result.andThen_ok,Sem.run_pure,if_neg hs]
 rw [hz]
theorem rnd_ok {f:T AV → AH → RR} {env:T AV} {ps:List Nat} {args:List AV} {σ:AH} (h:(rnd f env ps args σ).1=true):ps.length=args.length ∧ ∃ e2 s2,f (Lj env ps args) σ=.ok .normal e2 s2 ∧ rnd f env ps args σ=(true,.bool true,s2):=by
 unfold rnd at h ⊢
 cases hl:Nat.beq ps.length args.length with
 | false=>rw [hl] at h;cases h
 | true =>
  rw [hl] at h
  simp only [cond_true] at h ⊢
  refine ⟨Nat.eq_of_beq_eq_true hl,?_⟩
  cases hr:f (Lj env ps args) σ with
  | bad=>rw [hr] at h;cases h
  | ok e e2 s2 =>
   rw [hr] at h
   cases e with
   | normal=>exact ⟨e2,s2,rfl,rfl⟩
   | exit i=>cases h
   | ret=>cases h
theorem Gam.bare_up (Γ:Gam):Γ.bare.up=fun _ _=>.no:=by cases Γ <;> rfl
theorem beginRound_run {W:World} {c:Nat} {lp:Loop} (h:W.heap[c]?=some (.loop lp)) (hs:lp.state=.ready):(Instr.beginRound c).run P W=.ok () (setB W c (.loop { lp with state:=.busy })):=by
 simp [Instr.beginRound,Instr.getLoop,getObj,Sem.run_bind,Sem.run,h,L2 h,hs]
theorem endRound_run {W:World} {c:Nat} {lp:Loop} (h:W.heap[c]?=some (.loop { lp with state:=.busy })) (hs:lp.state=.ready) (hp:lp.pending=none):(Instr.endRound c none).run P W=.ok (.bool true) (setB W c (.loop lp)):=by
 have e:({ lp with state:=.ready,pending:=none }:Loop)=lp:=by cases lp;simp_all
 simp [Instr.endRound,Instr.getLoop,getObj,Sem.run_bind,Sem.run,h,L2 h,e]
end
end
end Go.Proofs.YtfdfdagbeeeomaaDoor.V2
namespace Go.Proofs.YtfdfdagbeeeomaaDoor.V2
open Go
open Go.ChangeMaps (setBlock)
noncomputable section
section
variable {P:Program} {Γ:Gam} {pu:FuncId → Bool} {G nt N B:Nat} {ρ ρ0:Ren} {σ σ0:AH} {W W0:World} {Y:List Yl}
theorem Fm {ro:Option Nat} {ops:Array Oper} {Q:Exit → Act → World → Prop} {i:Nat} {l:List Nat} {o:Oper} {v:Value} {a:Act} {W':World} (ho:ops[i]?=some o) (hg:o.guard=none) (hnd:∀ c,o.op ≠ .defer c) (hrun:(execOp a.eval o).run P W=.ok (.value v) W')
  (h:wpOpsIn (fen ro) 0 P ops Q l (a.put o.dst v) W'):wpOpsIn (fen ro) 0 P ops Q (i :: l) a W:=by
 rw [wpOpsIn_cons]
 unfold wpOpIn
 simp only [ho]
 rw [if_pos (by simp [Region.wanted,hg])]
 refine ⟨fun _ _=>trivial,?_⟩
 rw [Oper.semAt_eq _ _ _ hnd,hrun,Oper.uponIn_value]
 exact h
theorem K3 {ro:Option Nat} (hΓ:GamOk P G Γ Y) {ops:Array Oper} {Q:Exit → Act → World → Prop} (m:Nat):∀ (l:List Oper) (rows:List CRow) (i:Nat),Cw P nt (rfS G) ops l=some rows → (∀ j,j < l.length → ops[i + j]?=l[j]?) →
  ∀ {ρ:Ren} {σ:AH} {W:World} {env:T AV} {a:Act},YInv Y ρ σ W → HR ρ σ W → ER G nt ρ env a → (evP std Γ rows env σ).1=true →
  (∀ ρ' a' W',HR ρ' (evP std Γ rows env σ).2.2 W' → ER G nt ρ' (evP std Γ rows env σ).2.1 a' → Stp σ.next ρ σ W ρ' (evP std Γ rows env σ).2.2 W' → a'.defers=a.defers → wpOpsIn (fen ro) 0 P ops Q (List.range' (i + l.length) m) a' W') →
  wpOpsIn (fen ro) 0 P ops Q (List.range' i (l.length + m)) a W:=by
 intro l
 induction l with
 | nil =>
  intro rows i hrows _ ρ σ W env a _ hr he _ hQ
  cases hrows
  have h:=hQ ρ a W hr he (Stp.refl (Nat.le_refl _)) rfl
  simpa using h
 | cons o l ih =>
  intro rows i hrows hops ρ σ W env a hY hr he hok hQ
  unfold Cw at hrows
  split at hrows
  ·cases hrows
  ·rename_i r hro
   split at hrows
   ·cases hrows
   ·rename_i rs hrs
    cases hrows
    have h0:=hops 0 (by simp)
    simp only [Nat.add_zero,List.getElem?_cons_zero] at h0
    rw [List.length_cons,show l.length + 1 + m=(l.length + m) + 1 by omega,List.range'_succ,wpOpsIn_cons]
    unfold wpOpIn
    simp only [h0]
    unfold evP at hok hQ
    generalize hg:Aw std Γ (evS env) σ r=g at hok hQ
    obtain ⟨ok,v,σ'⟩:=g
    simp only at hok hQ
    generalize hrest:evP std Γ rs (Hz env r.dst v) σ'=rest at hok hQ
    obtain ⟨ok',env',σ''⟩:=rest
    simp only [Bool.and_eq_true] at hok hQ
    obtain ⟨_,_,hdst,hdlt⟩:=Cj hro
    refine Fb hΓ hY he.glob hro (fun x=>he.ev x) hr (by rw [hg];exact hok.1) fun u W' ρ' h1 h2 h3=>?_
    rw [hg] at h1 h2 h3
    simp only at h1 h2 h3
    have he':ER G nt ρ' (Hz env r.dst v) (a.put o.dst u):=by
     rw [hdst];exact (he.sub (h2.sub hr)).put hdlt h3
    refine ih rs (i + 1) hrs (fun j hj=>by have:=hops (j + 1) (by simp;omega);rw [show i + 1 + j=i + (j + 1) by omega];simpa using this) (hY.step (fun y hy=>(hY y hy).lt) h2) h1 he' (by rw [hrest];exact hok.2) fun ρ'' a' W'' k1 k2 k3 k4=>?_
    rw [hrest] at k1 k2 k3
    have hq:=hQ ρ'' a' W'' k1 k2 (h2.trans k3 h2.next) (by rw [k4];cases o.dst <;> rfl)
    rwa [List.length_cons,show i + (l.length + 1)=i + 1 + l.length by omega] at hq
theorem OR.hid {d:Nat × Nat} {x:Option Obj}:OR ρ d .hid x:=⟨fun h=>(by cases h),fun l h=>(by cases h)⟩
theorem HR.lone {b b' c:Nat} {d d':Nat × Nat} (h:HR ρ σ W) (hg:σ.get b=some .hid) (hb:ρ b=some (c,d)) (hb':ρ b'=some (c,d')) (hne:b' ≠ b):σ.get b'=some .dead:=by
 rcases h.inj b b' c d d' hb hb' (Ne.symm hne) with e | e | ⟨o1,o2,e1,_,e3,_⟩
 ·rw [hg] at e;cases e
 ·exact e
 ·rw [hg] at e1;cases e1;cases e3
theorem HR.hide {b c:Nat} {d:Nat × Nat} {l:List (AV × AV)} (h:HR ρ σ W) (hb:ρ b=some (c,d)) (ho:σ.get b=some (.map l)):HR ρ (σ.put b .hid) W:=by
 have hbn:=(h.dom b c d hb).1
 have hs:=h.small
 have hg:∀ m,(σ.put b .hid).get m=if m=b then some .hid else σ.get m:=fun m=>AH.get_put (by omega:b < 1048576) m
 refine ⟨h.small,fun m hm=>?_,fun b' c' d' hb'=>?_,fun b1 b2 c' d1 d2 h1 h2 hne=>?_⟩
 ·have hm:σ.next ≤ m:=hm
  rw [hg,if_neg (by omega)];exact h.none_ m hm
 ·obtain ⟨h1,h2,o2,h3,h4⟩:=h.dom b' c' d' hb'
  refine ⟨h1,h2,?_⟩
  rw [hg]
  by_cases hbb:b'=b
  ·exact ⟨_,if_pos hbb,OR.hid⟩
  ·rw [if_neg hbb];exact ⟨o2,h3,h4⟩
 ·have hS:=h.inj b1 b2 c' d1 d2 h1 h2 hne
  by_cases e1:b1=b
  ·subst e1
   have:=hS.left ho rfl rfl
   exact .inr (.inl (by rw [hg,if_neg (Ne.symm hne)];exact this))
  ·by_cases e2:b2=b
   ·subst e2
    have:=hS.symm.left ho rfl rfl
    exact .inl (by rw [hg,if_neg hne];exact this)
   ·exact hS.congr (by rw [hg,if_neg e1]) (by rw [hg,if_neg e2])
theorem HR.show {b c:Nat} {d:Nat × Nat} {l:List (AV × AV)} (h:HR ρ σ W) (hb:ρ b=some (c,d)) (ho:σ.get b=some .hid) (hM:MR ρ l W.heap[c]?):HR ρ (σ.put b (.map l)) W:=by
 have hbn:=(h.dom b c d hb).1
 have hs:=h.small
 have hg:∀ m,(σ.put b (.map l)).get m=if m=b then some (.map l) else σ.get m:=fun m=>AH.get_put (by omega:b < 1048576) m
 refine ⟨h.small,fun m hm=>?_,fun b' c' d' hb'=>?_,fun b1 b2 c' d1 d2 h1 h2 hne=>?_⟩
 ·have hm:σ.next ≤ m:=hm
  rw [hg,if_neg (by omega)];exact h.none_ m hm
 ·obtain ⟨h1,h2,o2,h3,h4⟩:=h.dom b' c' d' hb'
  refine ⟨h1,h2,?_⟩
  rw [hg]
  by_cases hbb:b'=b
  ·subst hbb
   rw [hb] at hb';cases hb'
   exact ⟨_,if_pos rfl,fun h=>(by cases h),fun l' e=>by cases e;exact hM⟩
  ·rw [if_neg hbb];exact ⟨o2,h3,h4⟩
 ·by_cases e1:b1=b
  ·subst e1
   rw [hb] at h1;cases h1
   exact .inr (.inl (by rw [hg,if_neg (Ne.symm hne)];exact h.lone ho hb h2 (Ne.symm hne)))
  ·by_cases e2:b2=b
   ·subst e2
    rw [hb] at h2;cases h2
    exact .inl (by rw [hg,if_neg hne];exact h.lone ho hb h1 hne)
   ·exact (h.inj b1 b2 c' d1 d2 h1 h2 hne).congr (by rw [hg,if_neg e1]) (by rw [hg,if_neg e2])
theorem Stp.setM {b:Nat} {x:Nat × (Nat × Nat)} {o:AObj} (h:Stp N ρ0 σ0 W0 ρ σ W) (hs:b < 1048576) (hb:ρ b=some x) (hro:∀ o0,b < N → σ0.get b=some o0 → o0.isRo=false):Stp N ρ0 σ0 W0 ρ (σ.put b o) W:=by
 have hg:∀ m,m ≠ b → (σ.put b o).get m=σ.get m:=fun m hm=>by rw [AH.get_put hs,if_neg hm]
 refine ⟨h.ext,h.img,h.next,fun m o' hm hn ho ht=>?_,h.frame,h.tape,h.os,h.output,h.size,fun m c' d' o' hm hρ hc ho hr=>?_⟩
 ·by_cases e:m=b
  ·subst e;rw [h.ext m hm,hn] at hb;cases hb
  ·rw [hg m e];exact h.keep m o' hm hn ho ht
 ·obtain ⟨e1,e2⟩:=h.ro m c' d' o' hm hρ hc ho hr
  by_cases e:m=b
  ·subst e;rw [hro o' hm ho] at hr;cases hr
  ·exact ⟨(hg m e).trans e1,e2⟩
theorem Hh {w1:World} {r:Nat} {o:Obj} (hw:w1=W ∨ w1=W.drew):(setBlock w1 r o).heap=W.heap.setIfInBounds r o:=by rcases hw with rfl | rfl <;> rfl
theorem HR.turnH {r:Nat} {d:Nat × Nat} {w1:World} {o:Obj} {b:Nat} (h:HR ρ σ W) (hw:w1=W ∨ w1=W.drew) (hb:ρ b=some (r,d)) (ho:σ.get b=some .hid):HR ρ σ (setBlock w1 r o):=by
 have hh:∀ c,c ≠ r → (setBlock w1 r o).heap[c]?=W.heap[c]?:=fun c hc=>by rw [Hh hw,Array.getElem?_setIfInBounds_ne (Ne.symm hc)]
 refine ⟨h.small,h.none_,fun b' c' d' hb'=>?_,h.inj⟩
 obtain ⟨h1,h2,o2,h3,h4⟩:=h.dom b' c' d' hb'
 refine ⟨h1,by rw [Hh hw,Array.size_setIfInBounds];exact h2,o2,h3,?_⟩
 by_cases hc:c'=r
 ·subst hc
  by_cases e:b'=b
  ·subst e;rw [ho] at h3;cases h3;exact OR.hid
  ·have:=h.lone ho hb hb' e
   rw [this] at h3;cases h3;exact OR.dead
 ·rw [hh c' hc];exact h4
theorem Stp.turnH {r:Nat} {w1:World} {o:Obj} (h:Stp N ρ0 σ0 W0 ρ σ W) (hw:w1=W ∨ w1=W.drew) (hf:(∃ b d,ρ0 b=some (r,d)) ∨ W0.heap.size ≤ r) (hro:∀ b d o,b < N → ρ0 b=some (r,d) → r < W0.heap.size → σ0.get b=some o → o.isRo=false):Stp N ρ0 σ0 W0 ρ σ (setBlock w1 r o):=by
 have hh:∀ c,c ≠ r → (setBlock w1 r o).heap[c]?=W.heap[c]?:=fun c hc=>by rw [Hh hw,Array.getElem?_setIfInBounds_ne (Ne.symm hc)]
 have hsz:(setBlock w1 r o).heap.size=W.heap.size:=by rw [Hh hw,Array.size_setIfInBounds]
 refine ⟨h.ext,h.img,h.next,h.keep,fun c hc hn=>(hh c ?_).trans (h.frame c hc hn),?_,?_,?_,by rw [hsz];exact h.size,fun b c d o hb hρ hc ho hr=>?_⟩
 ·rintro rfl
  rcases hf with ⟨b,d,hb⟩ | hf
  ·exact hn b d hb
  ·omega
 ·rcases hw with rfl | rfl <;> exact h.tape
 ·rcases hw with rfl | rfl <;> exact h.os
 ·rcases hw with rfl | rfl <;> exact h.output
 ·obtain ⟨e1,e2⟩:=h.ro b c d o hb hρ hc ho hr
  refine ⟨e1,(hh c ?_).trans e2⟩
  rintro rfl
  rw [hro b d o hb hρ hc ho] at hr;cases hr
theorem Mks.turnH {r b:Nat} {d:Nat × Nat} {w1:World} {o:Obj} (hw:w1=W ∨ w1=W.drew) (hb:ρ b=some (r,d)):∀ {ds:List Deferred},Mks ρ W ds → Mks ρ (setBlock w1 r o) ds
 | [],_=>trivial
 | _ :: _,⟨q,e,h1,h2,h3,h4⟩=>by
  have hne:q ≠ r:=by rintro rfl;exact h2 b d hb
  exact ⟨q,e,by rw [Hh hw,Array.getElem?_setIfInBounds_ne (Ne.symm hne)];exact h1,h2,h3,Mks.turnH hw hb h4⟩
theorem YInv.turnH {r b:Nat} {d:Nat × Nat} {w1:World} {o:Obj} (h:YInv Y ρ σ W) (hr:HR ρ σ W) (hw:w1=W ∨ w1=W.drew) (hb:ρ b=some (r,d)) (ho:σ.get b=some .hid):YInv Y ρ σ (setBlock w1 r o):=fun y hy=>by
 obtain ⟨h1,h2,h3,h4,h5⟩:=h y hy
 refine ⟨h1,h2,h3,?_,h5⟩
 have hne:y.c ≠ r:=by
  rintro e
  rw [e] at h3
  by_cases hyb:y.l=b
  ·rw [hyb,ho] at h2;cases h2
  ·have:=hr.lone ho hb h3 hyb
   rw [h2] at this;cases this
 rw [Hh hw,Array.getElem?_setIfInBounds_ne (Ne.symm hne)]
 exact h4
theorem MapL.len:∀ {L:List (AV × AV)} {es:List MapEntry},MapL ρ L es → es.length=L.length
 | [],_,h=>by rw [show _=[] from h];rfl
 | _ :: _,_,⟨e,m,h0,_,_,h3⟩=>by subst h0;simp [MapL.len h3]
theorem MapL.at_:∀ {L:List (AV × AV)} {es:List MapEntry},MapL ρ L es → ∀ {i:Nat} {e:MapEntry},es[i]?=some e → ∃ p,L[i]?=some p ∧ VR ρ p.1 e.key ∧ VR ρ p.2 e.val
 | [],es,h,i,e,he=>by rw [show es=[] from h] at he;simp at he
 | p :: L,_,⟨e0,m,h0,h1,h2,h3⟩,i,e,he=>by
  subst h0
  cases i with
  | zero=>simp only [List.getElem?_cons_zero,Option.some.injEq] at he;subst he;exact ⟨p,rfl,h1,h2⟩
  | succ i =>
   obtain ⟨q,hq,k⟩:=h3.at_ (i:=i) (by simpa using he)
   exact ⟨q,by simpa using hq,k⟩
structure LSt (bm bi c r ck:Nat) (dm:Nat × Nat) (N:Nat) (ρ0:Ren) (σ0:AH) (W0:World) (cs:Cs) (ρ:Ren) (σ:AH) (W:World):Prop where
 hm:ρ bm=some (c,dm)
 hi:ρ bi=some (r,(0,0))
 gm:σ.get bm=some .hid
 gi:σ.get bi=some .hid
 ne:c ≠ r
 r0:W0.heap.size ≤ r
 c0:(∃ b d,ρ0 b=some (c,d)) ∨ W0.heap.size ≤ c
 cro:∀ b d o,b < N → ρ0 b=some (c,d) → c < W0.heap.size → σ0.get b=some o → o.isRo=false
 bro:∀ o,bm < N → σ0.get bm=some o → o.isRo=false
 ex:∃ (seen:Array Nat) (es:Array MapEntry),W.heap[r]?=some (.mapIter (some c) ck seen ck) ∧ W.heap[c]?=some (.map es ck) ∧ MapL ρ (cs.map (·.1)) es.toList ∧ es.toList.Pairwise (fun a b=>a.born < b.born) ∧ (∀ e ∈ es.toList,e.born < ck) ∧
  ∀ (i:Nat) e,es.toList[i]?=some e → ∃ x,cs[i]?=some x ∧ x.2=seen.contains e.born
theorem LSt.step {bm bi c r ck:Nat} {dm:Nat × Nat} {cs:Cs} {M:Nat} {ρ':Ren} {σ':AH} {W':World} (h:LSt bm bi c r ck dm N ρ0 σ0 W0 cs ρ σ W) (hr:HR ρ σ W) (hs:Stp σ.next ρ σ W ρ' σ' W'):LSt bm bi c r ck dm N ρ0 σ0 W0 cs ρ' σ' W':=by
 obtain ⟨h1,h2,h3,h4,h5,h6,h7,h8,h9,seen,es,k1,k2,k3,k4,k5,k6⟩:=h
 obtain ⟨a1,a2,_⟩:=hr.dom _ _ _ h1
 obtain ⟨b1,b2,_⟩:=hr.dom _ _ _ h2
 obtain ⟨x1,x2⟩:=hs.ro bm c dm _ a1 h1 a2 h3 rfl
 obtain ⟨y1,y2⟩:=hs.ro bi r (0,0) _ b1 h2 b2 h4 rfl
 exact ⟨(hs.ext _ a1).trans h1,(hs.ext _ b1).trans h2,x1,y1,h5,h6,h7,h8,h9,seen,es,y2.trans k1,x2.trans k2,k3.mono (hs.sub hr),k4,k5,k6⟩
theorem nodup_born {l:List MapEntry} (h:l.Pairwise (fun a b=>a.born < b.born)):(l.map (·.born)).Nodup :=
 List.pairwise_map.2 (h.imp fun h e=>by omega)
theorem todo_mem:∀ {cs:Cs} {k i:Nat},i ∈ Kl cs k ↔ ∃ j x,i=k + j ∧ cs[j]?=some x ∧ x.2=false
 | [],k,i=>by simp [Kl]
 | x :: l,k,i=>by
  have ih:=todo_mem (cs:=l) (k:=k + 1) (i:=i)
  constructor
  ·intro h
   unfold Kl at h
   cases hx:x.2 with
   | true =>
    rw [hx] at h
    obtain ⟨j,y,h1,h2,h3⟩:=ih.1 h
    exact ⟨j + 1,y,by omega,by simpa using h2,h3⟩
   | false =>
    rw [hx] at h
    rcases List.mem_cons.1 h with rfl | h
    ·exact ⟨0,x,rfl,rfl,hx⟩
    ·obtain ⟨j,y,h1,h2,h3⟩:=ih.1 h
     exact ⟨j + 1,y,by omega,by simpa using h2,h3⟩
  ·rintro ⟨j,y,h1,h2,h3⟩
   unfold Kl
   cases j with
   | zero =>
    simp only [List.getElem?_cons_zero,Option.some.injEq] at h2
    subst h2
    rw [h3]
    exact List.mem_cons.2 (.inl (by omega))
   | succ j =>
    have:=ih.2 ⟨j,y,by omega,by simpa using h2,h3⟩
    cases x.2
    ·exact List.mem_cons_of_mem _ this
    ·exact this
theorem isPtr_eq {b:Nat} {v:AV} (h:isPtr b v=true):v=.ptr b 0:=by
 cases v <;> try (cases h;done)
 simp only [isPtr,Bool.and_eq_true,Nat.beq_eq] at h
 rw [h.1,h.2]
theorem isBool_eq {t:Bool} {v:AV} (h:Mg t v=true):v=.bool t:=by
 cases v <;> try (cases h;done)
 simp only [Mg,beq_iff_eq] at h
 rw [h]
theorem bindL_mem {α β:Type} {f:α → Option (List β)}:∀ {L:List α} {M:List β},bindL L f=some M → ∀ p ∈ L,∃ l,f p=some l ∧ ∀ x ∈ l,x ∈ M
 | [],_,_,p,hp=>by cases hp
 | q :: L,M,h,p,hp=>by
  unfold bindL at h
  split at h
  ·cases h
  ·rename_i l hl
   split at h
   ·cases h
   ·rename_i m hm
    cases h
    rcases List.mem_cons.1 hp with rfl | hp
    ·exact ⟨l,hl,fun x hx=>List.mem_append_left _ hx⟩
    ·obtain ⟨l',h1,h2⟩:=bindL_mem hm p hp
     exact ⟨l',h1,fun x hx=>List.mem_append_right _ (h2 x hx)⟩
def MkB (B:Nat) (ρ:Ren) (W:World) (a:Act):Prop:=Mks ρ W a.defers ∧ ∀ r,Gg r ∈ a.defers → B ≤ r
def Mt (P:Program) (G nt:Nat) (Y:List Yl) (ro:Option Nat) (BODY:Code) (bd:Bd):Prop:=∀ bm cs i env σ o,bd bm cs i env σ=some o → ∀ {bi c r ck:Nat} {dm:Nat × Nat} {N B:Nat} {ρ0 ρ:Ren} {σ0:AH} {W0 W:World} {a:Act},Start Y N B ρ0 σ0 W0 → LSt bm bi c r ck dm N ρ0 σ0 W0 cs ρ σ W → HR ρ σ W → YInv Y ρ σ W → ER G nt ρ env a → Stp N ρ0 σ0 W0 ρ σ W → MkB B ρ W a →
 BODY.wpIn (fen ro) 0 P (fun e a' W'=>e=o.1.out ∧ ∃ ρ',LSt bm bi c r ck dm N ρ0 σ0 W0 o.2.2.2 ρ' o.2.2.1 W' ∧ HR ρ' o.2.2.1 W' ∧ YInv Y ρ' o.2.2.1 W' ∧ ER G nt ρ' o.2.1 a' ∧ Stp N ρ0 σ0 W0 ρ' o.2.2.1 W' ∧ MkB B ρ' W' a') a W
theorem LSt.show {bm bi c r ck:Nat} {dm:Nat × Nat} {cs:Cs} (h:LSt bm bi c r ck dm N ρ0 σ0 W0 cs ρ σ W) (hr:HR ρ σ W) (hs:Stp N ρ0 σ0 W0 ρ σ W):HR ρ (shw bm cs σ) W ∧ Stp N ρ0 σ0 W0 ρ (shw bm cs σ) W:=by
 obtain ⟨h1,h2,h3,h4,h5,h6,h7,h8,h9,seen,es,k1,k2,k3,k4,k5,k6⟩:=h
 have hsm:=hr.small
 have hbn:=(hr.dom _ _ _ h1).1
 exact ⟨hr.show h1 h3 ⟨es,ck,k2,k3,k4,k5⟩,hs.setM (by omega) h1 h9⟩
theorem mloop {ro:Option Nat} {m:ML} {bm bi:Nat} {bd:Bd} (hΓ:GamOk P G Γ Y) (st:Start Y N B ρ0 σ0 W0) {id i1 i2:Nat} {ON OE:Array Oper} {oN oE:Oper} {lN lE:List Oper} {BODY:Code}
  (hON:ON.toList=oN :: lN) (hN1:oN.op=.next (.tmp m.it) false) (hN2:oN.guard=none) (hN3:oN.dst=some m.n0) (hrN:Cw P nt (rfS G) ON lN=some m.rN)
  (hOE:OE.toList=oE :: lE) (hE1:oE.op=.entry (.tmp m.it)) (hE2:oE.guard=none) (hE3:oE.dst=some m.e0) (hrE:Cw P nt (rfS G) OE lE=some m.rE)
  (hn0:m.n0 < nt) (he0:m.e0 < nt) (hB:Mt P G nt Y ro BODY bd) {c r ck:Nat} {dm:Nat × Nat} {L0:List (AX × T AV × AH)} {Q:Exit → Act → World → Prop}
  (hQ:∀ o ∈ L0,∀ ρ' a' W',HR ρ' o.2.2 W' → ER G nt ρ' o.2.1 a' → Stp N ρ0 σ0 W0 ρ' o.2.2 W' → MkB B ρ' W' a' → Q o.1.out a' W')
  {n:Nat} {cs:Cs} {env:T AV} {a:Act} (h:mgo std Γ m bm bi bd n cs env σ=some L0) (hl:LSt bm bi c r ck dm N ρ0 σ0 W0 cs ρ σ W) (hr:HR ρ σ W) (hY:YInv Y ρ σ W) (he:ER G nt ρ env a) (hs:Stp N ρ0 σ0 W0 ρ σ W) (hd:MkB B ρ W a) :
  (Code.block id (.loop (.seq (.region i1 ON false) (.seq (.cond (.tmp m.n1) .skip (.exit id)) (.block m.id1 (.seq (.region i2 OE false) BODY)))))).wpIn (fen ro) 0 P Q a W:=by
 refine wpIn_block ?_
 let J:Nat → Act → World → Prop:=fun n a W=>∃ ρ σ cs env L,mgo std Γ m bm bi bd n cs env σ=some L ∧ (∀ o ∈ L,o ∈ L0) ∧ LSt bm bi c r ck dm N ρ0 σ0 W0 cs ρ σ W ∧ HR ρ σ W ∧ YInv Y ρ σ W ∧ ER G nt ρ env a ∧ Stp N ρ0 σ0 W0 ρ σ W ∧ MkB B ρ W a
 refine wpIn_loop_ghost J n ⟨ρ,σ,cs,env,L0,h,fun o ho=>ho,hl,hr,hY,he,hs,hd⟩ ?_
 clear h hl hr hY he hs hd
 rintro n a W ⟨ρ,σ,cs,env,L,h,hLs,hl,hr,hY,he,hs,hd⟩
 have hszN:ON.size=lN.length + 1:=by rw [← Array.length_toList,hON];rfl
 have hszE:OE.size=lE.length + 1:=by rw [← Array.length_toList,hOE];rfl
 have hatN:∀ j,ON[j]?=(oN :: lN)[j]?:=fun j=>by rw [← hON,Array.getElem?_toList]
 have hatE:∀ j,OE[j]?=(oE :: lE)[j]?:=fun j=>by rw [← hOE,Array.getElem?_toList]
 cases n with
 | zero=>cases h
 | succ n =>
 unfold mgo at h
 cases hp:isPtr bi (evS env (.slot m.it)) with
 | false=>rw [hp] at h;cases h
 | true =>
 rw [hp] at h
 dsimp only [cond_true] at h
 have hev:∀ {ρ:Ren} {env:T AV} {a:Act},ER G nt ρ env a → ρ bi=some (r,(0,0)) → isPtr bi (evS env (.slot m.it))=true → a.eval (.tmp m.it)=.pointer (some ⟨r,0,none⟩):=by
  intro ρ env a he hi hp
  have:=he.ev (.tmp m.it)
  change VR ρ (evS env (.slot m.it)) _ at this
  rw [isPtr_eq hp] at this
  unfold VR at this
  obtain ⟨c1,d1,h1,h2⟩:=this
  rw [hi] at h1;cases h1
  exact h2
 obtain ⟨seen,es,k1,k2,k3,k4,k5,k6⟩:=hl.ex
 have hnd1:∀ c,oN.op ≠ .defer c:=fun c e=>by rw [hN1] at e;cases e
 have hnd2:∀ c,oE.op ≠ .defer c:=fun c e=>by rw [hE1] at e;cases e
 have hevN:=hev he hl.hi hp
 refine wpIn_seq (wpIn_region ?_)
 rw [List.range_eq_range',hszN,List.range'_succ]
 have hlen:=k3.len
 rw [List.length_map] at hlen
 rcases run_next_at (P:=P) W oN.type r c ck ck seen es ck k1 k2 k5 (Nat.le_refl _) with ⟨h0,hrun⟩ | ⟨e,hel,w1,hw1,hrun⟩
 ·-- nothing is left
  have ht:Kl cs 0=[]:=by
   apply List.eq_nil_iff_forall_not_mem.2
   intro i hi
   obtain ⟨j,x,rfl,hx,hx2⟩:=todo_mem.1 hi
   have hj:j < es.toList.length:=by rw [hlen];exact (List.getElem?_eq_some_iff.1 hx).1
   obtain ⟨y,hy,hy2⟩:=k6 j _ (List.getElem?_eq_getElem hj)
   rw [hx] at hy;cases hy
   rw [hx2] at hy2
   have:es.toList[j] ∈ (leftOf es seen).toList:=by
    unfold leftOf
    rw [Array.toList_filter]
    exact List.mem_filter.2 ⟨List.getElem_mem hj,by rw [← hy2];rfl⟩
   have:=List.length_pos_of_mem this
   rw [Array.length_toList] at this
   omega
  rw [ht] at h
  dsimp only at h
  generalize hEv:evP std Γ m.rN (env.put m.n0 (.tup [.bool false])) σ=ev at h
  obtain ⟨ok,e1,σ1⟩:=ev
  dsimp only at h
  cases hc:(ok && Mg false (evS e1 (.slot m.n1))) with
  | false=>rw [hc] at h;cases h
  | true =>
  rw [hc] at h
  cases h
  rw [Bool.and_eq_true] at hc
  refine Fm (o:=oN) (v:=.tuple #[.bool false]) (W':=W) (hatN 0) hN2 hnd1 (by simp only [execOp,hN1,hevN,Sem.run_bind,hrun];rfl) ?_
  have he1:ER G nt ρ (env.put m.n0 (.tup [.bool false])) (a.put oN.dst (.tuple #[.bool false])):=by
   rw [hN3]
   exact he.put (d:=some m.n0) (fun t h=>by cases h;exact hn0) (by unfold VR;exact ⟨[.bool false],rfl,_,_,rfl,by unfold VR;rfl,rfl⟩)
  refine Er hΓ lN m.rN 1 hrN (fun j=>by rw [hatN,Nat.add_comm,List.getElem?_cons_succ]) hY hr he1 (by rw [hEv];exact hc.1) fun ρ' a' W' q1 q2 q3 q4=>?_
  rw [hEv] at q1 q2 q3
  refine wpIn_seq (wpIn_cond_false (by have hh:=q2.ev (.tmp m.n1);change VR ρ' (evS e1 (.slot m.n1)) _ at hh;rw [isBool_eq hc.2] at hh;unfold VR at hh;exact hh) (wpIn_exit ?_))
  show (if id=id then Q .normal a' W' else Q (.exit id) a' W')
  rw [if_pos rfl]
  have hs1:=hs.trans q3 hs.next
  obtain ⟨u1,u2⟩:=(hl.step (M:=0) hr q3).show q1 hs1
  have hd1:MkB B ρ' W' a':=by
   have e:a'.defers=a.defers:=by rw [q4];cases oN.dst <;> rfl
   unfold MkB;rw [e];exact ⟨hd.1.step q3,hd.2⟩
  exact hQ _ (hLs _ List.mem_cons_self) ρ' a' W' u1 q2 u2 hd1
 ·-- an entry
  obtain ⟨hes,hseen⟩:=mem_left hel
  obtain ⟨i,hi⟩:=List.getElem?_of_mem hes
  obtain ⟨x,hx,hx2⟩:=k6 i e hi
  rw [hseen] at hx2
  obtain ⟨p,hpL,hp1,hp2⟩:=k3.at_ hi
  have hpx:p=x.1:=by
   rw [List.getElem?_map,hx] at hpL
   exact (Option.some.inj hpL).symm
  subst hpx
  have hit:i ∈ Kl cs 0:=todo_mem.2 ⟨i,x,by omega,hx,hx2⟩
  obtain ⟨i0,is,htd⟩:∃ i0 is,Kl cs 0=i0 :: is:=by
   cases ht:Kl cs 0 with
   | nil=>rw [ht] at hit;cases hit
   | cons i0 is=>exact ⟨i0,is,rfl⟩
  rw [htd] at h
  dsimp only at h
  rw [← htd] at h
  generalize hEv:evP std Γ m.rN (env.put m.n0 (.tup [.bool true,.top,.top])) σ=ev at h
  obtain ⟨ok,e1,σ1⟩:=ev
  dsimp only at h
  cases hc:(ok && Mg true (evS e1 (.slot m.n1)) && isPtr bi (evS e1 (.slot m.it))) with
  | false=>rw [hc] at h;cases h
  | true =>
  rw [hc] at h
  dsimp only [cond_true] at h
  simp only [Bool.and_eq_true] at hc
  obtain ⟨M,hM,hML⟩:=bindL_mem h i hit
  unfold mround at hM
  rw [hx] at hM
  dsimp only at hM
  generalize hEe:evP std Γ m.rE (e1.put m.e0 (.tup [x.1.1,x.1.2])) σ1=ee at hM
  obtain ⟨ok2,e2,σ2⟩:=ee
  dsimp only at hM
  cases ok2 with
  | false=>cases hM
  | true =>
  dsimp only [cond_true] at hM
  cases hbd:bd bm (cs.set i (x.1,true)) i e2 σ2 with
  | none=>rw [hbd] at hM;cases hM
  | some o =>
  rw [hbd] at hM
  dsimp only at hM
  have hr2:=hr.turnH (o:=.mapIter (some c) ck (seen.push e.born) ck) hw1 hl.hi hl.gi
  have hY2:=hY.turnH (o:=.mapIter (some c) ck (seen.push e.born) ck) hr hw1 hl.hi hl.gi
  have hr0:=hl.r0
  have hs2:=hs.turnH (r:=r) (o:=.mapIter (some c) ck (seen.push e.born) ck) hw1 (.inr hr0) (fun b d o _ _ hlt=>by omega)
  have hh2:=Hh (W:=W) (r:=r) (o:=.mapIter (some c) ck (seen.push e.born) ck) hw1
  have hd2:MkB B ρ (setBlock w1 r (.mapIter (some c) ck (seen.push e.born) ck)) a:=⟨hd.1.turnH hw1 hl.hi,hd.2⟩
  have hrlt:r < W.heap.size:=(Array.getElem?_eq_some_iff.1 k1).1
  have hl2:LSt bm bi c r ck dm N ρ0 σ0 W0 (cs.set i (x.1,true)) ρ σ (setBlock w1 r (.mapIter (some c) ck (seen.push e.born) ck)):=by
   refine ⟨hl.hm,hl.hi,hl.gm,hl.gi,hl.ne,hl.r0,hl.c0,hl.cro,hl.bro,seen.push e.born,es,?_,?_,?_,k4,k5,fun j ej hj=>?_⟩
   ·rw [hh2,Array.getElem?_setIfInBounds_self_of_lt hrlt]
   ·rw [hh2,Array.getElem?_setIfInBounds_ne (Ne.symm hl.ne)];exact k2
   ·have:(cs.set i (x.1,true)).map (·.1)=cs.map (·.1):=by
     rw [List.map_set]
     apply List.ext_getElem?
     intro j
     rw [List.getElem?_set]
     split
     ·rename_i hij
      subst hij
      rw [List.getElem?_map,hx]
      split
      ·rfl
      ·rename_i hlt
       exact absurd (by rw [List.length_map];exact (List.getElem?_eq_some_iff.1 hx).1) hlt
     ·rfl
    rw [this];exact k3
   ·obtain ⟨y,hy,hy2⟩:=k6 j ej hj
    rw [List.getElem?_set]
    by_cases hij:i=j
    ·subst hij
     rw [hi] at hj;cases hj
     rw [if_pos rfl,if_pos (List.getElem?_eq_some_iff.1 hx).1]
     exact ⟨_,rfl,by simp⟩
    ·rw [if_neg hij]
     refine ⟨y,hy,?_⟩
     rw [hy2]
     have hne:ej.born ≠ e.born:=by
      have hnd:=nodup_born k4
      intro heq
      apply hij
      have h1:(es.toList.map (·.born))[i]?=some e.born:=by rw [List.getElem?_map,hi];rfl
      have h2:(es.toList.map (·.born))[j]?=some e.born:=by rw [List.getElem?_map,hj];simp [heq]
      exact (List.getElem?_inj (List.getElem?_eq_some_iff.1 h1).1 hnd).1 (h1.trans h2.symm)
     rw [Array.contains_push]
     simp [hne]
  generalize setBlock w1 r (.mapIter (some c) ck (seen.push e.born) ck)=W2 at hrun hr2 hY2 hs2 hh2 hd2 hl2
  refine Fm (o:=oN) (v:=.tuple #[.bool true,e.key,e.val]) (W':=W2) (hatN 0) hN2 hnd1 (by simp only [execOp,hN1,hevN,Sem.run_bind,hrun];rfl) ?_
  have he1:ER G nt ρ (env.put m.n0 (.tup [.bool true,.top,.top])) (a.put oN.dst (.tuple #[.bool true,e.key,e.val])):=by
   rw [hN3]
   exact he.put (d:=some m.n0) (fun t h=>by cases h;exact hn0) (by unfold VR;exact ⟨[.bool true,e.key,e.val],rfl,_,_,rfl,by unfold VR;rfl,_,_,rfl,by unfold VR;trivial,_,_,rfl,by unfold VR;trivial,rfl⟩)
  refine Er hΓ lN m.rN 1 hrN (fun j=>by rw [hatN,Nat.add_comm,List.getElem?_cons_succ]) hY2 hr2 he1 (by rw [hEv];exact hc.1.1) fun ρ3 a3 W3 q1 q2 q3 q4=>?_
  rw [hEv] at q1 q2 q3
  dsimp only at q1 q2 q3
  have hl3:=hl2.step (M:=0) hr2 q3
  have hY3:=hY2.step (fun y hy=>(hY2 y hy).lt) q3
  have hs3:=hs2.trans q3 hs2.next
  have hd3:MkB B ρ3 W3 a3:=by
   have e:a3.defers=a.defers:=by rw [q4];cases oN.dst <;> rfl
   unfold MkB;rw [e];exact ⟨hd2.1.step q3,hd2.2⟩
  refine wpIn_seq (wpIn_cond_true (by have hh:=q2.ev (.tmp m.n1);change VR ρ3 (evS e1 (.slot m.n1)) _ at hh;rw [isBool_eq hc.1.2] at hh;unfold VR at hh;exact hh) (wpIn_skip ?_))
  show (Code.block m.id1 (.seq (.region i2 OE false) BODY)).wpIn (fen ro) 0 P _ a3 W3
  refine wpIn_block (wpIn_seq (wpIn_region ?_))
  rw [List.range_eq_range',hszE,List.range'_succ]
  have hevE:=hev q2 hl3.hi hc.2
  obtain ⟨seen3,es3,x1,x2,x3,x4,x5,x6⟩:=hl3.ex
  have hrE3:W3.heap[r]?=some (.mapIter (some c) ck (seen.push e.born) ck):=by
   obtain ⟨b1,b2,_⟩:=hr2.dom _ _ _ hl2.hi
   rw [(q3.ro bi r (0,0) _ b1 hl2.hi b2 hl2.gi rfl).2,hh2,Array.getElem?_setIfInBounds_self_of_lt hrlt]
  have hcE3:W3.heap[c]?=some (.map es ck):=by
   obtain ⟨b1,b2,_⟩:=hr2.dom _ _ _ hl2.hm
   rw [(q3.ro bm c dm _ b1 hl2.hm b2 hl2.gm rfl).2,hh2,Array.getElem?_setIfInBounds_ne (Ne.symm hl.ne)];exact k2
  have hrunE:=run_entry_at (P:=P) W3 r c ck seen es ck e hrE3 hcE3 hes (nodup_born k4)
  refine Fm (o:=oE) (v:=.tuple #[e.key,e.val]) (W':=W3) (hatE 0) hE2 hnd2 (by simp only [execOp,hE1,hevE,Sem.run_bind,hrunE];rfl) ?_
  have hsub3:Sub ρ ρ3:=q3.sub hr2
  have he4:ER G nt ρ3 (e1.put m.e0 (.tup [x.1.1,x.1.2])) (a3.put oE.dst (.tuple #[e.key,e.val])):=by
   rw [hE3]
   exact q2.put (d:=some m.e0) (fun t h=>by cases h;exact he0) (by unfold VR;exact ⟨[e.key,e.val],rfl,_,_,rfl,hp1.mono hsub3,_,_,rfl,hp2.mono hsub3,rfl⟩)
  refine Er hΓ lE m.rE 1 hrE (fun j=>by rw [hatE,Nat.add_comm,List.getElem?_cons_succ]) hY3 q1 he4 (by rw [hEe]) fun ρ5 a5 W5 g1 g2 g3 g4=>?_
  rw [hEe] at g1 g2 g3
  dsimp only at g1 g2 g3
  have hl5:=hl3.step (M:=0) q1 g3
  have hY5:=hY3.step (fun y hy=>(hY3 y hy).lt) g3
  have hs5:=hs3.trans g3 hs3.next
  have hd5:MkB B ρ5 W5 a5:=by
   have e:a5.defers=a3.defers:=by rw [g4];cases oE.dst <;> rfl
   unfold MkB;rw [e];exact ⟨hd3.1.step g3,hd3.2⟩
  refine wpIn_mono (hB _ _ _ _ _ _ hbd st hl5 g1 hY5 g2 hs5 hd5) fun ex a6 W6 ⟨hex,ρ6,z1,z2,z3,z4,z5,z6⟩=>?_
  obtain ⟨oe,oenv,oσ,ocs⟩:=o
  dsimp only at hex z1 z2 z3 z4 z5 z6
  have hgo:mgo std Γ m bm bi bd n ocs oenv oσ=some M → J n a6 W6:=fun hM'=>⟨ρ6,oσ,ocs,oenv,M,hM',fun o ho=>hLs o (hML o ho),z1,z2,z3,z4,z5,z6⟩
  subst hex
  cases oe with
  | normal=>exact ⟨n,Nat.lt_succ_self n,hgo hM⟩
  | exit j =>
   have hM:(bif Nat.beq j m.id1 then mgo std Γ m bm bi bd n ocs oenv oσ else none)=some M:=hM
   cases hj:Nat.beq j m.id1 with
   | false=>rw [hj] at hM;cases hM
   | true =>
    rw [hj] at hM
    have hj:=Nat.eq_of_beq_eq_true hj
    simp only [AX.out,Exit.inBlock]
    rw [if_pos hj]
    exact ⟨n,Nat.lt_succ_self n,hgo hM⟩
  | ret =>
   have hM:some [(AX.ret,oenv,shw bm ocs oσ)]=some M:=hM
   cases hM
   obtain ⟨u1,u2⟩:=z1.show z2 z5
   exact hQ _ (hLs _ (hML _ List.mem_cons_self)) ρ6 a6 W6 u1 z4 u2 z6
theorem Me:∀ {l k:List Oper} {o:Oper},Ih l=some (k,o) → l=k ++ [o]
 | [],_,_,h=>by cases h
 | x :: l,k,o,h=>by
  unfold Ih at h
  cases hl:Ih l with
  | none =>
   rw [hl] at h
   cases h
   cases l with
   | nil=>rfl
   | cons y l=>unfold Ih at hl;split at hl <;> cases hl
  | some p =>
   obtain ⟨k',o'⟩:=p
   rw [hl] at h
   cases h
   rw [Me hl];rfl
theorem del_at {c:Nat} {es:Array MapEntry} {ck:Nat} {l:List (AV × AV)} {ay:AV} {args:Array Operand} {ats:Array TypeId} {t k e:TypeId} {ks:List CK} {r:List TypeId} {o:Oper} {a:Act} {xm xk:Operand}
  (hop:o.op=.call { callee:=.builtin .delete,args:=args,argTypes:=ats }) (h1:W.heap[c]?=some (.map es ck)) (hM:MapL ρ l es.toList) (hat:ats.toList=t :: r) (hargs:args.toList=[xm,xk]) (ht:P.underlying t=some (.map k e)) (hk:Bm P 100 k=some ks) (hsc:Az P k=true)
  (hx:a.eval xm=.map (some c)) (hy:VR ρ ay (a.eval xk)) (hok:(B4 std true ks ay l 0).1=true) :
  ∃ es':Array MapEntry,(execOp a.eval o).run P W=.ok (.value (.tuple #[])) (setBlock W c (.map es' ck)) ∧ es'.toList=(match (B4 std true ks ay l 0).2 with | some (j,_)=>es.toList.eraseIdx j | none=>es.toList):=by
 have e1:ats[0]?=some t:=by rw [← Array.getElem?_toList,hat];rfl
 obtain ⟨r',h5,h6⟩:=Hc (P:=P) (W:=W) hk hsc hy hM hok
 have hset:∀ es':Array MapEntry,(setObj c (.map es' ck)).run P W=.ok () (setBlock W c (.map es' ck)):=fun es'=>by simp [setObj,Sem.run,h1,setBlock]
 have hal:args.map a.eval=#[.map (some c),a.eval xk]:=by apply Array.ext';rw [Array.toList_map,hargs];simp [hx]
 have hrun:∀ es':Array MapEntry,(Builtin.delete_ ats o.type #[.map (some c),a.eval xk]).run P W=.ok (.tuple #[]) (setBlock W c (.map es' ck)) → (execOp a.eval o).run P W=.ok (.value (.tuple #[])) (setBlock W c (.map es' ck)):=by
  intro es' h
  simp only [execOp,hop,resolve,Sem.run_bind,Sem.run_pure,Result.andThen_ok,invoke,hal]
  rw [show ∀ cs,builtin .delete ats o.type cs #[.map (some c),a.eval xk]=(do let v ← Builtin.delete_ ats o.type #[.map (some c),a.eval xk];pure (.value v)) from fun _=>rfl]
  simp only [Sem.run_bind,h,Result.andThen_ok,Sem.run_pure]
 cases hf:(B4 std true ks ay l 0).2 with
 | none =>
  rw [hf] at h6
  cases r' with
  | some q=>exact h6.elim
  | none =>
   refine ⟨es,hrun _ ?_,rfl⟩
   simp only [Builtin.delete_]
   simp only [e1,List.getElem?_toArray,List.getElem?_cons_zero,List.getElem?_cons_succ,Sem.run_bind,run_underlying ht,Result.andThen_ok,Cb h1,Cf hsc,h5,hset,Sem.run_pure]
 | some p =>
  obtain ⟨j,v0⟩:=p
  rw [hf] at h6
  cases r' with
  | none=>exact h6.elim
  | some q =>
   obtain ⟨j',u0⟩:=q
   obtain ⟨hj,_⟩:=h6
   simp only at hj
   subst hj
   refine ⟨es.eraseIdxIfInBounds j,hrun _ ?_,by simp⟩
   simp only [Builtin.delete_]
   simp only [e1,List.getElem?_toArray,List.getElem?_cons_zero,List.getElem?_cons_succ,Sem.run_bind,run_underlying ht,Result.andThen_ok,Cb h1,Cf hsc,h5,hset,Sem.run_pure]
theorem MkB.defers {a a':Act} (h:MkB B ρ W a) (e:a'.defers=a.defers):MkB B ρ W a':=by unfold MkB;rw [e];exact h
theorem put_defers (a:Act) (d:Option Nat) (u:Value):(a.put d u).defers=a.defers:=by cases d <;> rfl
theorem bdD_ok {ro:Option Nat} {BODY:Code} {q:MD} (hΓ:GamOk P G Γ Y) (h:delOf P G nt BODY=some q):Mt P G nt Y ro BODY (bdD std Γ q):=by
 unfold delOf at h
 split at h
 ·rename_i j1 R1 cc j2 R2
  split at h
  ·rename_i l2 oD hlast
   split at h
   ·rename_i args ats hop
    split at h
    ·rename_i xm xk hargs
     split at h
     ·rename_i t tl hat
      split at h
      ·rename_i k e ht
       split at h
       ·rename_i ks hk
        generalize hcb:(Az P k && oD.guard.isNone && (match oD.dst with | none=>true | some d=>Nat.blt d nt))=cb at h
        cases cb with
        | false=>cases h
        | true =>
        dsimp only [cond_true] at h
        split at h
        ·rename_i r1 hr1
         split at h
         ·rename_i r2 hr2
          cases h
          simp only [Bool.and_eq_true] at hcb
          obtain ⟨⟨hsc,hgd⟩,hdst⟩:=hcb
          have hg:oD.guard=none:=by cases hg:oD.guard <;> first | rfl | (rw [hg] at hgd;cases hgd)
          have hdl:∀ d,oD.dst=some d → d < nt:=fun d hd=>by rw [hd] at hdst;rwa [Nat.blt_eq] at hdst
          have hlist:=Me hlast
          intro bm cs i env σ o ho bi c r ck dm N B ρ0 ρ σ0 W0 W a st hl hr hY he hs hd
          unfold bdD at ho
          dsimp only at ho
          generalize hE1:evP std Γ r1 env σ=ev1 at ho
          obtain ⟨ok,e1,σ1⟩:=ev1
          dsimp only at ho
          cases ok with
          | false=>cases ho
          | true =>
          dsimp only [cond_true] at ho
          refine wpIn_seq (wpIn_region ?_)
          have hlN:R1.size=R1.toList.length:=by simp
          rw [List.range_eq_range',hlN]
          refine Er hΓ R1.toList r1 0 hr1 (fun j=>by simp) hY hr he (by rw [hE1]) fun ρ1 a1 W1 q1 q2 q3 q4=>?_
          rw [hE1] at q1 q2 q3
          dsimp only at q1 q2 q3
          have hl1:=hl.step (M:=0) hr q3
          have hY1:=hY.step (fun y hy=>(hY y hy).lt) q3
          have hs1:=hs.trans q3 hs.next
          have hd1:MkB B ρ1 W1 a1:=MkB.defers (a:=a) ⟨hd.1.step q3,hd.2⟩ q4
          have hv:=q2.ev cc
          cases hc:evS e1 (rfS G cc) <;> rw [hc] at ho hv <;> try (cases ho;done)
          rename_i tb
          unfold VR at hv
          dsimp only at ho
          cases tb with
          | false =>
           cases ho
           exact wpIn_cond_false hv (wpIn_skip ⟨rfl,ρ1,hl1,q1,hY1,q2,hs1,hd1⟩)
          | true =>
           dsimp only [cond_true] at ho
           refine wpIn_cond_true hv (wpIn_region ?_)
           generalize hE2:evP std Γ r2 e1 σ1=ev2 at ho
           obtain ⟨ok2,e2,σ2⟩:=ev2
           dsimp only at ho
           cases ok2 with
           | false=>cases ho
           | true =>
           dsimp only [cond_true] at ho
           have hlen2:R2.size=l2.length + 1:=by rw [← Array.length_toList,hlist];simp
           have hat2:∀ j,R2[j]?=(l2 ++ [oD])[j]?:=fun j=>by rw [← hlist,Array.getElem?_toList]
           rw [List.range_eq_range',hlen2]
           refine K3 hΓ 1 l2 r2 0 hr2 (fun j hj=>by rw [hat2,Nat.zero_add,List.getElem?_append_left hj]) hY1 q1 q2 (by rw [hE2]) fun ρ2 a2 W2 g1 g2 g3 g4=>?_
           rw [hE2] at g1 g2 g3
           dsimp only at g1 g2 g3
           have hl2:=hl1.step (M:=0) q1 g3
           have hY2:=hY1.step (fun y hy=>(hY1 y hy).lt) g3
           have hs2:=hs1.trans g3 hs1.next
           have hd2:MkB B ρ2 W2 a2:=MkB.defers (a:=a1) ⟨hd1.1.step g3,hd1.2⟩ g4
           have hvm:=g2.ev xm
           have hvk:=g2.ev xk
           cases hcm:evS e2 (rfS G xm) <;> rw [hcm] at ho hvm <;> try (cases ho;done)
           rename_i b
           dsimp only at ho
           cases hbb:Nat.beq b bm with
           | false=>rw [hbb] at ho;cases ho
           | true =>
           rw [hbb] at ho
           obtain rfl:=Nat.eq_of_beq_eq_true hbb
           dsimp only [cond_true] at ho
           generalize hfa:B4 std true ks (evS e2 (rfS G xk)) (cs.map (·.1)) 0=fr at ho
           obtain ⟨ok3,rr⟩:=fr
           dsimp only at ho
           cases ok3 with
           | false=>cases ho
           | true =>
           cases ho
           have hxm:a2.eval xm=.map (some c):=by
            unfold VR at hvm
            obtain ⟨c1,d1,u1,u2⟩:=hvm
            rw [hl2.hm] at u1;cases u1;exact u2
           obtain ⟨seen,es,k1,k2,k3,k4,k5,k6⟩:=hl2.ex
           obtain ⟨es',hrun,hes'⟩:=del_at (P:=P) hop k2 k3 hat hargs ht hk hsc hxm hvk (by rw [hfa])
           rw [hfa] at hes'
           dsimp only at hes'
           rw [Nat.zero_add,List.range'_succ]
           refine Fm (o:=oD) (by rw [hat2,List.getElem?_append_right (Nat.le_refl _),Nat.sub_self];rfl) hg (fun c e=>by rw [hop] at e;cases e) hrun ?_
           have hr3:=g1.turnH (w1:=W2) (o:=.map es' ck) (.inl rfl) hl2.hm hl2.gm
           have hY3:=hY2.turnH (w1:=W2) (o:=.map es' ck) g1 (.inl rfl) hl2.hm hl2.gm
           have hs3:=hs2.turnH (w1:=W2) (o:=.map es' ck) (.inl rfl) hl2.c0 hl2.cro
           have hd3:MkB B ρ2 (setBlock W2 c (.map es' ck)) (a2.put oD.dst (.tuple #[])):=MkB.defers (a:=a2) ⟨hd2.1.turnH (.inl rfl) hl2.hm,hd2.2⟩ (put_defers _ _ _)
           have he3:ER G nt ρ2 (Hz e2 oD.dst (.tup [])) (a2.put oD.dst (.tuple #[])):=g2.put hdl (by unfold VR;exact ⟨[],rfl,rfl⟩)
           have hclt:c < W2.heap.size:=(Array.getElem?_eq_some_iff.1 k2).1
           refine ⟨rfl,ρ2,⟨hl2.hm,hl2.hi,hl2.gm,hl2.gi,hl2.ne,hl2.r0,hl2.c0,hl2.cro,hl2.bro,seen,es',?_,?_,?_,?_,?_,?_⟩,hr3,hY3,he3,hs3,hd3⟩
           ·show (W2.heap.setIfInBounds c _)[r]?=_
            rw [Array.getElem?_setIfInBounds_ne hl2.ne];exact k1
           ·show (W2.heap.setIfInBounds c _)[c]?=_
            rw [Array.getElem?_setIfInBounds_self_of_lt hclt]
           ·rw [hes']
            cases rr with
            | none=>exact k3
            | some p =>
             have e:(cs.eraseIdx p.1).map (·.1)=(cs.map (·.1)).eraseIdx p.1:=by
              apply List.ext_getElem?
              intro j
              rw [List.getElem?_map,List.getElem?_eraseIdx,List.getElem?_eraseIdx]
              split <;> rw [List.getElem?_map]
             show MapL ρ2 ((cs.eraseIdx p.1).map (·.1)) (es.toList.eraseIdx p.1)
             rw [e];exact k3.erase p.1
           ·rw [hes']
            cases rr with
            | none=>exact k4
            | some p=>exact k4.sublist (List.eraseIdx_sublist _ _)
           ·rw [hes']
            cases rr with
            | none=>exact k5
            | some p=>exact fun e he=>k5 e (List.mem_of_mem_eraseIdx he)
           ·rw [hes']
            cases rr with
            | none=>exact k6
            | some p =>
             intro j e hj
             show ∃ x,(cs.eraseIdx p.1)[j]?=some x ∧ _
             have hj:(es.toList.eraseIdx p.1)[j]?=some e:=hj
             rw [List.getElem?_eraseIdx] at hj ⊢
             split at hj
             ·rename_i hlt;rw [if_pos hlt];exact k6 j e hj
             ·rename_i hlt;rw [if_neg hlt];exact k6 (j + 1) e hj
         ·cases h
        ·cases h
       ·cases h
      ·cases h
     ·cases h
    ·cases h
   ·cases h
  ·cases h
 ·cases h
theorem YInv.put {b:Nat} {o:AObj} (h:YInv Y ρ σ W) (hs:b < 1048576) (hb:∀ y ∈ Y,y.l ≠ b):YInv Y ρ (σ.put b o) W:=fun y hy =>
 ⟨(h y hy).lt,by rw [AH.get_put hs,if_neg (hb y hy)];exact (h y hy).get,(h y hy).at_,(h y hy).rec_,(h y hy).sub⟩
theorem mfr_go {ro:Option Nat} (hΓ:GamOk P G Γ Y) (st:Start Y N B ρ0 σ0 W0) {i0:Nat} {O0 ON OE:Array Oper} {l0 lN lE:List Oper} {oR oN oE:Oper} {t kt et:TypeId} {x0:Operand} {it id i1 n1 id1 i2 n0 e0:Nat} {pre rN rE:List CRow} {BODY:Code} {bd:Bd} {env:T AV} {L:List (AX × T AV × AH)} {a:Act} {Q:Exit → Act → World → Prop}
  (hlast:Ih O0.toList=some (l0,oR)) (hop:oR.op=.range t x0) (ht:P.underlying t=some (.map kt et)) (hg:oR.guard=none) (hdst:oR.dst=some it) (hbl:it < nt) (hpre:Cw P nt (rfS G) O0 l0=some pre)
  (hON:ON.toList=oN :: lN) (hOE:OE.toList=oE :: lE) (hN1:oN.op=.next (.tmp it) false) (hE1:oE.op=.entry (.tmp it)) (hgN:oN.guard=none) (hgE:oE.guard=none) (hdN:oN.dst=some n0) (hdE:oE.dst=some e0) (hn0:n0 < nt) (he0:e0 < nt)
  (hrN:Cw P nt (rfS G) ON lN=some rN) (hrE:Cw P nt (rfS G) OE lE=some rE) (hB:Mt P G nt Y ro BODY bd) (h:mfr std Γ pre (rfS G x0) ⟨it,n0,n1,e0,id1,rN,rE⟩ bd env σ=some L)
  (hr:HR ρ σ W) (hY:YInv Y ρ σ W) (he:ER G nt ρ env a) (hs:Stp N ρ0 σ0 W0 ρ σ W) (hd:MkB B ρ W a)
  (hQ:∀ o ∈ L,∀ ρ' a' W',HR ρ' o.2.2 W' → ER G nt ρ' o.2.1 a' → Stp N ρ0 σ0 W0 ρ' o.2.2 W' → MkB B ρ' W' a' → Q o.1.out a' W') :
  (Code.region i0 O0 false).wpIn (fen ro) 0 P (Exit.then (fun a' W'=>(Code.block id (.loop (.seq (.region i1 ON false) (.seq (.cond (.tmp n1) .skip (.exit id)) (.block id1 (.seq (.region i2 OE false) BODY)))))).wpIn (fen ro) 0 P Q a' W') Q) a W:=by
 unfold mfr at h
 generalize hE1':evP std Γ pre env σ=ev at h
 obtain ⟨ok,e1,σ1⟩:=ev
 dsimp only at h
 cases hok:(ok && Nat.blt σ1.next 1000000) with
 | false=>rw [hok] at h;cases h
 | true =>
 rw [hok] at h
 rw [Bool.and_eq_true,Nat.blt_eq] at hok
 dsimp only [cond_true] at h
 have hlist:=Me hlast
 have hlen:O0.size=l0.length + 1:=by rw [← Array.length_toList,hlist];simp
 have hat:∀ j,O0[j]?=(l0 ++ [oR])[j]?:=fun j=>by rw [← hlist,Array.getElem?_toList]
 refine wpIn_region ?_
 rw [List.range_eq_range',hlen]
 refine K3 hΓ 1 l0 pre 0 hpre (fun j hj=>by rw [hat,Nat.zero_add,List.getElem?_append_left hj]) hY hr he (by rw [hE1'];exact hok.1) fun ρ1 a1 W1 q1 q2 q3 q4=>?_
 rw [hE1'] at q1 q2 q3
 dsimp only at q1 q2 q3
 have hY1:=hY.step (fun y hy=>(hY y hy).lt) q3
 have hs1:=hs.trans q3 hs.next
 have hd1:MkB B ρ1 W1 a1:=MkB.defers (a:=a) ⟨hd.1.step q3,hd.2⟩ q4
 have hv:=q2.ev x0
 cases hc:evS e1 (rfS G x0) <;> rw [hc] at h hv <;> try (cases h;done)
 rename_i bm
 dsimp only at h
 unfold VR at hv
 obtain ⟨c,dm,hρ,hxv⟩:=hv
 cases hgm:σ1.get bm with
 | none=>rw [hgm] at h;cases h
 | some o =>
 rw [hgm] at h
 cases o <;> try (cases h;done)
 rename_i l
 dsimp only at h
 obtain ⟨es,ck,k2,k3,k4,k5⟩:=q1.map_at hρ hgm
 obtain ⟨hbn,hcW,_⟩:=q1.dom _ _ _ hρ
 have hsm:=q1.small
 have hrun:(execOp a1.eval oR).run P W1=.ok (.value (.pointer (some ⟨W1.heap.size,0,none⟩))) (W1.alloc (.mapIter (some c) ck #[] ck)):=by
  simp only [execOp,hop,hxv,Sem.run_bind,run_range_map W1 t kt et c es ck ht k2];rfl
 rw [Nat.zero_add,List.range'_succ]
 refine Fm (o:=oR) (by rw [hat,List.getElem?_append_right (Nat.le_refl _),Nat.sub_self];rfl) hg (fun c e=>by rw [hop] at e;cases e) hrun ?_
 have hbro:∀ o0,bm < N → σ0.get bm=some o0 → o0.isRo=false:=fun o0 hb ho=>by
  cases hro:o0.isRo with
  | false=>rfl
  | true =>
   have e0:ρ0 bm=some (c,dm):=by rw [← hs1.ext bm hb];exact hρ
   have:=(hs1.ro bm c dm o0 hb e0 (st.hr.dom _ _ _ e0).2.1 ho hro).1
   rw [hgm] at this;cases this;cases hro
 have hcro:∀ b d o,b < N → ρ0 b=some (c,d) → c < W0.heap.size → σ0.get b=some o → o.isRo=false:=fun b d o hb hb0 hc0 ho=>by
  cases hro:o.isRo with
  | false=>rfl
  | true =>
   have h1:=(hs1.ro b c d o hb hb0 hc0 ho hro).1
   by_cases hbb:b=bm
   ·subst hbb;rw [hgm] at h1;cases h1;cases hro
   ·have:=(q1.inj bm b c dm d hρ (by rw [hs1.ext b hb];exact hb0) (Ne.symm hbb)).left hgm rfl rfl
    rw [h1] at this;cases this;cases hro
 have hr2:=q1.hide hρ hgm
 have hs2:=hs1.setM (o:=.hid) (by omega) hρ hbro
 have hY2:YInv Y ρ1 (σ1.put bm .hid) W1:=hY1.put (by omega) fun y hy e=>by
  have:=(hY1 y hy).get
  rw [e,hgm] at this;cases this
 obtain ⟨ρ2,n1',n2,n3,n4⟩:=hr2.new (o:=.hid) (x:=.mapIter (some c) ck #[] ck) (s:=0) (by show Nat.blt σ1.next _=true;rw [Nat.blt_eq];exact hok.2) OR.hid
 have n3:HR ρ2 ((σ1.put bm .hid).new .hid) (W1.alloc (.mapIter (some c) ck #[] ck)):=n3
 have hs3:=hs2.trans n4 hs2.next
 have hY3:=hY2.step (fun y hy=>(hY2 y hy).lt) n4
 have hsz:=hs1.size
 have hg2:∀ m,((σ1.put bm .hid).new .hid).get m=if m=σ1.next then some .hid else if m=bm then some .hid else σ1.get m:=fun m=>by
  rw [AH.get_new (by show σ1.next < _;omega),AH.get_put (by omega)];rfl
 have hl:LSt bm σ1.next c W1.heap.size ck dm N ρ0 σ0 W0 (l.map fun p=>(p,false)) ρ2 ((σ1.put bm .hid).new .hid) (W1.alloc (.mapIter (some c) ck #[] ck)):=by
  refine ⟨n2 _ _ hρ,n1',?_,?_,Nat.ne_of_lt hcW,hsz,hs1.img bm c dm hρ,hcro,hbro,#[],es,heap_alloc_new _ _,(heap_alloc_old _ _ hcW).trans k2,?_,k4,k5,fun i e hi=>?_⟩
  ·rw [hg2,if_neg (by omega),if_pos rfl]
  ·rw [hg2,if_pos rfl]
  ·have e:(l.map fun p=>(p,false)).map (·.1)=l:=by rw [List.map_map];exact List.map_id _
   rw [e];exact k3.mono n2
  ·obtain ⟨p,hp,_⟩:=k3.at_ hi
   exact ⟨(p,false),by rw [List.getElem?_map,hp];rfl,by simp⟩
 have he3:ER G nt ρ2 (e1.put it (.ptr σ1.next 0)) (a1.put oR.dst (.pointer (some ⟨W1.heap.size,0,none⟩))):=by
  rw [hdst]
  exact (q2.sub n2).put (d:=some it) (fun t h=>by cases h;exact hbl) (by unfold VR;exact ⟨_,_,n1',by simp⟩)
 have hd3:MkB B ρ2 (W1.alloc (.mapIter (some c) ck #[] ck)) (a1.put oR.dst (.pointer (some ⟨W1.heap.size,0,none⟩))):=MkB.defers (a:=a1) ⟨hd1.1.step n4,hd1.2⟩ (put_defers _ _ _)
 exact mloop hΓ st hON hN1 hgN hdN hrN hOE hE1 hgE hdE hrE hn0 he0 hB hQ h hl n3 hY3 he3 hs3 hd3
theorem mfr_sound {ro:Option Nat} (hΓ:GamOk P G Γ Y) (st:Start Y N B ρ0 σ0 W0) {x y:Code} {pre:List CRow} {xr:Ref} {it:Nat} {m:ML} {BODY:Code} {bd:Bd} {env:T AV} {L:List (AX × T AV × AH)} {a:Act} {Q:Exit → Act → World → Prop}
  (hx:Ga P G nt x=some (pre,xr,it)) (hy:Id P G nt it y=some (m,BODY)) (hB:Mt P G nt Y ro BODY bd) (h:mfr std Γ pre xr m bd env σ=some L)
  (hr:HR ρ σ W) (hY:YInv Y ρ σ W) (he:ER G nt ρ env a) (hs:Stp N ρ0 σ0 W0 ρ σ W) (hd:MkB B ρ W a)
  (hQ:∀ o ∈ L,∀ ρ' a' W',HR ρ' o.2.2 W' → ER G nt ρ' o.2.1 a' → Stp N ρ0 σ0 W0 ρ' o.2.2 W' → MkB B ρ' W' a' → Q o.1.out a' W') :
  x.wpIn (fen ro) 0 P (Exit.then (fun a' W'=>y.wpIn (fen ro) 0 P Q a' W') Q) a W:=by
 unfold Ga at hx
 split at hx
 ·rename_i i0 O0
  split at hx
  ·rename_i l0 oR hlast
   split at hx
   ·rename_i t x0 hop
    split at hx
    ·rename_i kt et ht
     split at hx
     ·rename_i hg
      split at hx
      ·rename_i it' hdst
       generalize hbl:Nat.blt it' nt=bl at hx
       cases bl with
       | false=>cases hx
       | true =>
       rw [Nat.blt_eq] at hbl
       dsimp only [cond_true] at hx
       split at hx
       ·rename_i pre' hpre
        cases hx
        unfold Id at hy
        split at hy
        ·rename_i id i1 ON n1 id' id1 i2 OE BODY'
         generalize hid:Nat.beq id' id=bi at hy
         cases bi with
         | false=>cases hy
         | true =>
         obtain rfl:=Nat.eq_of_beq_eq_true hid
         dsimp only [cond_true] at hy
         split at hy
         ·rename_i oN lN hON
          split at hy
          ·rename_i oE lE hOE
           split at hy
           ·rename_i t1 hN1
            split at hy
            ·rename_i t2 hE1
             generalize hcb:(Nat.beq t1 it && Nat.beq t2 it && oN.guard.isNone && oE.guard.isNone)=cb at hy
             cases cb with
             | false=>cases hy
             | true =>
             simp only [Bool.and_eq_true,Nat.beq_eq] at hcb
             obtain ⟨⟨⟨rfl,rfl⟩,hgN⟩,hgE⟩:=hcb
             have hgN:oN.guard=none:=by cases hg:oN.guard <;> first | rfl | (rw [hg] at hgN;cases hgN)
             have hgE:oE.guard=none:=by cases hg:oE.guard <;> first | rfl | (rw [hg] at hgE;cases hgE)
             dsimp only [cond_true] at hy
             split at hy
             ·rename_i n0 hdN
              split at hy
              ·rename_i e0 hdE
               generalize hcb:(Nat.blt n0 nt && Nat.blt e0 nt)=cb at hy
               cases cb with
               | false=>cases hy
               | true =>
               simp only [Bool.and_eq_true,Nat.blt_eq] at hcb
               dsimp only [cond_true] at hy
               split at hy
               ·rename_i rN hrN
                split at hy
                ·rename_i rE hrE
                 cases hy
                 exact mfr_go hΓ st hlast hop ht hg hdst hbl hpre hON hOE hN1 hE1 hgN hgE hdN hdE hcb.1 hcb.2 hrN hrE hB h hr hY he hs hd hQ
                ·cases hy
               ·cases hy
              ·cases hy
             ·cases hy
            ·cases hy
           ·cases hy
          ·cases hy
         ·cases hy
        ·cases hy
       ·cases hx
      ·cases hx
     ·cases hx
    ·cases hx
   ·cases hx
  ·cases hx
 ·cases hx
end
end
end Go.Proofs.YtfdfdagbeeeomaaDoor.V2
