/- Part 3 of the proof: texts of the proof. -/
import Derived.Test.YtfdfdagbeeeomaaDoorQL2
import Derived.OrdersIn
import Derived.RangeFuncIn
import Derived.Test.YtfdfdagbeeeomaaDoorRows
import Derived.WalkKit
import Derived.Orders
namespace Go.Proofs.YtfdfdagbeeeomaaDoor.V2
open Go
section
variable {P:Program} {W:World} {ρ:Ren} {σ:AH} {a:Act} {rf:Operand → Ref} {ev:Ref → AV} {ao:AOp}
theorem mark_run (hr:HR ρ σ W) {t e:TypeId} {x:Value} {ax:AV} (ht:P.underlying t=some (.slice e)) (he:P.underlying e=some (.int .u8)) (hx:VR ρ ax x) :
  Runs P (do let v ← convert t t x;pure (.value v)) W ρ σ (Bb std σ .mark [ax]):=by
 intro hok
 simp only [Bb] at hok ⊢
 cases ax <;> try (cases hok;done)
 rename_i b o n k ex z
 simp only at hok ⊢
 cases hob:σ.get b with
 | none=>rw [hob] at hok;cases hok
 | some ob =>
  rw [hob] at hok
  simp only [Bool.and_eq_true,Bool.not_eq_true'] at hok ⊢
  obtain ⟨⟨hcy,hro⟩,hsu⟩:=hok
  obtain ⟨c,d,o',k',hb,hv,_⟩:=(vr_sl hx).resolve_right (fun h=>by obtain ⟨_,rfl,rfl,_⟩:=h;cases hsu)
  obtain ⟨_,hcW,ob',hob',hO⟩:=hr.dom b c d hb
  rw [hob] at hob';cases hob'
  obtain ⟨cs,e0,fr,hcell,hrw,h1,h2,h3⟩:=(hO.1 hcy).2 (fun h=>by rw [hro] at h;cases h)
  obtain ⟨rfl,hfr,hsz⟩:=hrw hro
  have hfz:(W.freeze ⟨c,cs.size,none⟩ 1).heap[c]?=some (.cells cs ob.elem (if fr.1 == fr.2 then (cs.size,cs.size + 1) else (min fr.1 cs.size,max fr.2 (cs.size + 1)))):=by
   unfold World.freeze
   rw [if_neg (by decide)]
   show (W.heap.modify c _)[c]?=_
   rw [Array.getElem?_modify,if_pos rfl,hcell];rfl
  have hfo:∀ j,j ≠ c → (W.freeze ⟨c,cs.size,none⟩ 1).heap[j]?=W.heap[j]?:=fun j hj=>by
   unfold World.freeze
   rw [if_neg (by decide)]
   show (W.heap.modify c _)[j]?=_
   rw [Array.getElem?_modify,if_neg (Ne.symm hj)]
  have hrest:(W.freeze ⟨c,cs.size,none⟩ 1).heap.size=W.heap.size ∧ (W.freeze ⟨c,cs.size,none⟩ 1).tape=W.tape ∧ (W.freeze ⟨c,cs.size,none⟩ 1).os=W.os ∧ (W.freeze ⟨c,cs.size,none⟩ 1).output=W.output:=by
   unfold World.freeze
   rw [if_neg (by decide)]
   exact ⟨by simp,rfl,rfl,rfl⟩
  obtain ⟨q1,q2⟩:=hr.replace (W':=W.freeze ⟨c,cs.size,none⟩ 1) (o':=ob) hb hob (AObj.alive_of hcy) hro (by
   rw [hfz]
   refine OR.mk' hcy ⟨cs,ob.elem,_,rfl,fun _=>⟨rfl,?_,hsz⟩,h1,h2,h3⟩
   unfold Free
   split
   ·exact .inr (Nat.le_refl _)
   ·rename_i hne
    rcases hfr with h | h
    ·exact absurd (by simpa using h) hne
    ·right;show cs.size ≤ min fr.1 cs.size;omega) hfo hrest.1 hrest.2.1 hrest.2.2.1 hrest.2.2.2
  refine ⟨.value x,_,ρ,Bl ?_,q1,q2,.inl ⟨x,rfl,hx⟩⟩
  rw [hv]
  simp only [convert,Sem.run_bind,run_underlying ht,Result.andThen_ok,beq_self_eq_true,run_underlying he]
  unfold markStringish
  have hsh:(shape c).run P W=.ok (some (ob.elem,cs.size)) W:=by simp [shape,Sem.run,World.shape?,hcell]
  simp only [Sem.run_bind,hsh,Result.andThen_ok]
  rfl
theorem compConv_sound {s d:TypeId} {x:Operand} (hc:Ev P rf s d x=some ao) (hev:∀ x,VR ρ (ev (rf x)) (a.eval x)) (hr:HR ρ σ W) :
  Runs P (do let v ← convert s d (a.eval x);pure (.value v)) W ρ σ (step std ev σ ao):=by
 unfold Ev at hc
 split at hc
 ·rename_i hd
  split at hc
  ·rename_i hs
   cases hc
   have hx:=hev x
   intro hok
   have hok:(Al std .same [ev (rf x)]).1=true:=hok
   cases hax:ev (rf x) <;> rw [hax] at hok hx <;> try (cases hok;done)
   rename_i l
   simp only [VR] at hx
   refine ⟨.value (a.eval x),W,ρ,Bl ?_,hr,Stp.refl (Nat.le_refl _),.inl ⟨_,rfl,?_⟩⟩
   ·rw [hx]
    simp only [convert,Sem.run_bind,run_underlying hs,run_underlying hd,Result.andThen_ok]
    rfl
   ·show VR ρ (Al std .same ([rf x].map ev)).2 _
    rw [List.map_cons,List.map_nil,hax]
    show VR ρ (.str l) _
    unfold VR;exact hx
  ·rename_i e hs
   split at hc
   ·rename_i he
    split at hc
    ·rename_i i hi
     split at hc
     ·cases hc
      intro hok
      have hok:(Bn std σ .sl2str [ev (rf x)]).1=true:=hok
      obtain ⟨v,h1,h2⟩:=sl2str_run (P:=P) hr hs (hev x) hok
      refine ⟨.value v,W,ρ,Bl ?_,hr,Stp.refl (Nat.le_refl _),.inl ⟨v,rfl,h2⟩⟩
      have hform:∃ ad n k,a.eval x=.slice ad n k:=by
       have hx:=hev x
       simp only [Bn] at hok
       generalize ev (rf x)=w at hok hx
       cases w <;> first | (simp [Br] at hok;done) | skip
       ·obtain ⟨_,_,h,_⟩:=Ia hx;exact ⟨_,_,_,h⟩
       ·simp only [VR] at hx;exact ⟨_,_,_,hx⟩
      obtain ⟨ad,n,k,hv⟩:=hform
      rw [hv] at h1 ⊢
      cases ad <;> (simp only [convert,Sem.run_bind,run_underlying hs,run_underlying hd,Result.andThen_ok,run_underlying he];exact h1)
     ·cases hc
    ·cases hc
   ·cases hc
  ·cases hc
 ·rename_i e hd
  split at hc
  ·rename_i hs
   split at hc
   ·rename_i he
    cases hc
    exact (Kr hs hd he hev).runs hr
   ·cases hc
  ·rename_i e' hs
   split at hc
   ·rename_i he
    split at hc
    ·rename_i heq
     cases hc
     have:=beq_iff_eq.1 heq
     subst this
     exact mark_run hr hd he (hev x)
    ·cases hc
   ·cases hc
  ·cases hc
 ·cases hc
theorem del_sound (hr:HR ρ σ W) {args:Array Operand} {ats:Array TypeId} {ty t k e:TypeId} {ks:List CK} {r:List TypeId} (ha:ats.toList=t :: r) (ht:P.underlying t=some (.map k e)) (hk:Bm P 100 k=some ks) (hsc:Az P k=true) (hev:∀ x,VR ρ (ev (rf x)) (a.eval x)) :
  Runs P (do let d ← resolve a.eval { callee:=.builtin .delete,args:=args,argTypes:=ats } ty;invoke d.target d.args) W ρ σ (step std ev σ (.ext (.mapDel true ks) (args.toList.map rf))):=by
 have hv:=D9 hev args.toList
 generalize hl:(args.toList.map rf).map ev=l at hv
 have hst:step std ev σ (.ext (.mapDel true ks) (args.toList.map rf))=Bb std σ (.mapDel true ks) l:=by simp only [step,hl]
 rw [hst]
 match l,hv with
 | [],_=>exact fun h=>by cases h
 | [a0],_=>exact fun h=>by cases a0 <;> cases h
 | [a0,a1],⟨v0,_,e,h0,v1,_,e',h1,e''⟩ =>
  cases e'';cases e'
  intro hok
  obtain ⟨n,W',ρ',r1,r2,r3,r4⟩:=mapDel_run (ty:=ty) hr ha ht hk hsc h0 h1 hok
  refine ⟨n,W',ρ',?_,r2,r3,r4⟩
  have hal:args.map a.eval=#[v0,v1]:=by apply Array.ext';rw [Array.toList_map];exact e
  rw [← r1]
  simp only [resolve,Sem.run_bind,Sem.run_pure,Result.andThen_ok,invoke,hal]
  rw [show ∀ cs,builtin .delete ats ty cs #[v0,v1]=(do let v ← Builtin.delete_ ats ty #[v0,v1];pure (.value v)) from fun _=>rfl]
  simp only [Sem.run_bind,Sem.run_pure]
 | a0 :: a1 :: a2 :: l',_=>exact fun h=>by cases a0 <;> cases h
theorem lenMap_sound (hr:HR ρ σ W) {args:Array Operand} {ats:Array TypeId} {ty t k e:TypeId} (ha:ats[0]?=some t) (ht:P.underlying t=some (.map k e)) (hev:∀ x,VR ρ (ev (rf x)) (a.eval x)) :
  Runs P (do let d ← resolve a.eval { callee:=.builtin .len,args:=args,argTypes:=ats } ty;invoke d.target d.args) W ρ σ (step std ev σ (.rd .lenMap (args.toList.map rf))):=by
 intro hok
 have hv:=D9 hev args.toList
 generalize hl:(args.toList.map rf).map ev=l at hv
 have hst:step std ev σ (.rd .lenMap (args.toList.map rf))=((Bn std σ .lenMap l).1,(Bn std σ .lenMap l).2,σ):=by simp only [step,hl]
 rw [hst] at hok ⊢
 match l,hv,hok with
 | [],_,hok=>cases hok
 | [a0],⟨v0,vs,e,h0,hvs⟩,hok =>
  cases hvs
  obtain ⟨v,h1,h2⟩:=len_map_run (P:=P) (ty:=ty) hr ht h0 hok
  have e2:(args.map a.eval)[0]?=some v0:=by rw [← Array.getElem?_toList,Array.toList_map,e];rfl
  refine ⟨.value v,W,ρ,bi_run (f:=Builtin.len_) (fun _ _=>rfl) ?_,hr,Stp.refl (Nat.le_refl _),.inl ⟨v,rfl,h2⟩⟩
  simp only [Builtin.len_] at h1 ⊢
  simp only [ha,e2]
  simpa using h1
 | a0 :: a1 :: l',_,hok =>
  have:(Bn std σ .lenMap (a0 :: a1 :: l')).1=false:=by cases a0 <;> rfl
  have hok:(Bn std σ .lenMap (a0 :: a1 :: l')).1=true:=hok
  rw [this] at hok;cases hok
theorem compBi_sound {b:Builtin} {args:Array Operand} {ats:Array TypeId} {ty:TypeId} (hc:Ho P rf b args.toList ats.toList=some ao) (hev:∀ x,VR ρ (ev (rf x)) (a.eval x)) (hr:HR ρ σ W) :
  Runs P (do let d ← resolve a.eval { callee:=.builtin b,args:=args,argTypes:=ats } ty;invoke d.target d.args) W ρ σ (step std ev σ ao):=by
 unfold Ho at hc
 split at hc
 ·split at hc
  ·split at hc
   ·cases hc;exact K4 (mx:=false) hr hev
   ·cases hc
  ·cases hc
 ·split at hc
  ·split at hc
   ·cases hc;exact K4 (mx:=true) hr hev
   ·cases hc
  ·cases hc
 ·split at hc
  ·rename_i t r ha
   split at hc
   ·rename_i e ht;cases hc;exact cap_sound hr ha ht hev
   ·cases hc
  ·cases hc
 ·split at hc
  ·rename_i t tx ha
   split at hc
   ·rename_i e ht
    split at hc
    ·rename_i i hi
     split at hc
     ·rename_i htx;cases hc;exact copy_sound hr ha ht hi (.inl ⟨rfl,htx⟩) hev
     ·rename_i e' htx;cases hc;exact copy_sound hr ha ht hi (.inr ⟨rfl,e',htx⟩) hev
     ·cases hc
    ·cases hc
   ·cases hc
  ·cases hc
 ·split at hc
  ·rename_i t r ha
   split at hc
   ·rename_i k e ht
    split at hc
    ·rename_i hsc
     split at hc
     ·rename_i ks hk;cases hc;exact del_sound hr ha ht hk hsc hev
     ·cases hc
    ·cases hc
   ·cases hc
  ·cases hc
 ·cases hc
theorem M1 {o:Oper} {x:NOp} {args:List Ref} (hc:Il P rf o.op=some (.mk x args)) (hev:∀ x,VR ρ (ev (rf x)) (a.eval x)) :
  Makes P (execOp a.eval o) W ρ (Bt std x (args.map ev)):=by
 unfold execOp
 generalize o.op=op at hc
 unfold Il at hc
 cases op <;> simp only [reduceCtorEq,Option.some.injEq] at hc
 case convert s d y =>
  split at hc
  ·split at hc <;> cases hc
  ·unfold Ev at hc
   split at hc
   ·repeat' split at hc
    all_goals cases hc
   ·rename_i e hd
    split at hc
    ·rename_i hs
     split at hc
     ·rename_i he
      cases hc
      exact Kr hs hd he hev
     ·cases hc
    ·repeat' split at hc
     all_goals cases hc
    ·cases hc
   ·cases hc
 case makeSlice t n c =>
  split at hc
  ·rename_i e hu
   split at hc
   ·rename_i i hi
    split at hc
    ·rename_i z hz
     split at hc
     ·rename_i hb
      cases hc
      exact makeSl_makes hu hi hz hb hev
     ·cases hc
    ·cases hc
   ·cases hc
  ·cases hc
 case makeMap t r =>
  split at hc
  ·rename_i k e hu
   cases hc
   exact makeMap_makes hu hev
  ·cases hc
 case buildSlice t len parts =>
  split at hc
  ·rename_i e hu
   split at hc
   ·rename_i i hi
    split at hc
    ·rename_i z hz
     split at hc
     rotate_left
     ·cases hc
     ·rename_i hb
      cases hc
      rw [Bool.and_eq_true,beq_iff_eq,Nat.ble_eq] at hb
      have hmap:∀ l:List (Nat × Operand),VRs ρ ((l.map fun p=>rf p.2).map ev) (l.map fun p=>a.eval p.2):=by
       intro l
       induction l with
       | nil=>rfl
       | cons p l ih=>exact ⟨_,_,rfl,hev p.2,ih⟩
      have hlen:parts.toList.length=len:=by have:=congrArg List.length hb.1;simpa using this
      have hzip:∀ (l:List (Nat × Operand)),(l.map fun p=>(p.1,a.eval p.2))=(l.map (·.1)).zip (l.map fun p=>a.eval p.2):=by
       intro l
       induction l with
       | nil=>rfl
       | cons p l ih=>simp [ih]
      have hp:(parts.map fun (i,x)=>(i,a.eval x)).toList=(List.range len).zip (parts.toList.map fun p=>a.eval p.2):=by rw [Array.toList_map];rw [← hb.1];exact hzip parts.toList
      have hfin:=bslice_makes (P:=P) (W:=W) (n:=len) hu hi hz hb.2 (hmap parts.toList) (by simpa using hlen) hp
      exact hfin
    ·cases hc
   ·cases hc
  ·cases hc
 all_goals (repeat' split at hc) <;> first | (cases hc;done) | (have:=compEq_mk hc;cases this) | (have:=compBuild_mk hc;cases this) | (have:=compBi_mk hc;cases this)
end
end Go.Proofs.YtfdfdagbeeeomaaDoor.V2
namespace Go.Proofs.YtfdfdagbeeeomaaDoor.V2
open Go
noncomputable section
section
variable {P:Program} {W:World} {ρ:Ren} {σ:AH}
theorem run_zero {e:TypeId} {i:TypeInfo} {z:Value} (hi:P.info? e=some i) (hz:i.zero=some z) (W:World):(zeroValue e).run P W=.ok z W:=by
 simp [zeroValue,typeInfo,hi,hz]
theorem step_sound {o:Oper} {ao:AOp} {a:Act} {rf:Operand → Ref} {ev:Ref → AV} (hc:Il P rf o.op=some ao) (hev:∀ x,VR ρ (ev (rf x)) (a.eval x)) (hr:HR ρ σ W) :
  Runs P (execOp a.eval o) W ρ σ (step std ev σ ao):=by
 by_cases hmk:∃ x args,ao=.mk x args
 ·obtain ⟨x,args,rfl⟩:=hmk
  exact (M1 hc hev).runs hr
 unfold execOp
 generalize o.op=op at hc
 unfold Il at hc
 cases op <;> simp only [reduceCtorEq,Option.some.injEq] at hc
 case move x=>subst hc;exact Runs.val hr (a.eval x) (fun _=>⟨rfl,hev x⟩) rfl
 case assign x=>subst hc;exact Runs.val hr (a.eval x) (fun _=>⟨rfl,hev x⟩) rfl
 case pick c x y =>
  subst hc
  have h:=hev c
  simp only [step]
  cases hcv:ev (rf c) <;> rw [hcv] at h <;> try exact Runs.bad
  rename_i t
  simp only [VR] at h
  refine Runs.val hr (if t then a.eval x else a.eval y) (fun _=>⟨?_,?_⟩) rfl
  ·cases t <;> simp [h,asBool]
  ·cases t
   ·exact hev y
   ·exact hev x
 case binOp op t x y u =>
  cases op
  case eql=>exact Ld (neg:=false) rfl hc hev hr
  case neq=>exact Ld (neg:=true) rfl hc hev hr
  all_goals simp only [Option.some.injEq] at hc;subst hc;exact sem_bin hr (hev x) (hev y)
 case unOp op t x=>subst hc;exact sem_un hr (hev x)
 case convert s d x =>
  split at hc
  ·rename_i k0 hs
   split at hc
   ·rename_i k hd
    cases hc
    have h:=hev x
    simp only [step]
    cases hcv:ev (rf x) <;> rw [hcv] at h <;> try exact Runs.bad
    rename_i k' n
    simp only [VR] at h
    refine Runs.val hr (.int k (k.wrap n)) (fun _=>⟨?_,?_⟩) rfl
    ·simp [convert,run_underlying hs,run_underlying hd,h,Conv.intToInt]
    ·show VR ρ (.int k (wr k n)) _
     unfold VR;rw [wr_eq]
   ·cases hc
  ·exact compConv_sound hc hev hr
 case alloc e =>
  split at hc
  ·rename_i i hi
   split at hc
   ·rename_i z hz
    cases hc
    have:=sem_new (P:=P) (e:=e) (v:=z) hr (D8 ρ z.cells.toList)
    intro hok
    obtain ⟨n,W',ρ',h1,h2⟩:=this hok
    refine ⟨n,W',ρ',?_,h2⟩
    rw [← h1]
    simp [Instr.alloc,run_zero hi hz]
   ·cases hc
  ·cases hc
 case box e x =>
  cases hc
  exact sem_box (P:=P) (e:=e) (v:=a.eval x) hr (hev x)
 case load t x =>
  split at hc
  ·rename_i d hu
   split at hc
   ·rename_i hd
    split at hc
    ·rename_i i hi
     cases hc
     exact sem_loadN hr hu hd hi (hev x)
    ·cases hc
   ·rename_i hd
    cases hc
    exact sem_load1 hr hu hd (hev x)
  ·cases hc
 case store t p x =>
  split at hc
  ·rename_i i hi
   cases hc
   exact sem_store hr hi (hev p) (hev x)
  ·cases hc
 case fieldAddr s x f =>
  split at hc
  ·rename_i fs hu
   split at hc
   ·rename_i fd hf
    split at hc
    ·rename_i i hi
     split at hc
     ·cases hc
     ·rename_i n hn
      cases hc
      have h:=hev x
      simp only [step]
      cases hcv:ev (rf x) <;> rw [hcv] at h <;> try exact Runs.bad
      rename_i b off
      obtain ⟨c,d,hb,hv⟩:=Ff h
      refine Runs.val hr (.pointer (some ⟨c,off + d.1 + fd.offset,none⟩)) (fun _=>⟨?_,?_⟩) rfl
      ·have hsz:(sizeOf fd.type).run P W=.ok (n + 1) W:=by simp [sizeOf,typeInfo,hi,hn]
       simp [Instr.fieldAt,run_underlying hu,hf,hv,Instr.sureAddr,fieldPlace,hsz,Dz]
      ·show VR ρ (.ptr b (off + fd.offset)) _
       unfold VR;exact ⟨c,d,hb,by rw [Nat.add_right_comm]⟩
    ·cases hc
   ·cases hc
  ·cases hc
 case indexAddr t x ix =>
  split at hc
  ·rename_i len e hu
   split at hc
   ·rename_i i hi
    cases hc
    exact sem_idxArr hr hu hi (hev x) (hev ix)
   ·cases hc
  ·rename_i e hu
   split at hc
   ·rename_i i hi
    cases hc
    exact sem_idxSl hr hu hi (hev x) (hev ix)
   ·cases hc
  ·cases hc
 case slice t x lo hi mx =>
  split at hc
  ·rename_i hu
   split at hc
   ·cases hc
    exact sem_slStr hr hu (hev x) (Ge hev lo) (Ge hev hi)
   ·cases hc
  ·rename_i e hu
   split at hc
   ·rename_i i hi'
    cases hc
    exact sem_slSl hr hu hi' (hev x) (Ge hev lo) (Ge hev hi) (Ge hev mx)
   ·cases hc
  ·rename_i n e hu
   split at hc
   ·rename_i i hi'
    cases hc
    exact sem_slArr hr hu hi' (hev x) (Ge hev lo) (Ge hev hi) (Ge hev mx)
   ·cases hc
  ·cases hc
 case extract x k =>
  subst hc
  have h:=hev x
  simp only [step]
  cases hcv:ev (rf x) <;> rw [hcv] at h <;> try exact Runs.bad
  rename_i l
  unfold VR at h
  obtain ⟨us,hv,hus⟩:=h
  intro hok
  have hk:k < l.length:=by have hok:Nat.blt k l.length=true:=hok;rwa [Nat.blt_eq] at hok
  obtain ⟨v,hv',hr'⟩:=hus.at k l[k] (List.getElem?_eq_getElem hk)
  have e:l.getD k .top=l[k]:=by simp [hk]
  refine ⟨.value v,W,ρ,?_,hr,Stp.refl (Nat.le_refl _),.inl ⟨v,rfl,?_⟩⟩
  ·simp [hv,Instr.extract,hv']
  ·show VR ρ (l.getD k .top) v
   rw [e];exact hr'
 case makeInterface t x =>
  split at hc
  ·cases hc
  ·rename_i d hni hu
   cases hc
   refine Runs.val hr (.iface t (a.eval x)) (fun _=>⟨?_,?_⟩) rfl
   ·simp only [Instr.makeInterface,Sem.run_bind,run_underlying hu,Result.andThen_ok]
    cases d <;> first | rfl | exact absurd hu (hni _)
   ·show VR ρ (.ifc t _) _
    unfold VR;exact ⟨_,rfl,hev x⟩
  ·cases hc
 case nilCheck x =>
  subst hc
  have h:=hev x
  simp only [step]
  cases hcv:ev (rf x) <;> rw [hcv] at h <;> try exact Runs.bad
  rotate_left
  ·rename_i f first cap
   cases f <;> try exact Runs.bad
   obtain ⟨us,vs,hv,h1,h2⟩:=vr_fn h
   refine Runs.val hr _ (fun _=>⟨by rw [hv];rfl,?_⟩) rfl
   show VR ρ (.fn _ first cap) _
   unfold VR;exact ⟨us,vs,rfl,h1,h2⟩
  rename_i b off
  obtain ⟨c,d,hb,hv⟩:=Ff h
  refine Runs.val hr _ (fun _=>⟨by rw [hv];rfl,?_⟩) rfl
  show VR ρ (.ptr b off) _
  unfold VR;exact ⟨c,d,hb,rfl⟩
 case build t parts=>exact compBuild_sound hc hev hr
 case field t x f =>
  split at hc
  ·rename_i fs hs
   split at hc
   ·rename_i fd hf
    split at hc
    ·rename_i d hu
     split at hc
     ·rename_i hd
      split at hc
      ·rename_i i hi;cases hc;exact sem_fieldN hr hs hf hu hd hi (hev x)
      ·cases hc
     ·rename_i hd;cases hc;exact sem_field1 hr hs hf hu hd (hev x)
    ·cases hc
   ·cases hc
  ·cases hc
 case index t x ix =>
  split at hc
  ·rename_i ht;cases hc;exact sem_idxS hr ht (hev x) (hev ix)
  ·rename_i len e ht
   split at hc
   ·rename_i i hi
    split at hc
    ·rename_i d hu;cases hc;exact sem_idxA hr ht hi hu (hev x) (hev ix)
    ·cases hc
   ·cases hc
  ·cases hc
 case makeFunc fn first cap =>
  cases hc
  have hv:=D9 hev (first ++ cap).toList
  refine Runs.val hr (.func fn (first.map a.eval) (cap.map a.eval)) (fun _=>⟨rfl,?_⟩) rfl
  show VR ρ (.fn fn ((((first ++ cap).toList.map rf).map ev).take first.size) ((((first ++ cap).toList.map rf).map ev).drop first.size)) _
  unfold VR
  refine ⟨first.toList.map a.eval,cap.toList.map a.eval,?_,?_,?_⟩
  ·congr 1 <;> (apply Array.ext';simp)
  ·have:=hv.take first.size
   simpa using this
  ·have:=hv.drop first.size
   simpa using this
 case typeAssert x xt t commaOk =>
  split at hc
  ·cases hc
  ·rename_i d hni hu
   split at hc
   ·rename_i i hi
    split at hc
    ·rename_i z hz
     cases hc
     have hzero:∀ W:World,(zeroValue t).run P W=.ok z W:=fun W=>by simp [zeroValue,typeInfo,hi,hz]
     have hx:=hev x
     intro hok
     have hst:step std ev σ (.pur (.assertT t commaOk (Jo z)) [rf x])=((Al std (.assertT t commaOk (Jo z)) [ev (rf x)]).1,(Al std (.assertT t commaOk (Jo z)) [ev (rf x)]).2,σ):=rfl
     rw [hst] at hok ⊢
     have pair:∀ (w:AV) (u:Value) (b:Bool),VR ρ w u → VR ρ (.tup [w,.bool b]) (.tuple #[u,.bool b]):=fun w u b h=>by
      unfold VR;exact ⟨[u,.bool b],rfl,u,[.bool b],rfl,h,.bool b,[],rfl,by unfold VR;rfl,rfl⟩
     cases hax:ev (rf x) <;> rw [hax] at hok hx <;> try (cases hok;done)
     ·rename_i t' v
      obtain ⟨u,hv,hvu⟩:=vr_ifc hx
      simp only [Al] at hok ⊢
      cases hb:Nat.beq t' t with
      | true =>
       have ht':t'=t:=Nat.eq_of_beq_eq_true hb
       subst ht'
       refine ⟨.value (if commaOk then .tuple #[u,.bool true] else u),W,ρ,Bl ?_,hr,Stp.refl (Nat.le_refl _),.inl ⟨_,rfl,?_⟩⟩
       ·unfold Instr.typeAssert
        simp only [Sem.run_bind,run_underlying hu,Result.andThen_ok,hv]
        cases d <;> first | exact absurd hu (hni _) | (simp;try (cases commaOk <;> rfl))
       ·cases commaOk
        ·exact hvu
        ·exact pair v u true hvu
      | false =>
       rw [hb] at hok
       have hok:commaOk=true:=hok
       subst hok
       have hne:t' ≠ t:=fun e=>by rw [e,Nat.beq_refl] at hb;cases hb
       refine ⟨.value (.tuple #[z,.bool false]),W,ρ,Bl ?_,hr,Stp.refl (Nat.le_refl _),.inl ⟨_,rfl,pair _ _ false (Gw ρ z)⟩⟩
       unfold Instr.typeAssert
       simp only [Sem.run_bind,run_underlying hu,Result.andThen_ok,hv]
       cases d <;> first | exact absurd hu (hni _) | (simp [hne,hzero])
     ·simp only [VR] at hx
      simp only [Al] at hok ⊢
      have hok:commaOk=true:=hok
      subst hok
      refine ⟨.value (.tuple #[z,.bool false]),W,ρ,Bl ?_,hr,Stp.refl (Nat.le_refl _),.inl ⟨_,rfl,pair _ _ false (Gw ρ z)⟩⟩
      unfold Instr.typeAssert
      simp only [Sem.run_bind,run_underlying hu,Result.andThen_ok,hx]
      cases d <;> first | exact absurd hu (hni _) | (simp [hzero])
    ·cases hc
   ·cases hc
  ·cases hc
 case makeSlice=>exfalso;refine hmk ?_;repeat' split at hc
                 all_goals first | (cases hc;exact ⟨_,_,rfl⟩) | cases hc
 case makeMap=>exfalso;refine hmk ?_;repeat' split at hc
               all_goals first | (cases hc;exact ⟨_,_,rfl⟩) | cases hc
 case buildSlice=>exfalso;refine hmk ?_;repeat' split at hc
                  all_goals first | (cases hc;exact ⟨_,_,rfl⟩) | cases hc
 case lookup t x ix commaOk =>
  split at hc
  ·rename_i k e ht
   split at hc
   ·rename_i hsc
    split at hc
    ·rename_i ks hk
     split at hc
     ·rename_i i hi
      split at hc
      ·rename_i z hz
       cases hc
       intro hok
       obtain ⟨v,h1,h2⟩:=lookup_run (P:=P) (commaOk:=commaOk) hr ht hi hz hk hsc (hev x) (hev ix) hok
       exact ⟨.value v,W,ρ,Bl h1,hr,Stp.refl (Nat.le_refl _),.inl ⟨v,rfl,h2⟩⟩
      ·cases hc
     ·cases hc
    ·cases hc
   ·cases hc
  ·cases hc
 case mapUpdate t m k x =>
  split at hc
  ·rename_i kt e ht
   split at hc
   ·rename_i hsc
    split at hc
    ·rename_i ks hk;cases hc;exact mapUpd_run hr ht hk hsc (hev m) (hev k) (hev x)
    ·cases hc
   ·rename_i hsc
    split at hc
    ·rename_i ks hk
     split at hc
     ·rename_i hka;cases hc;exact mapUpdA_run hr ht hk hsc hka (hev m) (hev k) (hev x)
     ·cases hc
    ·cases hc
  ·cases hc
 case insert t m k x =>
  split at hc
  ·rename_i kt e ht
   split at hc
   ·rename_i hsc
    split at hc
    ·rename_i ks hk;cases hc;exact mapUpd_run hr ht hk hsc (hev m) (hev k) (hev x)
    ·cases hc
   ·cases hc
  ·cases hc
 case call c =>
  obtain ⟨callee,args,ats⟩:=c
  cases callee <;> simp only [reduceCtorEq] at hc
  rename_i bi
  cases bi
  all_goals try exact compBi_sound hc hev hr
  all_goals simp only at hc
  case append =>
   split at hc
   ·rename_i s x hargs
    split at hc
    ·rename_i t tx hats
     split at hc
     ·rename_i e hu
      split at hc
      ·rename_i i hi
       split at hc
       ·rename_i z hz
        split at hc
        rotate_left
        ·cases hc
        ·rename_i hb
         rw [Bool.and_eq_true,Bool.and_eq_true,Nat.beq_eq,Nat.blt_eq,Nat.ble_eq] at hb
         have e1:args=#[s,x]:=by apply Array.ext';exact hargs
         have e2:ats=#[t,tx]:=by apply Array.ext';exact hats
         subst e1;subst e2
         have key:∀ str,((str=true ∧ P.underlying tx=some .string) ∨ (str=false ∧ ∃ e',P.underlying tx=some (.slice e'))) → Runs P (do let d ← resolve a.eval { callee:=.builtin .append,args:=#[s,x],argTypes:=#[t,tx] } o.type;invoke d.target d.args) W ρ σ (step std ev σ (.ext (.append e str i.size) [rf s,rf x])):=by
          intro str htx hok
          obtain ⟨v,W',ρ',h1,h2,h3,h4⟩:=append_sound (ty:=o.type) hr hu hi hz hb.1.1 hb.1.2 hb.2 htx (hev s) (hev x) hok
          refine ⟨.value v,W',ρ',?_,h2,h3,.inl ⟨v,rfl,h4⟩⟩
          simp [resolve,invoke,builtin,h1]
         split at hc
         ·rename_i htx;cases hc;exact key true (.inl ⟨rfl,htx⟩)
         ·rename_i e' htx;cases hc;exact key false (.inr ⟨rfl,e',htx⟩)
         ·rename_i kn htx
          split at hc
          ·rename_i kz vz
           split at hc
           ·rename_i hvz
            rw [Bool.and_eq_true,decide_eq_true_eq,Nat.beq_eq] at hvz
            obtain ⟨hv0,hs1⟩:=hvz
            subst hv0
            cases hc
            intro hok
            obtain ⟨v,W',ρ',h1,h2,h3,h4⟩:=appz_sound (ty:=o.type) hr hu htx hi hz hs1 hb.2 (hev s) (hev x) hok
            refine ⟨.value v,W',ρ',?_,h2,h3,.inl ⟨v,rfl,h4⟩⟩
            simp [resolve,invoke,builtin,h1]
           ·cases hc
          ·cases hc
         ·cases hc
       ·cases hc
      ·cases hc
     ·cases hc
    ·cases hc
   ·cases hc
  split at hc
  ·rename_i t ht
   split at hc
   ·rename_i hu
    split at hc
    ·rename_i x hx
     cases hc
     have h:=hev x
     simp only [step]
     cases hcv:ev (rf x) <;> rw [hcv] at h <;> try exact Runs.bad
     rename_i l
     simp only [VR] at h
     skip
     exact Runs.val hr (.int .i64 l.length) (fun _=>⟨by simp [resolve,invoke,builtin,Builtin.len_,ht,hx,h,run_underlying hu,goInt,ba_size],by show VR ρ (.int .i64 _) _;unfold VR;rfl⟩) rfl
    ·cases hc
   ·rename_i e hu
    split at hc
    ·rename_i x hx
     cases hc
     have h:=hev x
     simp only [step]
     skip
     cases hcv:ev (rf x) <;> rw [hcv] at h <;> try exact Runs.bad
     ·obtain ⟨p,k',hv,_⟩:=Ia h
      exact Runs.val hr (.int .i64 _) (fun _=>⟨by simp [resolve,invoke,builtin,Builtin.len_,ht,hx,hv,run_underlying hu,goInt];rfl,by show VR ρ (.int .i64 _) _;unfold VR;rfl⟩) rfl
     ·simp only [VR] at h
      exact Runs.val hr (.int .i64 0) (fun _=>⟨by simp [resolve,invoke,builtin,Builtin.len_,ht,hx,h,run_underlying hu,goInt],by show VR ρ (.int .i64 _) _;unfold VR;rfl⟩) rfl
    ·cases hc
   ·rename_i k e ht'
    cases hc
    exact lenMap_sound hr ht ht' hev
   ·cases hc
  ·cases hc
end
end
end Go.Proofs.YtfdfdagbeeeomaaDoor.V2
namespace Go.Proofs.YtfdfdagbeeeomaaDoor.V2
open Go
noncomputable section
inductive COp where
 | aop (a:AOp)
 | call (f:Ref) (args:List Ref)
 | rng (x:Ref)
 | nxt (x:Ref)
 | ent (x:Ref)
structure CRow where
 op:COp
 dst:Option Nat
 guard:Option (Ref × Bool)
inductive Gam where
 | no
 | mk (fn:FuncId → List AV → AH → Out) (yl:Nat → List AV → AH → Out) (up:Nat → (List AV → AH → Out) → Gam) (dm:FuncId → List AV → AH → Option (List (AV × AH)))
def Gam.fn (Γ:Gam):FuncId → List AV → AH → Out:=match Γ with
 | .no=>fun _ _ σ=>bad σ
 | .mk f _ _ _=>f
def Gam.yl (Γ:Gam):Nat → List AV → AH → Out:=match Γ with
 | .no=>fun _ _ σ=>bad σ
 | .mk _ y _ _=>y
def Gam.up (Γ:Gam):Nat → (List AV → AH → Out) → Gam:=match Γ with
 | .no=>fun _ _=>.no
 | .mk _ _ u _=>u
def Gam.dm (Γ:Gam):FuncId → List AV → AH → Option (List (AV × AH)):=match Γ with
 | .no=>fun _ _ _=>none
 | .mk _ _ _ d=>d
def Gam.bare (Γ:Gam):Gam:=match Γ with
 | .no=>.no
 | .mk f y _ _=>.mk f y (fun _ _=>.no) fun _ _ _=>none
def Gam.of (f:FuncId → List AV → AH → Out):Gam:=.mk f (fun _ _ σ=>bad σ) (fun _ _=>.no) fun _ _ _=>none
theorem Gam.bare_fn (Γ:Gam):Γ.bare.fn=Γ.fn:=by cases Γ <;> rfl
theorem Gam.bare_yl (Γ:Gam):Γ.bare.yl=Γ.yl:=by cases Γ <;> rfl
instance:CoeFun Gam (fun _=>FuncId → List AV → AH → Out):=⟨Gam.fn⟩
def AObj.shut:AObj:=.cells [] 0 .ro
theorem OR.shut {ρ:Ren} {d:Nat × Nat} {x:Option Obj} (h:d.1 ≤ d.2):OR ρ d AObj.shut x:=⟨fun _=>⟨by show 0 + d.1 ≤ d.2;omega,fun hl=>absurd (hl rfl) (Nat.lt_irrefl 0)⟩,fun l h=>by cases h⟩
structure Yl where
 l:Nat
 c:Nat
 lp:Loop
 ρ:Ren
structure Yl.Ok (y:Yl) (ρ:Ren) (σ:AH) (W:World):Prop where
 lt:y.l < σ.next
 get:σ.get y.l=some AObj.shut
 at_:ρ y.l=some (y.c,(0,0))
 rec_:W.heap[y.c]?=some (.loop y.lp)
 sub:∀ b x,y.ρ b=some x → b < y.l ∧ ρ b=some x
def YInv (Y:List Yl) (ρ:Ren) (σ:AH) (W:World):Prop:=∀ y ∈ Y,y.Ok ρ σ W
theorem YInv.step {Y:List Yl} {N:Nat} {ρ ρ':Ren} {σ σ':AH} {W W':World} (h:YInv Y ρ σ W) (hN:∀ y ∈ Y,y.l < N) (hs:Stp N ρ σ W ρ' σ' W'):YInv Y ρ' σ' W':=fun y hy=>by
 obtain ⟨h1,h2,h3,h4,h5⟩:=h y hy
 have hn:=hN y hy
 have hc:y.c < W.heap.size:=(Array.getElem?_eq_some_iff.1 h4).1
 obtain ⟨e1,e2⟩:=hs.ro y.l y.c (0,0) _ hn h3 hc h2 rfl
 exact ⟨Nat.lt_of_lt_of_le hn hs.next,e1,(hs.ext _ hn).trans h3,e2.trans h4,fun b x hb=>⟨(h5 b x hb).1,(hs.ext b (Nat.lt_trans (h5 b x hb).1 hn)).trans (h5 b x hb).2⟩⟩
def fen (ro:Option Nat):Fence:={ Fence.wide with round:=ro }
theorem M3 {ro:Option Nat} {n:Nat} {P:Program} {f:FuncId} {args:Array Value} {w:World} {R:Ending → World → Prop} (h:Calls P f args w R):CallsIn (fen ro) n P f args w R :=
 callsIn_wide (n:=n).2 h
def Round1 (P:Program) (c:Nat) (args:Array Value) (W:World) (R:Value → World → Prop):Prop :=
 ∃ f tmps x y,(Instr.yield c args).run P W=.ok (.round c f tmps x y) W ∧ RoundIn Fence.wide 0 P c f tmps x y W fun e W'=>∃ v,e=.returned v ∧ R v W'
def YlOk (P:Program) (G l:Nat) (h:List AV → AH → Out) (Y:List Yl):Prop :=
 ∀ args σ,(h args σ).1=true → ∀ ρ W vs c d,YInv Y ρ σ W → (∀ g,g < G → ∃ s,ρ g=some (g,(0,s))) → HR ρ σ W → VRs ρ args vs → ρ l=some (c,d) →
  Round1 P c vs.toArray W fun v W'=>∃ ρ',HR ρ' (h args σ).2.2 W' ∧ Stp σ.next ρ σ W ρ' (h args σ).2.2 W' ∧ VR ρ' (h args σ).2.1 v
def FnOk (P : Program) (G : Nat) (Γ : FuncId → List AV → AH → Out) (Y : List Yl) : Prop := ∀ f args σ, (Γ f args σ).1 = true → (∃ fn, P.funcs[f]? = some fn ∧ fn.body.isSome = true ∧ (fn.name == "runtime.NumGoroutine") = false) ∧
  ∀ ρ W vs,YInv Y ρ σ W → (∀ g,g < G → ∃ s,ρ g=some (g,(0,s))) → HR ρ σ W → VRs ρ args vs → Calls P f vs.toArray W fun e W'=>∃ v ρ',e=.returned v ∧ HR ρ' (Γ f args σ).2.2 W' ∧ Stp σ.next ρ σ W ρ' (Γ f args σ).2.2 W' ∧ VR ρ' (Γ f args σ).2.1 v
def DmOk (P : Program) (G : Nat) (D : FuncId → List AV → AH → Option (List (AV × AH))) (Y : List Yl) : Prop := ∀ f args σ L, D f args σ = some L → (∃ fn, P.funcs[f]? = some fn ∧ fn.body.isSome = true ∧ (fn.name == "runtime.NumGoroutine") = false) ∧
  ∀ ρ W vs,YInv Y ρ σ W → (∀ g,g < G → ∃ s,ρ g=some (g,(0,s))) → HR ρ σ W → VRs ρ args vs → Calls P f vs.toArray W fun e W'=>∃ v av σ' ρ',e=.returned v ∧ (av,σ') ∈ L ∧ HR ρ' σ' W' ∧ Stp σ.next ρ σ W ρ' σ' W' ∧ VR ρ' av v
theorem DmOk.none_ {P:Program} {G:Nat} {Y:List Yl}:DmOk P G (fun _ _ _=>none) Y:=fun _ _ _ _ h=>by cases h
inductive GamOk (P:Program) (G:Nat):Gam → List Yl → Prop where
 | no {Y:List Yl}:GamOk P G .no Y
 | mk {f:FuncId → List AV → AH → Out} {y:Nat → List AV → AH → Out} {u:Nat → (List AV → AH → Out) → Gam} {d:FuncId → List AV → AH → Option (List (AV × AH))} {Y:List Yl} (hf:FnOk P G f Y) (hy:∀ l,YlOk P G l (y l) Y)
   (hu:∀ (z:Yl) h,YlOk P G z.l h (z :: Y) → GamOk P G (u z.l h) (z :: Y)) (hd:DmOk P G d Y):GamOk P G (.mk f y u d) Y
theorem GamOk.fn {P:Program} {G:Nat} {Γ:Gam} {Y:List Yl} (h:GamOk P G Γ Y):FnOk P G Γ.fn Y:=by
 cases h with
 | no=>intro f args σ h;cases h
 | mk hf=>exact hf
theorem GamOk.yl {P:Program} {G:Nat} {Γ:Gam} {Y:List Yl} (h:GamOk P G Γ Y) (l:Nat):YlOk P G l (Γ.yl l) Y:=by
 cases h with
 | no=>intro args σ h;cases h
 | mk _ hy=>exact hy l
theorem GamOk.up {P:Program} {G:Nat} {Γ:Gam} {Y:List Yl} (h:GamOk P G Γ Y) (z:Yl) {k:List AV → AH → Out} (hk:YlOk P G z.l k (z :: Y)):GamOk P G (Γ.up z.l k) (z :: Y):=by
 cases h with
 | no=>exact .no
 | mk _ _ hu=>exact hu z k hk
theorem GamOk.dm {P:Program} {G:Nat} {Γ:Gam} {Y:List Yl} (h:GamOk P G Γ Y):DmOk P G Γ.dm Y:=by
 cases h with
 | no=>exact .none_
 | mk _ _ _ hd=>exact hd
theorem GamOk.bare {P:Program} {G:Nat} {Γ:Gam} {Y:List Yl} (h:GamOk P G Γ Y):GamOk P G Γ.bare Y:=by
 cases h with
 | no=>exact .no
 | mk hf hy=>exact .mk hf hy (fun _ _ _=>.no) .none_
theorem GamOk.of {P:Program} {G:Nat} {f:FuncId → List AV → AH → Out} {Y:List Yl} (h:FnOk P G f Y):GamOk P G (.of f) Y:=.mk h (fun _ _ _ h=>by cases h) (fun _ _ _=>.no) .none_
def Cc (A:Ar) (Γ:Gam) (ev:Ref → AV) (σ:AH):COp → Out
 | .aop a=>step A ev σ a
 | .call f args=>match ev f with
  | .fn (.func f) first cap=>Γ f (first ++ (args.map ev ++ cap)) σ
  | .yld b=>Γ.yl b (args.map ev) σ
  | _=>bad σ
 | .rng _=>bad σ
 | .nxt _=>bad σ
 | .ent _=>bad σ
def Aw (A:Ar) (Γ:Gam) (ev:Ref → AV) (σ:AH) (r:CRow):Out:=match r.guard with
 | none=>Cc A Γ ev σ r.op
 | some g=>match ev g.1 with
  | .bool b=>bif b == g.2 then Cc A Γ ev σ r.op else (true,.tup [],σ)
  | .tup _=>(true,.tup [],σ)
  | _=>bad σ
def I6 (rf:Operand → Ref) (ops:Array Oper) (o:Oper):Option (Option (Ref × Bool)):=match o.guard with
 | none=>some none
 | some (j,want)=>match (ops[j]?).bind (·.dst) with
  | some d=>some (some (rf (.tmp d),want))
  | none=>none
def copOf (P:Program) (rf:Operand → Ref) (op:Op):Option COp:=match op with
 | .call { callee:=.value f,args:=args,argTypes:=_ }=>some (.call (rf f) (args.toList.map rf))
 | .range _ x=>some (.rng (rf x))
 | .next x false=>some (.nxt (rf x))
 | .entry x=>some (.ent (rf x))
 | op=>match Il P rf op with
  | some a=>some (.aop a)
  | none=>some (.aop .badop)
def Jm (P:Program) (nt:Nat) (rf:Operand → Ref) (ops:Array Oper) (o:Oper):Option CRow:=match I6 rf ops o with
 | none=>none
 | some g=>match copOf P rf o.op with
  | none=>none
  | some c=>match o.dst with
   | none=>some ⟨c,none,g⟩
   | some d=>bif Nat.blt d nt then some ⟨c,some d,g⟩ else none
theorem Cj {P:Program} {nt:Nat} {rf:Operand → Ref} {ops:Array Oper} {o:Oper} {r:CRow} (h:Jm P nt rf ops o=some r) :
  I6 rf ops o=some r.guard ∧ copOf P rf o.op=some r.op ∧ r.dst=o.dst ∧ ∀ d,o.dst=some d → d < nt:=by
 unfold Jm at h
 split at h
 ·cases h
 ·rename_i g hg
  split at h
  ·cases h
  ·rename_i c hc
   split at h
   ·rename_i hd
    cases h
    exact ⟨hg,hc,hd.symm,fun d e=>by rw [hd] at e;cases e⟩
   ·rename_i d hd
    cases hlt:Nat.blt d nt <;> rw [hlt] at h
    ·cases h
    ·cases h
     exact ⟨hg,hc,hd.symm,fun d' e=>by rw [hd] at e;cases e;rw [Nat.blt_eq] at hlt;exact hlt⟩
section
variable {P:Program} {W:World} {ρ:Ren} {σ:AH}
theorem vrs_map {ev:Ref → AV} {rf:Operand → Ref} {a:Act} (hev:∀ x,VR ρ (ev (rf x)) (a.eval x)):∀ l:List Operand,VRs ρ ((l.map rf).map ev) (l.map a.eval)
 | []=>rfl
 | x :: l=>⟨_,_,rfl,hev x,vrs_map hev l⟩
theorem comp1_nd {rf:Operand → Ref} {op:Op} {ao:AOp} (h:Il P rf op=some ao):∀ c,op ≠ .defer c:=fun c e=>by
 subst e
 cases h
theorem cop_sound {G:Nat} {Γ:Gam} {Y:List Yl} {ro:Option Nat} (hΓ:GamOk P G Γ Y) (hY:YInv Y ρ σ W) (hG:∀ g,g < G → ∃ s,ρ g=some (g,(0,s))) {o:Oper} {c:COp} {a:Act} {rf:Operand → Ref} {ev:Ref → AV} (hc:copOf P rf o.op=some c) (hev:∀ x,VR ρ (ev (rf x)) (a.eval x)) (hr:HR ρ σ W)
  (hok:(Cc std Γ ev σ c).1=true) {K:Act → World → Prop} {Q:Exit → Act → World → Prop}
  (hK:∀ v W' ρ',HR ρ' (Cc std Γ ev σ c).2.2 W' → Stp σ.next ρ σ W ρ' (Cc std Γ ev σ c).2.2 W' → VR ρ' (Cc std Γ ev σ c).2.1 v → K (a.put o.dst v) W'):o.wpIn (fen ro) 0 P a W K Q:=by
 have haop:∀ ao,Il P rf o.op=some ao → c=.aop ao → o.wpIn (fen ro) 0 P a W K Q:=by
  intro ao h1 h2
  subst h2
  obtain ⟨n,W',ρ',hrun,h3,h4,h5⟩:=step_sound h1 hev hr hok
  refine ⟨fun _ _=>trivial,?_⟩
  rw [Oper.semAt_eq _ _ _ (comp1_nd h1),hrun]
  rcases h5 with ⟨v,rfl,h5⟩ | ⟨rfl,h5⟩
  ·rw [Oper.uponIn_value];exact hK v W' ρ' h3 h4 h5
  ·rw [Oper.uponIn_skip];exact hK undef W' ρ' h3 h4 h5
 generalize hop:o.op=op at hc haop
 unfold copOf at hc
 split at hc
 ·rename_i f args ats
  cases hc
  simp only [Cc] at hok hK
  have hf:=hev f
  have hnd:∀ c,o.op ≠ .defer c:=fun c e=>by rw [hop] at e;cases e
  cases hcv:ev (rf f) <;> rw [hcv] at hok hK hf <;> try (cases hok;done)
  case yld b =>
   unfold VR at hf
   obtain ⟨c,d,hb,hv⟩:=hf
   obtain ⟨g,tmps,x,y,hy,hround⟩:=hΓ.yl _ _ _ hok ρ W _ c d hY hG hr (vrs_map hev _) hb
   refine ⟨fun _ _=>trivial,?_⟩
   have hargs:(args.toList.map a.eval).toArray=args.map a.eval:=by apply Array.ext';simp
   rw [hargs] at hy
   have hrun:(execOp a.eval o).run P W=.ok (.round c g tmps x y) W:=by
    simp [execOp,hop,resolve,hv,Deferred.ofValue,invoke,hy]
   rw [Oper.semAt_eq _ _ _ hnd,hrun,Oper.uponIn_round]
   refine ⟨fun h=>(by cases h),hround.mono fun e W' ⟨v,he,ρ',h1,h2,h3⟩=>?_⟩
   subst he
   exact hK v W' ρ' h1 h2 h3
  rename_i fn first cap
  cases fn <;> try (cases hok;done)
  rename_i g
  unfold VR at hf
  obtain ⟨us,vs,hv,hus,hvs⟩:=hf
  obtain ⟨⟨fn,hfn,hbody,hname⟩,hcall⟩:=hΓ.fn _ _ _ hok
  have hargs:VRs ρ (first ++ ((args.toList.map rf).map ev ++ cap)) (us ++ ((args.toList.map a.eval) ++ vs)):=hus.append ((vrs_map hev _).append hvs)
  have hcall:=hcall ρ W _ hY hG hr hargs
  refine ⟨fun _ _=>trivial,?_⟩
  obtain ⟨body,hbn⟩:=Option.isSome_iff_exists.1 hbody
  have hname' : ¬ fn.name = "runtime.NumGoroutine" := by simpa using hname
  have hrun:(execOp a.eval o).run P W=.ok (.enter g (us ++ (args.toList.map a.eval ++ vs)).toArray) W:=by
   have e1:(us ++ (args.toList.map a.eval ++ vs)).toArray=us.toArray ++ args.map a.eval ++ vs.toArray:=by
    apply Array.ext';simp
   rw [e1]
   simp [execOp,hop,resolve,hv,Deferred.ofValue,invoke,callFunc,hfn,hbn,hname']
  rw [Oper.semAt_eq _ _ _ hnd,hrun,Oper.uponIn_enter]
  refine ⟨fun h=>(by cases h),M3 (hcall.mono fun e W' ⟨v,ρ',he,h1,h2,h3⟩=>?_)⟩
  subst he
  exact hK v W' ρ' h1 h2 h3
 ·cases hc;cases hok
 ·cases hc;cases hok
 ·cases hc;cases hok
 ·split at hc
  ·rename_i ao hao
   cases hc
   exact haop ao hao rfl
  ·cases hc
   cases hok
def dcall (Γ:Gam) (ev:Ref → AV) (σ:AH) (r:CRow):Option (List (AV × AH)):=match r.guard with
 | some _=>none
 | none=>match r.op with
  | .call f args=>match ev f with
   | .fn g first cap=>match g with
    | .func n=>Γ.dm n (first ++ (args.map ev ++ cap)) σ
    | _=>none
   | _=>none
  | _=>none
theorem dcall_sound {G:Nat} {Γ:Gam} {Y:List Yl} {ro:Option Nat} (hΓ:GamOk P G Γ Y) (hY:YInv Y ρ σ W) (hG:∀ g,g < G → ∃ s,ρ g=some (g,(0,s))) {nt:Nat} {ops:Array Oper} {o:Oper} {r:CRow} {a:Act} {rf:Operand → Ref} {ev:Ref → AV} (hc:Jm P nt rf ops o=some r) (hev:∀ x,VR ρ (ev (rf x)) (a.eval x)) (hr:HR ρ σ W)
  {L:List (AV × AH)} (hok:dcall Γ ev σ r=some L) {K:Act → World → Prop} {Q:Exit → Act → World → Prop}
  (hK:∀ p ∈ L,∀ v W' ρ',HR ρ' p.2 W' → Stp σ.next ρ σ W ρ' p.2 W' → VR ρ' p.1 v → K (a.put o.dst v) W') :
  if Region.wanted o (yielded ops a.tmps)=true then o.wpIn (fen ro) 0 P a W K Q else (∀ f,o.about P W a.eval=some f → (fen ro).fn f) ∧ K (a.put o.dst undef) W:=by
 obtain ⟨hg,hcop,_,_⟩:=Cj hc
 unfold dcall at hok
 cases hrg:r.guard with
 | some g=>rw [hrg] at hok;cases hok
 | none =>
  rw [hrg] at hok hg
  have hgo:o.guard=none:=by
   unfold I6 at hg
   split at hg
   ·assumption
   ·split at hg <;> cases hg
  rw [if_pos (by simp [Region.wanted,hgo])]
  generalize hop:o.op=op at hcop
  cases hrop:r.op <;> rw [hrop] at hok hcop <;> try (cases hok;done)
  rename_i rfn args
  dsimp only at hok
  unfold copOf at hcop
  split at hcop
  ·rename_i f args' ats
   simp only [Option.some.injEq,COp.call.injEq] at hcop
   obtain ⟨rfl,rfl⟩:=hcop
   have hf:=hev f
   have hnd:∀ c,o.op ≠ .defer c:=fun c e=>by rw [hop] at e;cases e
   cases hcv:ev (rf f) <;> rw [hcv] at hok hf <;> try (cases hok;done)
   rename_i fn first cap
   cases fn <;> try (cases hok;done)
   rename_i g
   unfold VR at hf
   obtain ⟨us,vs,hv,hus,hvs⟩:=hf
   obtain ⟨⟨fn,hfn,hbody,hname⟩,hcall⟩:=hΓ.dm _ _ _ _ hok
   have hargs:VRs ρ (first ++ ((args'.toList.map rf).map ev ++ cap)) (us ++ ((args'.toList.map a.eval) ++ vs)):=hus.append ((vrs_map hev _).append hvs)
   have hcall:=hcall ρ W _ hY hG hr hargs
   refine ⟨fun _ _=>trivial,?_⟩
   obtain ⟨body,hbn⟩:=Option.isSome_iff_exists.1 hbody
   have hname' : ¬ fn.name = "runtime.NumGoroutine" := by simpa using hname
   have hrun:(execOp a.eval o).run P W=.ok (.enter g (us ++ (args'.toList.map a.eval ++ vs)).toArray) W:=by
    have e1:(us ++ (args'.toList.map a.eval ++ vs)).toArray=us.toArray ++ args'.map a.eval ++ vs.toArray:=by
     apply Array.ext';simp
    rw [e1]
    simp [execOp,hop,resolve,hv,Deferred.ofValue,invoke,callFunc,hfn,hbn,hname']
   rw [Oper.semAt_eq _ _ _ hnd,hrun,Oper.uponIn_enter]
   refine ⟨fun h=>(by cases h),M3 (hcall.mono fun e W' ⟨v,av,σ',ρ',he,hm,h1,h2,h3⟩=>?_)⟩
   subst he
   exact hK _ hm v W' ρ' h1 h2 h3
  ·cases hcop
  ·cases hcop
  ·cases hcop
  ·split at hcop
   ·cases hcop
   ·cases hcop
theorem Fb {G:Nat} {Γ:Gam} {Y:List Yl} {ro:Option Nat} (hΓ:GamOk P G Γ Y) (hY:YInv Y ρ σ W) (hG:∀ g,g < G → ∃ s,ρ g=some (g,(0,s))) {nt:Nat} {ops:Array Oper} {o:Oper} {r:CRow} {a:Act} {rf:Operand → Ref} {ev:Ref → AV} (hc:Jm P nt rf ops o=some r) (hev:∀ x,VR ρ (ev (rf x)) (a.eval x)) (hr:HR ρ σ W)
  (hok:(Aw std Γ ev σ r).1=true) {K:Act → World → Prop} {Q:Exit → Act → World → Prop}
  (hK:∀ v W' ρ',HR ρ' (Aw std Γ ev σ r).2.2 W' → Stp σ.next ρ σ W ρ' (Aw std Γ ev σ r).2.2 W' → VR ρ' (Aw std Γ ev σ r).2.1 v → K (a.put o.dst v) W') :
  if Region.wanted o (yielded ops a.tmps)=true then o.wpIn (fen ro) 0 P a W K Q else (∀ f,o.about P W a.eval=some f → (fen ro).fn f) ∧ K (a.put o.dst undef) W:=by
 obtain ⟨hg,hcop,_,_⟩:=Cj hc
 unfold Aw at hok hK
 unfold I6 at hg
 have hskip:∀ K':Prop,(VR ρ (.tup []) undef → K') → K':=fun K' h=>h (by unfold VR;exact ⟨[],rfl,rfl⟩)
 cases hgo:o.guard with
 | none =>
  rw [hgo] at hg
  simp only [Option.some.injEq] at hg
  rw [← hg] at hok hK
  rw [if_pos (by simp [Region.wanted,hgo])]
  exact cop_sound hΓ hY hG hcop hev hr hok hK
 | some jw =>
  obtain ⟨j,want⟩:=jw
  rw [hgo] at hg
  simp only at hg
  split at hg
  ·rename_i d hd
   simp only [Option.some.injEq] at hg
   rw [← hg] at hok hK
   have hv:=hev (.tmp d)
   simp only at hok hK
   cases hcv:ev (rf (.tmp d)) <;> rw [hcv] at hok hK hv <;> try (cases hok;done)
   ·rename_i b
    unfold VR at hv
    have hy:yielded ops a.tmps j=some b:=by
     unfold yielded
     rw [hd]
     simp only [Option.bind_some]
     simp only [Act.eval] at hv
     rw [Array.getD_eq_getD_getElem?] at hv
     cases ht:a.tmps[d]? with
     | none=>rw [ht] at hv;cases hv
     | some x=>rw [ht] at hv;simp only [Option.getD_some] at hv;rw [hv]
    have hw:Region.wanted o (yielded ops a.tmps)=(b == want):=by
     unfold Region.wanted;rw [hgo];simp only;rw [hy];cases b <;> cases want <;> rfl
    rw [hw]
    cases hbw:b == want <;> simp only [hbw,cond_true,cond_false] at hok hK
    ·rw [if_neg (by simp)]
     exact ⟨fun _ _=>trivial,hskip _ fun h=>hK undef W ρ hr (Stp.refl (Nat.le_refl _)) h⟩
    ·rw [if_pos rfl]
     exact cop_sound hΓ hY hG hcop hev hr hok hK
   ·rename_i l
    unfold VR at hv
    obtain ⟨us,hv,_⟩:=hv
    have hy:yielded ops a.tmps j=none:=by
     unfold yielded
     rw [hd]
     simp only [Option.bind_some]
     simp only [Act.eval] at hv
     rw [Array.getD_eq_getD_getElem?] at hv
     cases ht:a.tmps[d]? with
     | none=>rfl
     | some x=>rw [ht] at hv;simp only [Option.getD_some] at hv;rw [hv]
    have hw:Region.wanted o (yielded ops a.tmps)=false:=by
     unfold Region.wanted;rw [hgo];simp only;rw [hy];rfl
    rw [hw,if_neg (by simp)]
    exact ⟨fun _ _=>trivial,hskip _ fun h=>hK undef W ρ hr (Stp.refl (Nat.le_refl _)) h⟩
  ·cases hg
end
structure ER (G nt:Nat) (ρ:Ren) (env:T AV) (a:Act):Prop where
 small:nt ≤ 1048576
 size:a.tmps.size=nt
 glob:∀ g,g < G → ∃ s,ρ g=some (g,(0,s))
 at_:∀ t v,env.get t=some v → VR ρ v (a.tmps.getD t undef)
def evS (env:T AV):Ref → AV
 | .op _=>.top
 | .slot t=>match env.get t with
  | some v=>v
  | none=>.top
 | .lit v=>v
def rfS (G:Nat):Operand → Ref
 | .tmp t=>.slot t
 | .const v=>.lit (Jo v)
 | .global g=>.lit (bif Nat.blt g G then .ptr g 0 else .top)
 | .func f=>.lit (.fn (.func f) [] [])
def Hz (env:T AV) (d:Option Nat) (v:AV):T AV:=match d with
 | some d=>env.put d v
 | none=>env
theorem ER.ev {G nt:Nat} {ρ:Ren} {env:T AV} {a:Act} (h:ER G nt ρ env a) (x:Operand):VR ρ (evS env (rfS G x)) (a.eval x):=by
 cases x with
 | tmp t =>
  simp only [rfS,evS,Act.eval]
  cases ht:env.get t with
  | none=>trivial
  | some v=>exact h.at_ t v ht
 | const v=>exact Gw ρ v
 | global g =>
  simp only [rfS,evS]
  cases hg:Nat.blt g G
  ·trivial
  ·rw [Nat.blt_eq] at hg
   show VR ρ (.ptr g 0) _
   obtain ⟨s,hs⟩:=h.glob g hg;unfold VR;exact ⟨g,_,hs,rfl⟩
 | func f=>simp only [rfS,evS];unfold VR;exact ⟨[],[],rfl,rfl,rfl⟩
theorem ER.sub {G nt:Nat} {ρ ρ':Ren} {env:T AV} {a:Act} (h:ER G nt ρ env a) (hs:Sub ρ ρ'):ER G nt ρ' env a :=
 ⟨h.small,h.size,fun g hg=>let ⟨s,h'⟩:=h.glob g hg;⟨s,hs _ _ h'⟩,fun t v ht=>(h.at_ t v ht).mono hs⟩
theorem ER.put {G nt:Nat} {ρ:Ren} {env:T AV} {a:Act} (h:ER G nt ρ env a) {d:Option Nat} (hd:∀ t,d=some t → t < nt) {v:AV} {u:Value} (hv:VR ρ v u):ER G nt ρ (Hz env d v) (a.put d u):=by
 cases d with
 | none=>exact h
 | some d =>
  have hdn:=hd d rfl
  have hs:=h.small
  refine ⟨h.small,by simp [Act.put,h.size],h.glob,fun t x ht=>?_⟩
  simp only [Hz,T.get_put _ _ _ _ (by omega:d < 1048576)] at ht
  simp only [Act.put,Array.getD_eq_getD_getElem?]
  by_cases htd:t=d
  ·subst htd
   rw [if_pos rfl] at ht;cases ht
   simp [h.size,hdn,hv]
  ·rw [if_neg htd] at ht
   rw [Array.getElem?_setIfInBounds_ne (Ne.symm htd),← Array.getD_eq_getD_getElem?]
   exact h.at_ t x ht
def evP (A:Ar) (Γ:Gam):List CRow → T AV → AH → Bool × T AV × AH
 | [],env,σ=>(true,env,σ)
 | r :: l,env,σ=>match Aw A Γ (evS env) σ r with
  | (ok,v,σ')=>match evP A Γ l (Hz env r.dst v) σ' with
   | (ok',x)=>(ok && ok',x)
def Cw (P:Program) (nt:Nat) (rf:Operand → Ref) (ops:Array Oper):List Oper → Option (List CRow)
 | []=>some []
 | o :: l=>match Jm P nt rf ops o with
  | none=>none
  | some r=>match Cw P nt rf ops l with
   | none=>none
   | some rs=>some (r :: rs)
def bindS {α β γ:Type}:List (α × β) → (α → β → Option (List γ)) → Option (List γ)
 | [],_=>some []
 | p :: L,f=>match f p.1 p.2 with
  | none=>none
  | some l=>match bindS L f with
   | none=>none
   | some m=>some (l ++ m)
theorem bindS_mem {α β γ:Type} {f:α → β → Option (List γ)}:∀ {L:List (α × β)} {M:List γ},bindS L f=some M → ∀ p ∈ L,∃ l,f p.1 p.2=some l ∧ ∀ x ∈ l,x ∈ M
 | [],_,_,p,hp=>by cases hp
 | q :: L,M,h,p,hp=>by
  unfold bindS at h
  split at h
  ·cases h
  ·rename_i l hl
   split at h
   ·cases h
   ·rename_i m hm
    cases h
    rcases List.mem_cons.1 hp with rfl | hp
    ·exact ⟨l,hl,fun x hx=>List.mem_append_left _ hx⟩
    ·obtain ⟨l',h1,h2⟩:=bindS_mem hm p hp
     exact ⟨l',h1,fun x hx=>List.mem_append_right _ (h2 x hx)⟩
def evPS (A:Ar) (Γ:Gam):List CRow → T AV → AH → Option (List (T AV × AH))
 | [],env,σ=>some [(env,σ)]
 | r :: l,env,σ=>match Aw A Γ (evS env) σ r with
  | (ok,v,σ')=>bif ok then evPS A Γ l (Hz env r.dst v) σ' else match dcall Γ (evS env) σ r with
   | none=>none
   | some L=>bindS L fun v σ'=>evPS A Γ l (Hz env r.dst v) σ'
theorem plainS_sound {P:Program} {Γ:Gam} {G nt:Nat} {Y:List Yl} {ro:Option Nat} (hΓ:GamOk P G Γ Y) {ops:Array Oper} {Q:Exit → Act → World → Prop}:∀ (l:List Oper) (rows:List CRow) (i:Nat),Cw P nt (rfS G) ops l=some rows → (∀ j,ops[i + j]?=l[j]?) →
  ∀ {ρ:Ren} {σ:AH} {W:World} {env:T AV} {a:Act} {L:List (T AV × AH)},YInv Y ρ σ W → HR ρ σ W → ER G nt ρ env a → evPS std Γ rows env σ=some L →
  (∀ p ∈ L,∀ ρ' a' W',HR ρ' p.2 W' → ER G nt ρ' p.1 a' → Stp σ.next ρ σ W ρ' p.2 W' → a'.defers=a.defers → Q .normal a' W') →
  wpOpsIn (fen ro) 0 P ops Q (List.range' i l.length) a W:=by
 intro l
 induction l with
 | nil =>
  intro rows i hrows _ ρ σ W env a L _ hr he hok hQ
  cases hrows
  cases hok
  exact hQ _ List.mem_cons_self ρ a W hr he (Stp.refl (Nat.le_refl _)) rfl
 | cons o l ih =>
  intro rows i hrows hops ρ σ W env a L hY hr he hok hQ
  unfold Cw at hrows
  split at hrows
  ·cases hrows
  ·rename_i r hro
   split at hrows
   ·cases hrows
   ·rename_i rs hrs
    cases hrows
    have h0:=hops 0
    simp only [Nat.add_zero,List.getElem?_cons_zero] at h0
    rw [List.length_cons,List.range'_succ,wpOpsIn_cons]
    unfold wpOpIn
    simp only [h0]
    unfold evPS at hok
    obtain ⟨_,_,hdst,hdlt⟩:=Cj hro
    have hgo:∀ {v:AV} {σ':AH} {M:List (T AV × AH)} {u:Value} {W':World} {ρ':Ren},evPS std Γ rs (Hz env r.dst v) σ'=some M → (∀ x ∈ M,x ∈ L) → HR ρ' σ' W' → Stp σ.next ρ σ W ρ' σ' W' → VR ρ' v u → wpOpsIn (fen ro) 0 P ops Q (List.range' (i + 1) l.length) (a.put o.dst u) W':=by
     intro v σ' M u W' ρ' hM hML h1 h2 h3
     have he':ER G nt ρ' (Hz env r.dst v) (a.put o.dst u):=by
      rw [hdst];exact (he.sub (h2.sub hr)).put hdlt h3
     refine ih rs (i + 1) hrs (fun j=>by have:=hops (j + 1);rw [show i + 1 + j=i + (j + 1) by omega];simpa using this) (hY.step (fun y hy=>(hY y hy).lt) h2) h1 he' hM fun p hp ρ'' a' W'' k1 k2 k3 k4=>?_
     refine hQ p (hML p hp) ρ'' a' W'' k1 k2 (h2.trans k3 h2.next) ?_
     rw [k4];cases o.dst <;> rfl
    generalize hg:Aw std Γ (evS env) σ r=g at hok
    obtain ⟨ok,v,σ'⟩:=g
    dsimp only at hok
    cases ok with
    | true =>
     refine Fb hΓ hY he.glob hro (fun x=>he.ev x) hr (by rw [hg]) fun u W' ρ' h1 h2 h3=>?_
     rw [hg] at h1 h2 h3
     exact hgo hok (fun x hx=>hx) h1 h2 h3
    | false =>
     dsimp only [cond_false] at hok
     cases hd:dcall Γ (evS env) σ r with
     | none=>rw [hd] at hok;cases hok
     | some L1 =>
      rw [hd] at hok
      refine dcall_sound hΓ hY he.glob hro (fun x=>he.ev x) hr hd fun p hp u W' ρ' h1 h2 h3=>?_
      obtain ⟨M,hM,hML⟩:=bindS_mem hok p hp
      exact hgo hM hML h1 h2 h3
theorem Er {P:Program} {Γ:Gam} {G nt:Nat} {Y:List Yl} {ro:Option Nat} (hΓ:GamOk P G Γ Y) {ops:Array Oper} {Q:Exit → Act → World → Prop}:∀ (l:List Oper) (rows:List CRow) (i:Nat),Cw P nt (rfS G) ops l=some rows → (∀ j,ops[i + j]?=l[j]?) →
  ∀ {ρ:Ren} {σ:AH} {W:World} {env:T AV} {a:Act},YInv Y ρ σ W → HR ρ σ W → ER G nt ρ env a → (evP std Γ rows env σ).1=true →
  (∀ ρ' a' W',HR ρ' (evP std Γ rows env σ).2.2 W' → ER G nt ρ' (evP std Γ rows env σ).2.1 a' → Stp σ.next ρ σ W ρ' (evP std Γ rows env σ).2.2 W' → a'.defers=a.defers → Q .normal a' W') →
  wpOpsIn (fen ro) 0 P ops Q (List.range' i l.length) a W:=by
 intro l
 induction l with
 | nil =>
  intro rows i hrows _ ρ σ W env a _ hr he _ hQ
  cases hrows
  exact hQ ρ a W hr he (Stp.refl (Nat.le_refl _)) rfl
 | cons o l ih =>
  intro rows i hrows hops ρ σ W env a hY hr he hok hQ
  unfold Cw at hrows
  split at hrows
  ·cases hrows
  ·rename_i r hro
   split at hrows
   ·cases hrows
   ·rename_i rs hrs
    cases hrows
    have h0:=hops 0
    simp only [Nat.add_zero,List.getElem?_cons_zero] at h0
    rw [List.length_cons,List.range'_succ,wpOpsIn_cons]
    unfold wpOpIn
    simp only [h0]
    unfold evP at hok hQ
    generalize hg:Aw std Γ (evS env) σ r=g at hok hQ
    obtain ⟨ok,v,σ'⟩:=g
    simp only at hok hQ
    generalize hrest:evP std Γ rs (Hz env r.dst v) σ'=rest at hok hQ
    obtain ⟨ok',env',σ''⟩:=rest
    simp only [Bool.and_eq_true] at hok hQ
    obtain ⟨_,_,hdst,hdlt⟩:=Cj hro
    refine Fb hΓ hY he.glob hro (fun x=>he.ev x) hr (by rw [hg];exact hok.1) fun u W' ρ' h1 h2 h3=>?_
    rw [hg] at h1 h2 h3
    simp only at h1 h2 h3
    have he':ER G nt ρ' (Hz env r.dst v) (a.put o.dst u):=by
     rw [hdst];exact (he.sub (h2.sub hr)).put hdlt h3
    refine ih rs (i + 1) hrs (fun j=>by have:=hops (j + 1);rw [show i + 1 + j=i + (j + 1) by omega];simpa using this) (hY.step (fun y hy=>(hY y hy).lt) h2) h1 he' (by rw [hrest];exact hok.2) fun ρ'' a' W'' k1 k2 k3 k4=>?_
    rw [hrest] at k1 k2 k3
    refine hQ ρ'' a' W'' k1 k2 (h2.trans k3 h2.next) ?_
    rw [k4];cases o.dst <;> rfl
end
end Go.Proofs.YtfdfdagbeeeomaaDoor.V2
namespace Go.Proofs.YtfdfdagbeeeomaaDoor
open Go
def upd (vs:Nat → Value) (i:Nat) (v:Value):Nat → Value:=fun k=>bif Nat.beq k i then v else vs k
theorem upd_self (vs:Nat → Value) (i:Nat) (v:Value):upd vs i v i=v:=by simp [upd]
theorem upd_ne (vs:Nat → Value) {i k:Nat} (v:Value) (h:k ≠ i):upd vs i v k=vs k:=by
 have:Nat.beq k i=false:=by rw [Bool.eq_false_iff];exact fun e=>h (Nat.eq_of_beq_eq_true e)
 simp [upd,this]
def Bh (ops:Array Oper) (k:Nat):Option Tmp:=(ops[k]?).bind (·.dst)
def Cg (ops:Array Oper) (a0:Act) (vs:Nat → Value) (l:List Nat):Act:=l.foldl (fun a k=>a.put (Bh ops k) (vs k)) a0
theorem Ep (a:Act) (d:Option Tmp) (v:Value):(a.put d v).tmps.size=a.tmps.size:=by cases d <;> simp [Act.put]
theorem put_defers (a:Act) (d:Option Tmp) (v:Value):(a.put d v).defers=a.defers:=by cases d <;> rfl
theorem actOf_size (ops:Array Oper) (vs:Nat → Value) (l:List Nat):∀ a0,(Cg ops a0 vs l).tmps.size=a0.tmps.size:=by
 induction l with
 | nil=>intro a0;rfl
 | cons k l ih=>intro a0;show (Cg ops _ vs l).tmps.size=_;rw [ih,Ep]
theorem actOf_at (ops:Array Oper) (vs:Nat → Value) (t:Tmp) (p q:Nat → Bool) (l:List Nat) (h:∀ k ∈ l,Bh ops k=some t → p k=q k) :
  ∀ a b:Act,a.tmps.size=b.tmps.size → a.tmps[t]?=b.tmps[t]? → (Cg ops a vs (l.filter p)).tmps[t]?=(Cg ops b vs (l.filter q)).tmps[t]?:=by
 induction l with
 | nil=>intro a b _ he;exact he
 | cons k l ih =>
  intro a b hs he
  have ih':=ih (fun j hj=>h j (List.mem_cons_of_mem _ hj))
  have keep:∀ c:Act,Bh ops k ≠ some t → (c.put (Bh ops k) (vs k)).tmps[t]?=c.tmps[t]?:=fun c hne=>by
   cases hd:Bh ops k with
   | none=>rfl
   | some d =>
    have:d ≠ t:=fun e=>hne (by rw [hd,e])
    simp [Act.put,Array.getElem?_setIfInBounds_ne this]
  by_cases hd:Bh ops k=some t
  ·have hpq:=h k List.mem_cons_self hd
   cases hp:p k with
   | true =>
    rw [List.filter_cons_of_pos hp,List.filter_cons_of_pos (by rw [← hpq];exact hp)]
    refine ih' _ _ (by rw [Ep,Ep,hs]) ?_
    show (a.put (Bh ops k) (vs k)).tmps[t]?=(b.put (Bh ops k) (vs k)).tmps[t]?
    rw [hd]
    simp [Act.put,Array.getElem?_setIfInBounds,hs]
   | false =>
    rw [List.filter_cons_of_neg (by simp [hp]),List.filter_cons_of_neg (by rw [← hpq];simp [hp])]
    exact ih' _ _ hs he
  ·cases hp:p k <;> cases hq:q k <;> simp only [List.filter_cons,hp,hq,if_true,Bool.false_eq_true,if_false]
   ·exact ih' _ _ hs he
   ·exact ih' _ _ (by rw [Ep];exact hs) (by rw [keep _ hd];exact he)
   ·exact ih' _ _ (by rw [Ep];exact hs) (by rw [keep _ hd];exact he)
   ·exact ih' _ _ (by rw [Ep,Ep];exact hs) (by rw [keep _ hd,keep _ hd];exact he)
theorem actOf_upd (ops:Array Oper) (vs:Nat → Value) (i:Nat) (v:Value) (l:List Nat) (h:i ∉ l):∀ a,Cg ops a (upd vs i v) l=Cg ops a vs l:=by
 induction l with
 | nil=>intro a;rfl
 | cons k l ih =>
  intro a
  show Cg ops (a.put (Bh ops k) (upd vs i v k)) (upd vs i v) l=Cg ops (a.put (Bh ops k) (vs k)) vs l
  rw [upd_ne vs v (fun e=>h (by rw [← e];exact List.mem_cons_self)),ih (fun hm=>h (List.mem_cons_of_mem _ hm))]
theorem actOf_put (ops:Array Oper) (vs:Nat → Value) (d:Option Tmp) (v:Value) (l:List Nat) (h:∀ k ∈ l,∀ t,d=some t → Bh ops k ≠ some t) :
  ∀ a,Cg ops (a.put d v) vs l=(Cg ops a vs l).put d v:=by
 induction l with
 | nil=>intro a;rfl
 | cons k l ih =>
  intro a
  show Cg ops ((a.put d v).put (Bh ops k) (vs k)) vs l=(Cg ops (a.put (Bh ops k) (vs k)) vs l).put d v
  rw [Act.put_comm a v (vs k) (fun t ht=>h k List.mem_cons_self t ht),ih (fun j hj=>h j (List.mem_cons_of_mem _ hj))]
theorem actOf_insert (ops:Array Oper) (a0:Act) (vs:Nat → Value) (n i:Nat) (v:Value) (p p':Nat → Bool) (hi:i < n) (hpi:p i=false) (hp':∀ k,p' k=(p k || k == i))
  (h:∀ k,i < k → k < n → p k=true → ∀ t,Bh ops i=some t → Bh ops k ≠ some t) :
  Cg ops a0 (upd vs i v) ((List.range n).filter p')=(Cg ops a0 vs ((List.range n).filter p)).put (Bh ops i) v:=by
 have hr:List.range n=List.range i ++ i :: (List.range' (i + 1) (n - (i + 1))):=by
  rw [List.range_eq_range',List.range_eq_range',← List.range'_succ]
  have:=@List.range'_append_1 0 i (n - (i + 1) + 1)
  rw [Nat.zero_add] at this
  rw [this];congr 1;omega
 have e1:(List.range i).filter p'=(List.range i).filter p:=List.filter_congr fun k hk=>by
  have:=List.mem_range.1 hk
  rw [hp' k,show (k == i)=false from beq_eq_false_iff_ne.2 (by omega),Bool.or_false]
 have e2:(List.range' (i + 1) (n - (i + 1))).filter p'=(List.range' (i + 1) (n - (i + 1))).filter p:=List.filter_congr fun k hk=>by
  have:=(List.mem_range'_1.1 hk).1
  rw [hp' k,show (k == i)=false from beq_eq_false_iff_ne.2 (by omega),Bool.or_false]
 rw [hr,List.filter_append,List.filter_append,List.filter_cons_of_pos (by simp [hp']),List.filter_cons_of_neg (by simp [hpi]),e1,e2]
 show List.foldl _ _ _=Act.put (List.foldl _ _ _) _ _
 rw [List.foldl_append,List.foldl_append,List.foldl_cons]
 have n1:i ∉ (List.range i).filter p:=fun hm=>by have:=List.mem_range.1 (List.mem_filter.1 hm).1;omega
 have n2:i ∉ (List.range' (i + 1) (n - (i + 1))).filter p:=fun hm=>by have:=(List.mem_range'_1.1 (List.mem_filter.1 hm).1).1;omega
 have:=actOf_upd ops vs i v _ n1 a0
 unfold Cg at this
 rw [this,upd_self]
 have:=actOf_upd ops vs i v _ n2 ((Cg ops a0 vs ((List.range i).filter p)).put (Bh ops i) v)
 unfold Cg at this
 rw [this]
 exact actOf_put ops vs (Bh ops i) v _ (fun k hk t ht=>by
  have hm:=List.mem_filter.1 hk
  have hm1:=List.mem_range'_1.1 hm.1
  exact h k (by omega) (by omega) hm.2 t ht) _
def chkEdges (ops:Array Oper) (B:List (List Nat)):Bool :=
 (List.range ops.size).all fun i=>(B.getD i []).all fun k=>k < i && (match ops[i]? with
  | some o=>o.after.any fun e=>Region.binds .any e && (k == e.on || (B.getD e.on []).contains k)
  | none=>false)
def chkBack (ops:Array Oper):Bool :=
 (List.range ops.size).all fun i=>match ops[i]? with
  | some o=>o.after.all fun e=>!Region.binds .any e || decide (e.on < i)
  | none=>false
def chkSlots (ops:Array Oper) (B:List (List Nat)):Bool :=
 (List.range ops.size).all fun i=>match ops[i]? with
  | some o=>(List.range ops.size).all fun k=>k == i || (B.getD i []).contains k || (B.getD k []).contains i || (match Bh ops k with
   | some t=>!(o.looksAt ops).contains t && !(o.dst == some t)
   | none=>true)
  | none=>false
def chkSorted (ops:Array Oper) (B:List (List Nat)):Bool :=
 (List.range ops.size).all fun i=>(B.getD i []) == (List.range ops.size).filter fun k=>(B.getD i []).contains k
def chkKills (ops:Array Oper) (B:List (List Nat)) (X:List (List Nat)):Bool :=
 (List.range ops.size).all fun k=>(X.getD k []).all fun i=>(List.range ops.size).all fun j=>!(B.getD j []).contains k || j == i || (B.getD i []).contains j
def I7 (ops:Array Oper) (B X:List (List Nat)):Bool:=chkKills ops B X && chkEdges ops B && chkBack ops && chkSlots ops B && chkSorted ops B && Region.noSelect ops
theorem actOf_defers (ops:Array Oper) (vs:Nat → Value) (l:List Nat):∀ a0,(Cg ops a0 vs l).defers=a0.defers:=by
 induction l with
 | nil=>intro a0;rfl
 | cons k l ih=>intro a0;show (Cg ops _ vs l).defers=_;rw [ih,put_defers]
def lst (listed:Array Bool) (k:Nat):Bool:=listed.getD k false
theorem I4 {listed:Array Bool} {i:Nat} (hi:i < listed.size) (k:Nat):lst (listed.setIfInBounds i true) k=(lst listed k || k == i):=by
 unfold lst
 by_cases h:i=k
 ·subst h;simp [hi]
 ·rw [getD_set_ne false h,show (k == i)=false from beq_eq_false_iff_ne.2 (Ne.symm h),Bool.or_false]
end Go.Proofs.YtfdfdagbeeeomaaDoor
namespace Go.Proofs.YtfdfdagbeeeomaaDoor.V2
open Go
noncomputable section
inductive Kd where
 | P | A | L | S
 deriving DecidableEq
def kdA:AOp → Kd
 | .store _ _ _=>.S
 | .ext _ _=>.S
 | .alloc _ _=>.A
 | .box _ _=>.A
 | .mk _ _=>.A
 | .load1 _=>.L
 | .loadN _ _=>.L
 | .slArr _ _ _ _ _ _=>.L
 | .rd _ _=>.L
 | _=>.P
def kd (pu:FuncId → Bool) (r:CRow):Kd:=match r.op with
 | .aop a=>match kdA a with
  | .A=>match r.guard with
   | none=>.A
   | some _=>.S
  | k=>k
 | .call f _=>match f with
  | .lit (.fn (.func g) [] [])=>bif pu g then .P else .S
  | _=>.S
 | _=>.S
def Jh (Γ:Gam) (pu:FuncId → Bool):Prop:=∀ f,pu f=true → ∀ args σ σ',Γ f args σ=((Γ f args σ').1,(Γ f args σ').2.1,σ)
theorem stepP {A:Ar} {ev:Ref → AV} {a:AOp} (h:kdA a=.P) (σ σ':AH):step A ev σ a=((step A ev σ' a).1,(step A ev σ' a).2.1,σ):=by
 cases a <;> simp only [kdA,reduceCtorEq] at h
 case mov=>rfl
 case pick c x y=>simp only [step];cases ev c <;> rfl
 case bin op x y =>
  simp only [step,Bk]
  cases ev x <;> try rfl
  all_goals cases ev y <;> rfl
 case un=>rfl
 case conv k x=>simp only [step];cases ev x <;> rfl
 case fieldAddr o x=>simp only [step];cases ev x <;> rfl
 case idxArr l s x i =>
  simp only [step,I2]
  cases ev x <;> try rfl
  all_goals cases ev i <;> rfl
 case idxSl s x i =>
  simp only [step,Ma]
  cases ev x <;> try rfl
  all_goals cases ev i <;> rfl
 case slStr x lo hi=>simp only [step,L8];cases ev x <;> rfl
 case slSl s x lo hi mx=>simp only [step,oSlSl];cases ev x <;> rfl
 case extract x k=>simp only [step];cases ev x <;> rfl
 case mkIface=>rfl
 case nilCheck x =>
  simp only [step]
  cases ev x <;> try rfl
  rename_i f _ _;cases f <;> rfl
 case lenStr x=>simp only [step];cases ev x <;> rfl
 case lenSl x=>simp only [step];cases ev x <;> rfl
 case pur x args=>rfl
 case badop=>rfl
theorem gstep_of_cstep {A:Ar} {Γ:Gam} {ev:Ref → AV} {r:CRow} {σ σ':AH} (h:Cc A Γ ev σ r.op=((Cc A Γ ev σ' r.op).1,(Cc A Γ ev σ' r.op).2.1,σ)) :
  Aw A Γ ev σ r=((Aw A Γ ev σ' r).1,(Aw A Γ ev σ' r).2.1,σ):=by
 unfold Aw
 cases r.guard with
 | none=>exact h
 | some g =>
  simp only
  cases ev g.1 <;> try rfl
  rename_i b
  cases hb:b == g.2
  ·simp only [hb,cond_false]
  ·simp only [hb,cond_true];exact h
theorem kd_P {A:Ar} {Γ:Gam} {pu:FuncId → Bool} (hp:Jh Γ pu) {ev:Ref → AV} (hl:∀ v,ev (.lit v)=v) {r:CRow} (h:kd pu r=.P) (σ σ':AH):Aw A Γ ev σ r=((Aw A Γ ev σ' r).1,(Aw A Γ ev σ' r).2.1,σ):=by
 refine gstep_of_cstep ?_
 unfold kd at h
 split at h
 ·rename_i a ha
  rw [ha]
  refine stepP ?_ σ σ'
  split at h
  ·split at h <;> cases h
  ·exact h
 ·rename_i f args hf
  rw [hf]
  split at h
  ·rename_i g
   cases hg:pu g <;> rw [hg] at h
   ·cases h
   ·simp only [Cc,hl];exact hp g hg _ _ _
  ·cases h
 ·cases h
theorem kd_L {Γ:Gam} {pu:FuncId → Bool} {ev:Ref → AV} {r:CRow} (h:kd pu r=.L) {σ σ':AH} (hg:∀ b o,σ.get b=some o → σ'.get b=some o) (hok:(Aw std Γ ev σ r).1=true) :
  Aw std Γ ev σ' r=(true,(Aw std Γ ev σ r).2.1,σ') ∧ (Aw std Γ ev σ r).2.2=σ:=by
 have hc:(Cc std Γ ev σ r.op).1=true → Cc std Γ ev σ' r.op=(true,(Cc std Γ ev σ r.op).2.1,σ') ∧ (Cc std Γ ev σ r.op).2.2=σ:=by
  intro hok
  unfold kd at h
  split at h
  ·rename_i a ha
   rw [ha] at hok ⊢
   split at h
   ·split at h <;> cases h
   ·cases a <;> simp only [kdA,reduceCtorEq] at h
    ·rename_i x _
     simp only [Cc,step,C6] at hok ⊢
     cases hx:ev x <;> rw [hx] at hok <;> try (cases hok;done)
     rename_i b off
     simp only at hok ⊢
     cases ho:σ.get b with
     | none=>rw [ho] at hok;cases hok
     | some o=>rw [ho] at hok;simp only at hok;rw [hg _ _ ho];exact ⟨by simp only [hok],rfl⟩
    ·rename_i n x _
     simp only [Cc,step,C5] at hok ⊢
     cases hx:ev x <;> rw [hx] at hok <;> try (cases hok;done)
     rename_i b off
     simp only at hok ⊢
     cases ho:σ.get b with
     | none=>rw [ho] at hok;cases hok
     | some o=>rw [ho] at hok;simp only at hok;rw [hg _ _ ho];exact ⟨by simp only [hok],rfl⟩
    ·rename_i n m x lo hi mx _
     simp only [Cc,step,L9] at hok ⊢
     cases hx:ev x <;> rw [hx] at hok <;> try (cases hok;done)
     rename_i b off
     simp only at hok ⊢
     cases ho:σ.get b with
     | none=>rw [ho] at hok;cases hok
     | some o=>rw [ho] at hok;simp only at hok;rw [hg _ _ ho];exact ⟨by rw [Prod.mk.injEq];exact ⟨hok,rfl⟩,rfl⟩
    ·rename_i x args _
     simp only [Cc,step] at hok ⊢
     rw [lstep_mono hg hok]
     exact ⟨by rw [hok],trivial⟩
  ·rename_i f args hf
   split at h
   ·rename_i g;cases hg:pu g <;> rw [hg] at h <;> cases h
   ·cases h
  ·cases h
 unfold Aw at hok ⊢
 cases hgd:r.guard with
 | none=>rw [hgd] at hok;exact hc hok
 | some g =>
  rw [hgd] at hok
  simp only at hok ⊢
  cases hx:ev g.1 <;> rw [hx] at hok <;> try (cases hok;done)
  ·rename_i b
   simp only at hok ⊢
   cases hb:b == g.2 <;> simp only [hb,cond_true,cond_false] at hok ⊢
   ·simp
   ·exact hc hok
  ·simp
def J8 (A:Ar) (ev:Ref → AV) (r:CRow):AObj:=match r.op with
 | .aop (.alloc e l)=>AObj.of l e .exact
 | .aop (.box e x)=>Mp (ev x) e
 | .aop (.mk x args)=>(Bt A x (args.map ev)).2.2
 | _=>.dead
def Ls (A:Ar) (ev:Ref → AV) (r:CRow) (b:Nat):AV:=match r.op with
 | .aop (.mk x args)=>(Bt A x (args.map ev)).2.1 b
 | _=>.ptr b 0
theorem kd_A {A:Ar} {Γ:Gam} {pu:FuncId → Bool} {ev:Ref → AV} {r:CRow} (h:kd pu r=.A) (σ:AH) (hok:(Aw A Γ ev σ r).1=true):Aw A Γ ev σ r=(true,Ls A ev r σ.next,σ.new (J8 A ev r)) ∧ Nat.blt σ.next 1000000=true:=by
 unfold kd at h
 split at h
 ·rename_i a ha
  split at h
  ·rename_i hk
   split at h
   ·rename_i hg
    unfold Aw at hok ⊢
    rw [hg] at hok ⊢
    simp only [ha,Cc] at hok ⊢
    cases a <;> simp only [kdA,reduceCtorEq] at hk
    ·simp only [step] at hok ⊢
     exact ⟨by rw [hok];simp [J8,Ls,ha],hok⟩
    ·simp only [step] at hok ⊢
     exact ⟨by rw [hok];simp [J8,Ls,ha],hok⟩
    ·simp only [step] at hok ⊢
     refine ⟨by rw [hok];simp [J8,Ls,ha],?_⟩
     rw [Bool.and_eq_true] at hok;exact hok.2
   ·cases h
  ·rename_i hk;exact absurd h hk
 ·rename_i f args hf
  split at h
  ·rename_i g;cases hg:pu g <;> rw [hg] at h <;> cases h
  ·cases h
 ·cases h
theorem A_run {P:Program} {Γ:Gam} {pu:FuncId → Bool} {nt:Nat} {ops:Array Oper} {o:Oper} {r:CRow} {a:Act} {rf:Operand → Ref} {ev:Ref → AV} {ρ:Ren} {σ:AH} (hc:Jm P nt rf ops o=some r) (hk:kd pu r=.A) (hev:∀ x,VR ρ (ev (rf x)) (a.eval x))
  (hok:(Aw std Γ ev σ r).1=true) (W:World) :
  Region.wanted o (yielded ops a.tmps)=true ∧ ∃ v x n s,(execOp a.eval o).run P W=.ok (.value v) { W with heap:=W.heap.push x,drawn:=n } ∧ OR ρ (0,s) (J8 std ev r) (some x) ∧ ∀ ρ' b,ρ' b=some (W.heap.size,(0,s)) → VR ρ' (Ls std ev r b) v:=by
 obtain ⟨hg,hcop,_,_⟩:=Cj hc
 unfold kd at hk
 split at hk
 ·rename_i ao hao
  split at hk
  ·rename_i hka
   split at hk
   ·rename_i hgn
    have hw:o.guard=none:=by
     unfold I6 at hg
     rw [hgn] at hg
     split at hg
     ·rename_i h;exact h
     ·split at hg <;> cases hg
    refine ⟨by simp [Region.wanted,hw],?_⟩
    rw [hao] at hcop
    have h1:Il P rf o.op=some ao:=by
     unfold copOf at hcop
     split at hcop
     ·cases hcop
     ·cases hcop
     ·cases hcop
     ·cases hcop
     ·split at hcop
      ·rename_i h;cases hcop;exact h
      ·cases hcop;cases hka
    unfold Aw at hok
    rw [hgn] at hok
    simp only [hao,Cc] at hok
    have hptr:∀ ρ' b s,ρ' b=some (W.heap.size,(0,s)) → VR ρ' (.ptr b 0) (.pointer (some ⟨W.heap.size,0,none⟩)):=fun ρ' b s h=>by unfold VR;exact ⟨_,_,h,rfl⟩
    by_cases hmk:∃ x args,ao=.mk x args
    ·obtain ⟨x,args,rfl⟩:=hmk
     have:=M1 (W:=W) h1 hev
     simp only [step,Bool.and_eq_true] at hok
     simp only [J8,Ls,hao]
     exact this hok.1
    generalize hop:o.op=op at h1
    unfold Il at h1
    cases ao <;> simp only [kdA,reduceCtorEq] at hka
    ·rename_i e0 l0
     cases op <;> simp only [reduceCtorEq,Option.some.injEq] at h1
     case alloc e =>
      split at h1
      ·rename_i i hi
       split at h1
       ·rename_i z hz
        cases h1
        refine ⟨.pointer (some ⟨W.heap.size,0,none⟩),.cells z.cells e0,W.drawn,z.cells.size,?_,?_,?_⟩
        ·simp [execOp,hop,Instr.alloc,run_zero hi hz];rfl
        ·simp only [J8,hao]
         simpa using OR.of (D8 ρ z.cells.toList)
        ·simp only [Ls,hao];exact fun ρ' b h=>hptr ρ' b _ h
       ·cases h1
      ·cases h1
     all_goals (repeat' split at h1) <;> first | (cases h1;done) | (have:=compEq_ab h1;cases this) | (have:=M0 h1;cases this) | (have:=Lf h1;cases this) | (have:=compBi_ab h1;cases this)
    ·rename_i e0 x0
     cases op <;> simp only [reduceCtorEq,Option.some.injEq] at h1
     case box e x =>
      cases h1
      refine ⟨.pointer (some ⟨W.heap.size,0,none⟩),.cells (a.eval x).cells e0,W.drawn,(a.eval x).cells.size,?_,?_,?_⟩
      ·simp [execOp,hop,Instr.box];rfl
      ·simp only [J8,hao]
       exact boxO_or (hev x)
      ·simp only [Ls,hao];exact fun ρ' b h=>hptr ρ' b _ h
     all_goals (repeat' split at h1) <;> first | (cases h1;done) | (have:=compEq_ab h1;cases this) | (have:=M0 h1;cases this) | (have:=Lf h1;cases this) | (have:=compBi_ab h1;cases this)
    ·exact absurd ⟨_,_,rfl⟩ hmk
   ·cases hk
  ·rename_i h;exact absurd hk h
 ·rename_i f args hf
  split at hk
  ·rename_i g;cases hg:pu g <;> rw [hg] at hk <;> cases hk
  ·cases hk
 ·cases hk
end
end Go.Proofs.YtfdfdagbeeeomaaDoor.V2
namespace Go.Proofs.YtfdfdagbeeeomaaDoor.V2
open Go
noncomputable section
def AOp.refs:AOp → List Ref
 | .mov x=>[x]
 | .pick c a b=>[c,a,b]
 | .bin _ x y=>[x,y]
 | .un _ x=>[x]
 | .conv _ x=>[x]
 | .alloc _ _=>[]
 | .box _ x=>[x]
 | .load1 x=>[x]
 | .loadN _ x=>[x]
 | .store _ p x=>[p,x]
 | .fieldAddr _ x=>[x]
 | .idxArr _ _ x i=>[x,i]
 | .idxSl _ x i=>[x,i]
 | .slStr x lo hi=>x :: (lo.toList ++ hi.toList)
 | .slSl _ x lo hi mx=>x :: (lo.toList ++ hi.toList ++ mx.toList)
 | .slArr _ _ x lo hi mx=>x :: (lo.toList ++ hi.toList ++ mx.toList)
 | .extract x _=>[x]
 | .mkIface _ x=>[x]
 | .nilCheck x=>[x]
 | .lenStr x=>[x]
 | .lenSl x=>[x]
 | .ext _ args=>args
 | .pur _ args=>args
 | .rd _ args=>args
 | .mk _ args=>args
 | .badop=>[]
def COp.refs:COp → List Ref
 | .aop a=>a.refs
 | .call f args=>f :: args
 | .rng x=>[x]
 | .nxt x=>[x]
 | .ent x=>[x]
def CRow.refs (r:CRow):List Ref:=(match r.guard with | none=>[] | some g=>[g.1]) ++ r.op.refs
theorem Bv {ev ev':Ref → AV} {x:Option Ref} (h:∀ y ∈ x.toList,ev y=ev' y):x.map ev=x.map ev':=by
 cases x with
 | none=>rfl
 | some y=>simp [h y (by simp)]
theorem step_congr {A:Ar} {ev ev':Ref → AV} {σ:AH} {a:AOp} (h:∀ x ∈ a.refs,ev x=ev' x):step A ev σ a=step A ev' σ a:=by
 cases a <;> simp only [AOp.refs,List.mem_cons,List.not_mem_nil,or_false,forall_eq_or_imp,forall_eq,List.mem_append] at h <;> simp only [step]
 case ext x args=>rw [List.map_congr_left h]
 case pur x args=>rw [List.map_congr_left h]
 case rd x args=>rw [List.map_congr_left h]
 case mk x args=>rw [List.map_congr_left h]
 case slStr x lo hi=>rw [h.1,Bv fun y hy=>h.2 y (.inl hy),Bv fun y hy=>h.2 y (.inr hy)]
 case slSl n x lo hi mx=>rw [h.1,Bv fun y hy=>h.2 y (.inl (.inl hy)),Bv fun y hy=>h.2 y (.inl (.inr hy)),Bv fun y hy=>h.2 y (.inr hy)]
 case slArr n m x lo hi mx=>rw [h.1,Bv fun y hy=>h.2 y (.inl (.inl hy)),Bv fun y hy=>h.2 y (.inl (.inr hy)),Bv fun y hy=>h.2 y (.inr hy)]
 case pick c x y=>rw [h.1,h.2.1,h.2.2]
 case bin op x y=>rw [h.1,h.2]
 case store n p x=>rw [h.1,h.2]
 case idxArr n m x i=>rw [h.1,h.2]
 case idxSl n x i=>rw [h.1,h.2]
 all_goals rw [h]
theorem cstep_congr {A:Ar} {Γ:Gam} {ev ev':Ref → AV} {σ:AH} {c:COp} (h:∀ x ∈ c.refs,ev x=ev' x):Cc A Γ ev σ c=Cc A Γ ev' σ c:=by
 cases c with
 | aop a=>exact step_congr h
 | call f args =>
  simp only [Cc]
  rw [h f (by simp [COp.refs]),List.map_congr_left fun x hx=>h x (by simp [COp.refs,hx])]
 | rng x=>rfl
 | nxt x=>rfl
 | ent x=>rfl
theorem Dy {A:Ar} {Γ:Gam} {ev ev':Ref → AV} {σ:AH} {r:CRow} (h:∀ x ∈ r.refs,ev x=ev' x):Aw A Γ ev σ r=Aw A Γ ev' σ r:=by
 have hc:=cstep_congr (A:=A) (Γ:=Γ) (σ:=σ) (c:=r.op) fun x hx=>h x (by simp [CRow.refs,hx])
 unfold Aw
 cases hg:r.guard with
 | none=>exact hc
 | some g=>simp only;rw [h g.1 (by simp [CRow.refs,hg]),hc]
theorem J7 {A:Ar} {ev ev':Ref → AV} {r:CRow} (h:∀ x ∈ r.refs,ev x=ev' x):J8 A ev r=J8 A ev' r:=by
 unfold J8
 split
 ·rfl
 ·rename_i e x hx;rw [h x (by simp [CRow.refs,hx,COp.refs,AOp.refs])]
 ·rename_i x args hx;rw [List.map_congr_left fun y hy=>h y (by simp [CRow.refs,hx,COp.refs,AOp.refs,hy])]
 ·rfl
theorem J0 {A:Ar} {ev ev':Ref → AV} {r:CRow} (h:∀ x ∈ r.refs,ev x=ev' x):Ls A ev r=Ls A ev' r:=by
 funext b
 unfold Ls
 split
 ·rename_i x args hx;rw [List.map_congr_left fun y hy=>h y (by simp [CRow.refs,hx,COp.refs,AOp.refs,hy])]
 ·rfl
theorem compEq_refs {P:Program} {rf:Operand → Ref} {neg:Bool} {op:BinOp} {t:TypeId} {x y:Operand} {a:AOp} (h:Gp P rf neg op t x y=some a):∀ x ∈ a.refs,∃ y,x=rf y:=by
 unfold Gp at h
 repeat' split at h
 all_goals first | (cases h;done) | skip
 all_goals
  cases h
  intro x hx
  simp only [AOp.refs,List.mem_cons,List.not_mem_nil,or_false] at hx
  repeat' first
   | exact ⟨_,hx⟩
   | (obtain ⟨y,_,hy⟩:=hx;exact ⟨_,hy.symm⟩)
   | rcases hx with hx | hx
theorem compConv_refs {P:Program} {rf:Operand → Ref} {s d:TypeId} {x:Operand} {a:AOp} (h:Ev P rf s d x=some a):∀ x ∈ a.refs,∃ y,x=rf y:=by
 unfold Ev at h
 repeat' split at h
 all_goals first | (cases h;done) | skip
 all_goals
  cases h
  intro x hx
  simp only [AOp.refs,List.mem_cons,List.not_mem_nil,or_false] at hx
  repeat' first
   | exact ⟨_,hx⟩
   | (obtain ⟨y,_,hy⟩:=hx;exact ⟨_,hy.symm⟩)
   | rcases hx with hx | hx
theorem compBuild_refs {P:Program} {rf:Operand → Ref} {t:TypeId} {parts:List (Nat × Operand)} {a:AOp} (h:Dh P rf t parts=some a):∀ x ∈ a.refs,∃ y,x=rf y:=by
 unfold Dh at h
 repeat' split at h
 all_goals first | (cases h;done) | skip
 all_goals
  cases h
  intro x hx
  simp only [AOp.refs,List.mem_map] at hx
  repeat' first
   | exact ⟨_,hx⟩
   | (obtain ⟨y,_,hy⟩:=hx;exact ⟨_,hy.symm⟩)
   | rcases hx with hx | hx
theorem compBi_refs {P:Program} {rf:Operand → Ref} {b:Builtin} {args:List Operand} {ats:List TypeId} {a:AOp} (h:Ho P rf b args ats=some a):∀ x ∈ a.refs,∃ y,x=rf y:=by
 unfold Ho at h
 repeat' split at h
 all_goals first | (cases h;done) | skip
 all_goals
  cases h
  intro x hx
  simp only [AOp.refs,List.mem_map] at hx
  repeat' first
   | exact ⟨_,hx⟩
   | (obtain ⟨y,_,hy⟩:=hx;exact ⟨_,hy.symm⟩)
   | rcases hx with hx | hx
theorem comp1_refs {P:Program} {rf:Operand → Ref} {op:Op} {a:AOp} (h:Il P rf op=some a):∀ x ∈ a.refs,∃ y,x=rf y:=by
 have hopt:∀ (z:Option Operand) x,x ∈ (z.map rf).toList → ∃ y,x=rf y:=fun z x hx=>by
  cases z with
  | none=>simp at hx
  | some y=>simp at hx;exact ⟨y,hx⟩
 unfold Il at h
 cases op <;> simp only [reduceCtorEq,Option.some.injEq] at h
 all_goals try (repeat' split at h)
 all_goals try (cases h;done)
 all_goals try exact compEq_refs h
 all_goals try exact compConv_refs h
 all_goals try exact compBuild_refs h
 all_goals try exact compBi_refs h
 all_goals
  cases h
  intro x hx
  simp only [AOp.refs,List.mem_cons,List.not_mem_nil,or_false,List.mem_append] at hx
  repeat' first
   | exact ⟨_,hx⟩
   | exact hopt _ _ hx
   | exact hx.elim
   | (obtain ⟨y,_,hy⟩:=List.mem_map.1 hx;exact ⟨_,hy.symm⟩)
   | rcases hx with hx | hx
theorem rowOf_refs {P:Program} {nt:Nat} {rf:Operand → Ref} {ops:Array Oper} {o:Oper} {r:CRow} (h:Jm P nt rf ops o=some r):∀ x ∈ r.refs,∃ y,x=rf y:=by
 obtain ⟨hg,hc,_,_⟩:=Cj h
 intro x hx
 unfold CRow.refs at hx
 rcases List.mem_append.1 hx with hx | hx
 ·unfold I6 at hg
  cases hgd:r.guard with
  | none=>rw [hgd] at hx;simp at hx
  | some g =>
   rw [hgd] at hx hg
   simp only [List.mem_cons,List.not_mem_nil,or_false] at hx
   split at hg
   ·cases hg
   ·split at hg
    ·simp only [Option.some.injEq] at hg;rw [hx,← hg];exact ⟨_,rfl⟩
    ·cases hg
 ·unfold copOf at hc
  split at hc
  ·simp only [Option.some.injEq] at hc
   rw [← hc] at hx
   simp only [COp.refs,List.mem_cons,List.mem_map] at hx
   rcases hx with hx | ⟨y,_,hy⟩
   ·exact ⟨_,hx⟩
   ·exact ⟨y,hy.symm⟩
  ·rw [← Option.some.inj hc] at hx;simp only [COp.refs,List.mem_cons,List.not_mem_nil,or_false] at hx;exact ⟨_,hx⟩
  ·rw [← Option.some.inj hc] at hx;simp only [COp.refs,List.mem_cons,List.not_mem_nil,or_false] at hx;exact ⟨_,hx⟩
  ·rw [← Option.some.inj hc] at hx;simp only [COp.refs,List.mem_cons,List.not_mem_nil,or_false] at hx;exact ⟨_,hx⟩
  ·split at hc
   ·rename_i a ha
    simp only [Option.some.injEq] at hc
    rw [← hc] at hx
    exact comp1_refs ha x hx
   ·simp only [Option.some.injEq] at hc
    rw [← hc] at hx;simp [COp.refs,AOp.refs] at hx
def F1 (vals:T AV) (i:Nat):AV:=match vals.get i with
 | some v=>v
 | none=>.top
def evR (env vals:T AV):Ref → AV
 | .op k=>F1 vals k
 | .slot t=>match env.get t with
  | some v=>v
  | none=>.top
 | .lit v=>v
mutual
def same (A:Ar):AV → AV → Bool
 | .bool a,.bool b=>a == b
 | .int k a,.int k' b=>decide (k=k') && A.eq a b
 | .str a,.str b=>A.seq a b
 | .ptr b o,.ptr b' o'=>Nat.beq b b' && A.eqN o o'
 | .nilptr,.nilptr=>true
 | .sl b o n k e z,.sl b' o' n' k' e' z'=>Nat.beq b b' && A.eqN o o' && A.eqN n n' && A.eqN k k' && (e == e') && Nat.beq z z'
 | .nilsl,.nilsl=>true
 | .map b,.map b'=>Nat.beq b b'
 | .nilmap,.nilmap=>true
 | .yld b,.yld b'=>Nat.beq b b'
 | .fn f xs ys,.fn f' xs' ys'=>decide (f=f') && Ht A xs xs' && Ht A ys ys'
 | .nilfn,.nilfn=>true
 | .ifc t a,.ifc t' b=>Nat.beq t t' && same A a b
 | .nilifc,.nilifc=>true
 | .agg l,.agg m=>Ht A l m
 | .ints k l,.ints k' m=>decide (k=k') && A.ieq l m
 | .tup l,.tup m=>Ht A l m
 | _,_=>false
def Ht (A:Ar):List AV → List AV → Bool
 | [],[]=>true
 | a :: l,b :: m=>same A a b && Ht A l m
 | _,_=>false
end
mutual
theorem Iy:∀ (a b:AV),same std a b=true → a=b
 | .bool a,.bool b,h=>by simp [same] at h;rw [h]
 | .int k a,.int k' b,h=>by simp [same,std] at h;rw [h.1,h.2]
 | .str a,.str b,h=>by simp [same,std] at h;rw [h]
 | .ptr b o,.ptr b' o',h=>by simp [same,std] at h;rw [h.1,h.2]
 | .nilptr,.nilptr,_=>rfl
 | .sl b o n k e z,.sl b' o' n' k' e' z',h=>by
  simp [same,std] at h
  obtain ⟨⟨⟨⟨⟨h1,h2⟩,h3⟩,h4⟩,h5⟩,h6⟩:=h
  rw [h1,h2,h3,h4,h5,h6]
 | .nilsl,.nilsl,_=>rfl
 | .map b,.map b',h=>by simp [same] at h;rw [h]
 | .nilmap,.nilmap,_=>rfl
 | .yld b,.yld b',h=>by simp [same] at h;rw [h]
 | .fn f xs ys,.fn f' xs' ys',h=>by
  simp only [same,Bool.and_eq_true,decide_eq_true_eq] at h
  rw [h.1.1,G0 xs xs' h.1.2,G0 ys ys' h.2]
 | .nilfn,.nilfn,_=>rfl
 | .ifc t a,.ifc t' b,h=>by
  simp only [same,Bool.and_eq_true,Nat.beq_eq] at h
  rw [h.1,Iy a b h.2]
 | .nilifc,.nilifc,_=>rfl
 | .agg l,.agg m,h=>by
  simp only [same] at h
  rw [G0 l m h]
 | .ints k l,.ints k' m,h=>by simp [same,std] at h;rw [h.1,h.2]
 | .tup l,.tup m,h=>by
  simp only [same] at h
  rw [G0 l m h]
 | .top,b,h=>by cases b <;> simp [same] at h
 | .bool _,.top,h=>by simp [same] at h
theorem G0:∀ (a b:List AV),Ht std a b=true → a=b
 | [],[],_=>rfl
 | a :: l,b :: m,h=>by
  simp only [Ht,Bool.and_eq_true] at h
  rw [Iy a b h.1,G0 l m h.2]
 | [],_ :: _,h=>by simp [Ht] at h
 | _ :: _,[],h=>by simp [Ht] at h
end
def Jn (A:Ar) (Γ:Gam) (env:T AV) (all:List (Nat × CRow)) (vals:T AV) (σ:AH):List Nat → Bool
 | []=>true
 | k :: l=>match all.find? fun p=>Nat.beq p.1 k with
  | some q=>match Aw A Γ (evR env vals) σ q.2 with
   | (ok,v,_)=>ok && same A v (F1 vals k) && Jn A Γ env all vals σ l
  | none=>false
theorem rechk_mem {Γ:Gam} {env vals:T AV} {all:List (Nat × CRow)} {σ:AH}:∀ {l:List Nat},Jn std Γ env all vals σ l=true → ∀ k ∈ l,∃ q ∈ all,q.1=k ∧ (Aw std Γ (evR env vals) σ q.2).1=true ∧ (Aw std Γ (evR env vals) σ q.2).2.1=F1 vals k
 | [],_,q,hq=>by cases hq
 | j :: l,h,k,hk=>by
  unfold Jn at h
  cases hf:all.find? fun p=>Nat.beq p.1 j with
  | none=>rw [hf] at h;cases h
  | some q =>
   rw [hf] at h
   simp only [Bool.and_eq_true] at h
   rcases List.mem_cons.1 hk with rfl | hk
   ·have h1:=List.find?_some hf
    exact ⟨q,List.mem_of_find?_eq_some hf,Nat.eq_of_beq_eq_true h1,h.1.1,Iy _ _ h.1.2⟩
   ·exact rechk_mem h.2 k hk
def evD (A:Ar) (Γ:Gam) (env:T AV) (all:List (Nat × CRow)) (rc:Nat → List Nat):List (Nat × CRow) → T AV → AH → Bool × T AV × AH
 | [],vals,σ=>(true,vals,σ)
 | p :: l,vals,σ=>match Aw A Γ (evR env vals) σ p.2 with
  | (ok,v,σ')=>match evD A Γ env all rc l (vals.put p.1 v) σ' with
   | (ok',x)=>(ok && Jn A Γ env all (vals.put p.1 v) σ' (rc p.1) && ok',x)
theorem Fv {A:Ar} {Γ:Gam} {env:T AV} {all:List (Nat × CRow)} {rc:Nat → List Nat} (p:Nat × CRow) (l:List (Nat × CRow)) (vals:T AV) (σ:AH):evD A Γ env all rc (p :: l) vals σ=match Aw A Γ (evR env vals) σ p.2 with
  | (ok,v,σ')=>match evD A Γ env all rc l (vals.put p.1 v) σ' with
   | (ok',x)=>(ok && Jn A Γ env all (vals.put p.1 v) σ' (rc p.1) && ok',x):=rfl
theorem Kb {A:Ar} {Γ:Gam} {env:T AV} {all:List (Nat × CRow)} {rc:Nat → List Nat}:∀ (l m:List (Nat × CRow)) (vals vals':T AV) (σ σ':AH),evD A Γ env all rc l vals σ=(true,vals',σ') → evD A Γ env all rc (l ++ m) vals σ=evD A Γ env all rc m vals' σ'
 | [],m,vals,vals',σ,σ',h=>by cases h;rfl
 | p :: l,m,vals,vals',σ,σ',h=>by
  rw [Fv] at h
  rw [List.cons_append,Fv]
  generalize Aw A Γ (evR env vals) σ p.2=g at h
  obtain ⟨ok,v,σ1⟩:=g
  simp only at h ⊢
  generalize Jn A Γ env all (vals.put p.1 v) σ1 (rc p.1)=k at h
  generalize hr:evD A Γ env all rc l (vals.put p.1 v) σ1=r at h
  obtain ⟨ok',x⟩:=r
  simp only [Prod.mk.injEq,Bool.and_eq_true] at h
  obtain ⟨⟨⟨rfl,rfl⟩,rfl⟩,rfl⟩:=h
  rw [Kb l m _ _ _ _ hr]
  generalize evD A Γ env all rc m vals' σ'=s
  obtain ⟨k,y⟩:=s
  simp
def Ig (ops:Array Oper) (t:Tmp):List Nat → Option Nat
 | []=>none
 | k :: l=>match Ig ops t l with
  | some j=>some j
  | none=>bif Bh ops k == some t then some k else none
theorem lastW_cons (ops:Array Oper) (t:Tmp) (k:Nat) (l:List Nat):Ig ops t (k :: l)=match Ig ops t l with
  | some j=>some j
  | none=>bif Bh ops k == some t then some k else none:=rfl
theorem Md {ops:Array Oper} {t:Tmp}:∀ {l:List Nat} {k:Nat},Ig ops t l=some k → k ∈ l
 | [],_,h=>by cases h
 | j :: l,k,h=>by
  unfold Ig at h
  split at h
  ·rename_i i hi;cases h;exact List.mem_cons_of_mem _ (Md hi)
  ·cases hd:Bh ops j == some t <;> rw [hd] at h <;> cases h
   exact List.mem_cons_self
theorem Kh {ops:Array Oper} {vs:Nat → Value} {t:Tmp}:∀ (l:List Nat) (a:Act),t < a.tmps.size → (Cg ops a vs l).tmps[t]?=match Ig ops t l with
  | some k=>some (vs k)
  | none=>a.tmps[t]?
 | [],a,_=>rfl
 | k :: l,a,h=>by
  show (Cg ops (a.put (Bh ops k) (vs k)) vs l).tmps[t]?=_
  rw [Kh l _ (by rw [Ep];exact h),lastW_cons]
  cases Ig ops t l with
  | some j=>rfl
  | none =>
   simp only
   cases hd:Bh ops k == some t
   ·simp only [cond_false]
    cases hk:Bh ops k with
    | none=>rfl
    | some d =>
     have:d ≠ t:=fun e=>by rw [hk,e] at hd;simp at hd
     simp [Act.put,Array.getElem?_setIfInBounds_ne this]
   ·simp only [cond_true]
    rw [beq_iff_eq.1 hd]
    simp [Act.put,h]
def rfD (G:Nat) (ops:Array Oper) (Bi:List Nat) (o:Oper):Operand → Ref
 | .tmp t=>bif (o.looksAt ops).contains t then (match Ig ops t Bi with | some k=>.op k | none=>.slot t) else .lit .top
 | .const v=>rfS G (.const v)
 | .global g=>rfS G (.global g)
 | .func f=>rfS G (.func f)
theorem rfD_op {G:Nat} {ops:Array Oper} {Bi:List Nat} {o:Oper} {x:Operand} {k:Nat} (h:rfD G ops Bi o x=.op k):k ∈ Bi:=by
 cases x with
 | tmp t =>
  simp only [rfD] at h
  cases hc:(o.looksAt ops).contains t <;> rw [hc] at h
  ·cases h
  ·simp only [cond_true] at h
   cases hl:Ig ops t Bi with
   | none=>rw [hl] at h;cases h
   | some j=>rw [hl] at h;cases h;exact Md hl
 | const v=>cases h
 | global g=>cases h
 | func f=>cases h
def Ej (P:Program) (nt G:Nat) (ops:Array Oper) (B:List (List Nat)):List Nat → Option (List (Nat × CRow))
 | []=>some []
 | i :: l=>match ops[i]? with
  | none=>none
  | some o=>match Jm P nt (rfD G ops (B.getD i []) o) ops o with
   | none=>none
   | some r=>match Ej P nt G ops B l with
    | none=>none
    | some rs=>some ((i,r) :: rs)
theorem Ci {P:Program} {nt G:Nat} {ops:Array Oper} {B:List (List Nat)}:∀ {l:List Nat} {st:List (Nat × CRow)},Ej P nt G ops B l=some st →
  st.map (·.1)=l ∧ ∀ p ∈ st,∃ o,ops[p.1]?=some o ∧ Jm P nt (rfD G ops (B.getD p.1 []) o) ops o=some p.2
 | [],st,h=>by cases h;exact ⟨rfl,fun p hp=>by cases hp⟩
 | i :: l,st,h=>by
  unfold Ej at h
  split at h
  ·cases h
  ·rename_i o ho
   split at h
   ·cases h
   ·rename_i r hr
    split at h
    ·cases h
    ·rename_i rs hrs
     cases h
     obtain ⟨h1,h2⟩:=Ci hrs
     refine ⟨by simp [h1],fun p hp=>?_⟩
     rcases List.mem_cons.1 hp with rfl | hp
     ·exact ⟨o,ho,hr⟩
     ·exact h2 p hp
def Js (l:List (Nat × CRow)) (k:Nat):Bool:=l.any fun p=>p.1 == k
theorem hasId_iff {l:List (Nat × CRow)} {k:Nat}:Js l k=true ↔ ∃ r,(k,r) ∈ l:=by
 unfold Js
 rw [List.any_eq_true]
 constructor
 ·rintro ⟨p,hp,hk⟩;rw [beq_iff_eq] at hk;subst hk;exact ⟨p.2,hp⟩
 ·rintro ⟨r,hr⟩;exact ⟨(k,r),hr,by simp⟩
def Gq (pu:FuncId → Bool) (B:List (List Nat)) (rc:Nat → List Nat) (done:List (Nat × CRow)):List (Nat × CRow) → Bool
 | []=>true
 | p :: l=>(B.getD p.1 []).all (Js done) && !Js done p.1 && done.all (fun q=>!(kd pu q.2 == .S) || (B.getD p.1 []).contains q.1) &&
   (!(kd pu p.2 == .S) || done.all fun q=>!(kd pu q.2 == .L) || (B.getD p.1 []).contains q.1 || (rc p.1).contains q.1) && Gq pu B rc (done ++ [p]) l
theorem M2 {pu:FuncId → Bool} {B:List (List Nat)} {rc:Nat → List Nat}:∀ (l done:List (Nat × CRow)),Gq pu B rc done l=true → ∀ mid p rest,l=mid ++ p :: rest →
  (∀ k ∈ B.getD p.1 [],∃ r,(k,r) ∈ done ++ mid) ∧ (∀ q ∈ done ++ mid,q.1 ≠ p.1) ∧ (∀ q ∈ done ++ mid,kd pu q.2=.S → q.1 ∈ B.getD p.1 []) ∧ (kd pu p.2=.S → ∀ q ∈ done ++ mid,kd pu q.2=.L → q.1 ∈ B.getD p.1 [] ∨ q.1 ∈ rc p.1)
 | [],done,_,mid,p,rest,e=>by cases mid <;> cases e
 | x :: l,done,h,[],p,rest,e=>by
  cases e
  simp only [Gq,Bool.and_eq_true,List.all_eq_true,Bool.not_eq_true',Bool.or_eq_true,beq_eq_false_iff_ne,List.contains_iff_mem] at h
  obtain ⟨⟨⟨⟨h1,h2⟩,h3⟩,h4⟩,_⟩:=h
  rw [List.append_nil]
  refine ⟨fun k hk=>hasId_iff.1 (h1 k hk),fun q hq e=>?_,fun q hq hs=>(h3 q hq).resolve_left (fun hn=>hn hs),fun hp q hq hl=>?_⟩
  ·have:Js done x.1=true:=hasId_iff.2 ⟨q.2,by rw [← e];exact hq⟩
   rw [this] at h2;cases h2
  ·rcases (h4.resolve_left (fun hn=>hn hp)) q hq with (h | h) | h
   ·exact absurd hl h
   ·exact .inl h
   ·exact .inr h
 | x :: l,done,h,y :: mid,p,rest,e=>by
  simp only [List.cons_append,List.cons.injEq] at e
  obtain ⟨rfl,rfl⟩:=e
  unfold Gq at h
  rw [Bool.and_eq_true] at h
  have:=M2 _ _ h.2 mid p rest rfl
  rwa [List.append_assoc,List.singleton_append] at this
end
end Go.Proofs.YtfdfdagbeeeomaaDoor.V2
namespace Go.Proofs.YtfdfdagbeeeomaaDoor.V2
open Go
noncomputable section
theorem HR.fill {ρ:Ren} {σ:AH} {W:World} (h:HR ρ σ W) {b:Nat} {o:AObj} {x:Obj} {s:Nat} (hn:ρ b=none) (hlt:b < σ.next) (hg:σ.get b=some o) (hO:OR ρ (0,s) o (some x)) :
  ∃ ρ',ρ' b=some (W.heap.size,(0,s)) ∧ (∀ m,m ≠ b → ρ' m=ρ m) ∧ Sub ρ ρ' ∧ HR ρ' σ { W with heap:=W.heap.push x }:=by
 have hsub:Sub ρ (fun m=>if m=b then some (W.heap.size,(0,s)) else ρ m):=fun m y hy=>by
  have hne:m ≠ b:=by rintro rfl;rw [hn] at hy;cases hy
  simp only [if_neg hne];exact hy
 refine ⟨fun m=>if m=b then some (W.heap.size,(0,s)) else ρ m,if_pos rfl,fun m hm=>if_neg hm,hsub,⟨h.small,h.none_,fun m c d hc=>?_,fun m m' c d d' h1 h2 hne=>?_⟩⟩
 ·by_cases hm:m=b
  ·subst hm
   simp only [if_true,Option.some.injEq,Prod.mk.injEq] at hc
   obtain ⟨rfl,rfl⟩:=hc
   refine ⟨hlt,by simp,o,hg,?_⟩
   have:(W.heap.push x)[W.heap.size]?=some x:=by simp
   rw [this]
   exact hO.mono hsub
  ·simp only [if_neg hm] at hc
   obtain ⟨h1,h2,o2,h3,h4⟩:=h.dom m c d hc
   refine ⟨h1,by simp;omega,o2,h3,?_⟩
   have:(W.heap.push x)[c]?=W.heap[c]?:=by rw [Array.getElem?_push,if_neg (by omega)]
   rw [this]
   exact h4.mono hsub
 ·by_cases e1:m=b
  ·subst e1
   simp only [if_true,Option.some.injEq,Prod.mk.injEq] at h1
   obtain ⟨rfl,rfl⟩:=h1
   simp only [if_neg (Ne.symm hne)] at h2
   have:=(h.dom _ _ _ h2).2.1
   omega
  ·by_cases e2:m'=b
   ·subst e2
    simp only [if_true,Option.some.injEq,Prod.mk.injEq] at h2
    obtain ⟨rfl,rfl⟩:=h2
    simp only [if_neg e1] at h1
    have:=(h.dom _ _ _ h1).2.1
    omega
   ·simp only [if_neg e1,if_neg e2] at h1 h2
    exact h.inj m m' c d d' h1 h2 hne
theorem AH.get_new {σ:AH} {o:AObj} (h:σ.next < 1048576) (m:Nat):(σ.new o).get m=if m=σ.next then some o else σ.get m:=T.get_put _ _ _ _ h
theorem Gy {vals:T AV} {i:Nat} {v:AV} (h:i < 1048576) (j:Nat):F1 (vals.put i v) j=if j=i then v else F1 vals j:=by
 unfold F1
 rw [T.get_put _ _ _ _ h]
 by_cases hj:j=i
 ·rw [if_pos hj,if_pos hj]
 ·rw [if_neg hj,if_neg hj]
section
variable (P:Program) (Γ:Gam) (pu:FuncId → Bool) (ops:Array Oper) (steps:List (Nat × CRow)) (env:T AV) (ρ0:Ren) (σ0:AH) (W0:World) (a0:Act) (rc:Nat → List Nat) (bl:Nat → Nat)
structure Pend (vals:T AV) (σ:AH) (ρ:Ren) (p:Nat × CRow):Prop where
 val:kd pu p.2=.P ∨ kd pu p.2=.L → (Aw std Γ (evR env vals) σ p.2).1=true ∧ (Aw std Γ (evR env vals) σ p.2).2.1=F1 vals p.1 ∧ (Aw std Γ (evR env vals) σ p.2).2.2=σ
 new:kd pu p.2=.A → ∃ σ',F1 vals p.1=Ls std (evR env vals) p.2 (bl p.1) ∧ σ0.next ≤ bl p.1 ∧ bl p.1 < σ.next ∧ ρ (bl p.1)=none ∧ σ.get (bl p.1)=some (J8 std (evR env vals) p.2) ∧ (Aw std Γ (evR env vals) σ' p.2).1=true
structure DSt (listed:Array Bool) (a:Act) (W:World) (done rest:List (Nat × CRow)) (vals:T AV) (σ:AH) (ρ:Ren) (vs:Nat → Value):Prop where
 split:steps=done ++ rest
 barS:∀ p ∈ done,kd pu p.2=.S → lst listed p.1=true
 only:∀ i,lst listed i=true → ∃ r,(i,r) ∈ done
 eval:evD std Γ env steps rc done .leaf σ0=(true,vals,σ)
 ok:(evD std Γ env steps rc rest vals σ).1=true
 hr:HR ρ σ W
 stp:Stp σ0.next ρ0 σ0 W0 ρ σ W
 vals_:∀ i,lst listed i=true → VR ρ (F1 vals i) (vs i)
 act:a=Cg ops a0 vs ((List.range ops.size).filter (lst listed))
 pend:∀ p ∈ done,lst listed p.1=false → Pend Γ pu env σ0 bl vals σ ρ p
 apart:∀ p ∈ done,∀ q ∈ done,kd pu p.2=.A → kd pu q.2=.A → p.1 ≠ q.1 → lst listed p.1=false → lst listed q.1=false → bl p.1 ≠ bl q.1
end
section
variable {P:Program} {Γ:Gam} {pu:FuncId → Bool} {ops:Array Oper} {steps:List (Nat × CRow)} {env:T AV} {ρ0:Ren} {σ0:AH} {W0:World} {a0:Act}
variable {nt G:Nat} {B:List (List Nat)} {order:List Nat} {rc:Nat → List Nat}
theorem nstep_tail (x:NOp) (args:List AV):(Bt std x args).2.2.tail=true → (Bt std x args).1=false:=by
 unfold Bt
 split
 ·intro h;rw [show (AObj.of (args.flatMap AV.cells) _ .exact).tail=false from (AObj.of_spec _ _ _).2.2.2.1] at h;cases h
 ·split
  ·intro h;cases h
  ·intro _;rfl
 ·split
  ·intro h
   exfalso
   simp only [C8] at h
   split at h
   ·rename_i z
    cases hz:std.eq z 0 <;> rw [hz] at h <;> cases h
   ·cases h
  ·intro _;rfl
 ·split
  ·intro h;cases h
  ·intro h;cases h
  ·intro _;rfl
theorem objA_tail {pu:FuncId → Bool} {ev:Ref → AV} {r:CRow} {Γ:Gam} {σ:AH} (hok:(Aw std Γ ev σ r).1=true) (h:kd pu r=.A):(J8 std ev r).tail=false:=by
 unfold kd at h
 unfold J8
 split at h
 ·rename_i a ha
  split at h
  ·rename_i hk
   rw [ha]
   cases a <;> simp only [kdA,reduceCtorEq] at hk
   ·exact (AObj.of_spec _ _ _).2.2.2.1
   ·exact boxO_tail
   ·rename_i x args
    split at h
    ·rename_i hg
     unfold Aw at hok
     rw [hg] at hok
     simp only [ha,Cc,step,Bool.and_eq_true] at hok
     cases ht:(Bt std x (args.map ev)).2.2.tail with
     | false=>rfl
     | true=>rw [nstep_tail _ _ ht] at hok;cases hok.1
    ·cases h
  ·rename_i hk;exact absurd h hk
 ·rename_i f args hf
  split at h
  ·rename_i g;cases hg:pu g <;> rw [hg] at h <;> cases h
  ·cases h
 ·cases h
theorem refs_B (hst:Ej P nt G ops B order=some steps) {p:Nat × CRow} (hp:p ∈ steps) {k:Nat} (hk:Ref.op k ∈ p.2.refs):k ∈ B.getD p.1 []:=by
 obtain ⟨o,_,hrow⟩:=(Ci hst).2 p hp
 obtain ⟨y,hy⟩:=rowOf_refs hrow _ hk
 exact rfD_op hy.symm
theorem evR_agree {vals:T AV} {i:Nat} {v:AV} (hi:i < 1048576) {r:CRow} (h:Ref.op i ∉ r.refs):∀ x ∈ r.refs,evR env (vals.put i v) x=evR env vals x:=fun x hx=>by
 cases x with
 | op k =>
  have:k ≠ i:=by rintro rfl;exact h hx
  simp only [evR,Gy hi,if_neg this]
 | slot t=>rfl
 | lit v=>rfl
theorem Fl (hord:Gq pu B rc [] steps=true) {done rest:List (Nat × CRow)} {p:Nat × CRow} (hs:steps=done ++ p :: rest) :
  (∀ k ∈ B.getD p.1 [],∃ r,(k,r) ∈ done) ∧ (∀ q ∈ done,q.1 ≠ p.1) ∧ (∀ q ∈ done,kd pu q.2=.S → q.1 ∈ B.getD p.1 []) ∧ (kd pu p.2=.S → ∀ q ∈ done,kd pu q.2=.L → q.1 ∈ B.getD p.1 [] ∨ q.1 ∈ rc p.1):=by
 have:=M2 steps [] hord done p rest hs
 simpa using this
theorem done_refs (hst:Ej P nt G ops B order=some steps) (hord:Gq pu B rc [] steps=true) {done rest:List (Nat × CRow)} {p:Nat × CRow} (hs:steps=done ++ p :: rest) {q:Nat × CRow} (hq:q ∈ done ++ [p]):Ref.op p.1 ∉ q.2.refs:=by
 intro hmem
 obtain ⟨h1,h2,_,_⟩:=Fl hord hs
 rcases List.mem_append.1 hq with hq | hq
 ·have hqs:q ∈ steps:=by rw [hs];exact List.mem_append_left _ hq
  have hk:=refs_B hst hqs hmem
  obtain ⟨l1,l2,e⟩:=List.append_of_mem hq
  have hs':steps=l1 ++ q :: (l2 ++ p :: rest):=by rw [hs,e];simp
  obtain ⟨r,hr⟩:=(Fl hord hs').1 _ hk
  exact h2 (p.1,r) (by rw [e];exact List.mem_append_left _ hr) rfl
 ·rw [List.mem_singleton] at hq
  subst hq
  have hk:=refs_B hst (by rw [hs];simp) hmem
  obtain ⟨r,hr⟩:=h1 _ hk
  exact h2 _ hr rfl
theorem id_small (hst:Ej P nt G ops B order=some steps) (hsm:ops.size ≤ 1000000) {p:Nat × CRow} (hp:p ∈ steps):p.1 < ops.size ∧ p.1 < 1048576:=by
 obtain ⟨o,ho,_⟩:=(Ci hst).2 p hp
 have:=(Array.getElem?_eq_some_iff.1 ho).1
 exact ⟨this,by omega⟩
theorem lit_evR (vals:T AV) (v:AV):evR env vals (.lit v)=v:=rfl
theorem seg (hpu:Jh Γ pu) (hst:Ej P nt G ops B order=some steps) (hord:Gq pu B rc [] steps=true) (hsm:ops.size ≤ 1000000) {listed:Array Bool} {a:Act} {W:World} {ρ:Ren} {vs:Nat → Value} :
  ∀ (rest done:List (Nat × CRow)) (vals:T AV) (σ:AH) (bl:Nat → Nat),DSt Γ pu ops steps env ρ0 σ0 W0 a0 rc bl listed a W done rest vals σ ρ vs →
  ∃ done' rest' vals' σ' bl',DSt Γ pu ops steps env ρ0 σ0 W0 a0 rc bl' listed a W done' rest' vals' σ' ρ vs ∧ ∀ p,rest'.head?=some p → kd pu p.2=.S:=by
 intro rest
 induction rest with
 | nil=>intro done vals σ bl h;exact ⟨done,[],vals,σ,bl,h,fun p hp=>by cases hp⟩
 | cons p rest ih =>
  intro done vals σ bl h
  by_cases hS:kd pu p.2=.S
  ·exact ⟨done,p :: rest,vals,σ,bl,h,fun q hq=>by simp at hq;rw [← hq];exact hS⟩
  obtain ⟨hB,hdis,hbar,_⟩:=Fl hord h.split
  have hps:p ∈ steps:=by rw [h.split];simp
  have hi:=(id_small hst hsm hps).2
  have hun:lst listed p.1=false:=by
   cases hl:lst listed p.1 with
   | false=>rfl
   | true=>obtain ⟨r,hr⟩:=h.only _ hl;exact absurd rfl (hdis (p.1,r) hr)
  have hok:=h.ok
  rw [Fv] at hok
  generalize hg:Aw std Γ (evR env vals) σ p.2=g at hok
  obtain ⟨ok,v,σ1⟩:=g
  simp only at hok
  generalize hrk:Jn std Γ env steps (vals.put p.1 v) σ1 (rc p.1)=rk at hok
  generalize hrest:evD std Γ env steps rc rest (vals.put p.1 v) σ1=rr at hok
  obtain ⟨ok',x⟩:=rr
  simp only [Bool.and_eq_true] at hok
  obtain ⟨⟨rfl,rfl⟩,rfl⟩:=hok
  have hgok:(Aw std Γ (evR env vals) σ p.2).1=true:=by rw [hg]
  have hs0:=h.stp.next
  have hsmall:=h.hr.small
  have hmem:(σ1=σ ∨ (kd pu p.2=.A ∧ σ1=σ.new (J8 std (evR env vals) p.2) ∧ v=Ls std (evR env vals) p.2 σ.next ∧ σ.next < 1000000)) ∧ (kd pu p.2 ≠ .A → σ1=σ):=by
   cases hk:kd pu p.2 with
   | S=>exact absurd hk hS
   | P =>
    have:=kd_P (A:=std) hpu (fun v=>lit_evR (env:=env) vals v) hk σ σ
    rw [hg] at this
    simp only [Prod.mk.injEq] at this
    exact ⟨.inl this.2.2,fun _=>this.2.2⟩
   | L =>
    have:=(kd_L (Γ:=Γ) hk (σ:=σ) (σ':=σ) (fun _ _ h=>h) hgok).2
    rw [hg] at this
    exact ⟨.inl this,fun _=>this⟩
   | A =>
    obtain ⟨h1,h2⟩:=kd_A (Γ:=Γ) (A:=std) hk σ hgok
    rw [hg] at h1
    simp only [Prod.mk.injEq] at h1
    rw [Nat.blt_eq] at h2
    exact ⟨.inr ⟨rfl,h1.2.2,h1.2.1,h2⟩,fun h=>absurd rfl h⟩
  have hnx:σ.next ≤ σ1.next:=by
   rcases hmem.1 with rfl | ⟨_,rfl,_⟩
   ·exact Nat.le_refl _
   ·exact Nat.le_succ _
  have hget:∀ b,b < σ.next → σ1.get b=σ.get b:=fun b hb=>by
   rcases hmem.1 with rfl | ⟨_,rfl,_⟩
   ·rfl
   ·rw [AH.get_new (by omega),if_neg (by omega)]
  have hget':∀ b o,σ.get b=some o → σ1.get b=some o:=fun b o hb=>by
   rw [hget b (Nat.lt_of_not_le fun hle=>by rw [h.hr.none_ b hle] at hb;cases hb)];exact hb
  have hr1:HR ρ σ1 W:=h.hr.more (by
    rcases hmem.1 with rfl | ⟨_,rfl,_,hlt⟩
    ·exact hsmall
    ·show σ.next + 1 ≤ _;omega) (fun b hb=>by
    rcases hmem.1 with rfl | ⟨_,rfl,_⟩
    ·exact h.hr.none_ b hb
    ·have hb:σ.next + 1 ≤ b:=hb
     rw [AH.get_new (by omega),if_neg (by omega)];exact h.hr.none_ b (by omega)) hnx hget
  have hagree:∀ q ∈ done ++ [p],∀ x ∈ q.2.refs,evR env (vals.put p.1 v) x=evR env vals x:=fun q hq=>evR_agree hi (done_refs hst hord h.split hq)
  have hval:∀ j,j ≠ p.1 → F1 (vals.put p.1 v) j=F1 vals j:=fun j hj=>by rw [Gy hi,if_neg hj]
  refine ih (done ++ [p]) (vals.put p.1 v) σ1 (fun j=>if j=p.1 then σ.next else bl j) ⟨by rw [h.split];simp,fun q hq hk=>?_,fun j hj=>?_,?_,by rw [hrest],hr1,?_,fun j hj=>?_,h.act,fun q hq hl=>?_,fun q hq q' hq' hk hk' hne hl hl'=>?_⟩
  ·rcases List.mem_append.1 hq with hq | hq
   ·exact h.barS q hq hk
   ·rw [List.mem_singleton] at hq;subst hq;exact absurd hk hS
  ·obtain ⟨r,hr⟩:=h.only j hj;exact ⟨r,List.mem_append_left _ hr⟩
  ·rw [Kb _ _ _ _ _ _ h.eval,Fv,hg];simp only [hrk];rfl
  ·exact ⟨h.stp.ext,h.stp.img,Nat.le_trans hs0 hnx,fun b ob hb hn ho ht=>(hget b (by omega)).trans (h.stp.keep b ob hb hn ho ht),h.stp.frame,h.stp.tape,h.stp.os,h.stp.output,h.stp.size,fun b c d ob hb hρ hc ho hr=>let ⟨e1,e2⟩:=h.stp.ro b c d ob hb hρ hc ho hr;⟨(hget b (by omega)).trans e1,e2⟩⟩
  ·have hne:j ≠ p.1:=by rintro rfl;rw [hun] at hj;cases hj
   rw [hval j hne];exact h.vals_ j hj
  ·have hag:=hagree q hq
   rcases List.mem_append.1 hq with hqd | hqp
   ·have hne:q.1 ≠ p.1:=hdis q hqd
    have hp0:=h.pend q hqd hl
    refine ⟨fun hk=>?_,fun hk=>?_⟩
    ·obtain ⟨e1,e2,e3⟩:=hp0.val hk
     rw [Dy hag,hval _ hne]
     rcases hk with hk | hk
     ·rw [kd_P (A:=std) hpu (fun v=>lit_evR (env:=env) vals v) hk σ1 σ];exact ⟨e1,e2,rfl⟩
     ·rw [(kd_L (Γ:=Γ) hk hget' e1).1];exact ⟨rfl,e2,rfl⟩
    ·obtain ⟨σ',e1,e2,e3,e4,e5,e6⟩:=hp0.new hk
     rw [hval _ hne,J7 hag,J0 hag,if_neg hne]
     exact ⟨σ',e1,e2,by omega,e4,by rw [hget _ e3];exact e5,by rw [Dy hag];exact e6⟩
   ·rw [List.mem_singleton] at hqp
    subst hqp
    refine ⟨fun hk=>?_,fun hk=>?_⟩
    ·have e:=hmem.2 (by rcases hk with hk | hk <;> rw [hk] <;> simp)
     subst e
     rw [Dy hag,hg,Gy hi,if_pos rfl]
     exact ⟨rfl,rfl,rfl⟩
    ·rcases hmem.1 with e | ⟨_,e,ev,hlt⟩
     ·exfalso
      obtain ⟨h1,_⟩:=kd_A (Γ:=Γ) (A:=std) hk σ hgok
      rw [hg] at h1
      simp only [Prod.mk.injEq] at h1
      have:σ1.next=σ.next + 1:=by rw [h1.2.2];rfl
      rw [e] at this;omega
     ·subst e;subst ev
      rw [Gy hi,if_pos rfl,J7 hag,J0 hag,if_pos rfl]
      refine ⟨σ,rfl,hs0,Nat.lt_succ_self _,?_,by rw [AH.get_new (by omega),if_pos rfl],by rw [Dy hag];exact hgok⟩
      cases hc:ρ σ.next with
      | none=>rfl
      | some c=>have:=(h.hr.dom _ c.1 c.2 hc).1;omega
  ·have hcase:∀ q ∈ done ++ [p],kd pu q.2=.A → lst listed q.1=false → (q ∈ done ∧ (if q.1=p.1 then σ.next else bl q.1)=bl q.1 ∧ bl q.1 < σ.next) ∨ (q=p ∧ (if q.1=p.1 then σ.next else bl q.1)=σ.next):=fun q hq hk hl=>by
    rcases List.mem_append.1 hq with hqd | hqp
    ·obtain ⟨_,_,_,e3,_⟩:=(h.pend q hqd hl).new hk
     exact .inl ⟨hqd,if_neg (hdis q hqd),e3⟩
    ·rw [List.mem_singleton] at hqp
     subst hqp
     exact .inr ⟨rfl,if_pos rfl⟩
   rcases hcase q hq hk hl with ⟨hqd,e1,e2⟩ | ⟨rfl,e1⟩ <;> rcases hcase q' hq' hk' hl' with ⟨hqd',e1',e2'⟩ | ⟨rfl,e1'⟩
   ·rw [e1,e1'];exact h.apart q hqd q' hqd' hk hk' hne hl hl'
   ·rw [e1,e1'];omega
   ·rw [e1,e1'];omega
   ·exact absurd rfl hne
end
end
end Go.Proofs.YtfdfdagbeeeomaaDoor.V2
