/- Part 2 of the proof: texts of the proof. -/
import Derived.Test.YtfdfdagbeeeomaaDoorQL1
import Derived.Lib.AppendZerosOnto
import Derived.DeepKeys
import Derived.Laws.BytesString
import Derived.Laws.MakeOwn
namespace Go.Proofs.YtfdfdagbeeeomaaDoor.V2
open Go
noncomputable section
section
variable {P:Program} {W:World} {ρ:Ren} {σ:AH}
theorem E0 {pp:Option Addr} {t tx ty e:TypeId} {i:TypeInfo} {x:Value} (ht:P.underlying t=some (.slice e)) (hi:P.info? e=some i) (hs:Src P i.size tx x 0 [] W) :
  (Builtin.append_ #[t,tx] ty #[.slice pp 0 0,x]).run P W=.ok (.slice pp 0 0) W:=by
 cases pp <;> rcases hs.kind with ⟨e',hk⟩ | hk <;> simp [Builtin.append_,storeCells,run_underlying ht,run_underlying hk,sizeOf,typeInfo,hi,hs.len,hs.cells]
structure SrcB (P:Program) (t tx ty e:TypeId) (i:TypeInfo) (z x:Value) (m:Nat) (news:List Value) (W:World):Prop where
 newsLen:news.length=m * i.size
 nil:∀ pp:Option Addr,m=0 → (Builtin.append_ #[t,tx] ty #[.slice pp 0 0,x]).run P W=.ok (.slice pp 0 0) W
 room:∀ b off sLen sCap,sLen + m ≤ sCap → (∀ j,j < news.length → (W.cell? ⟨b,off + sLen * i.size + j,none⟩).isSome=true) → (∀ j,j < news.length → W.frozen? ⟨b,off + sLen * i.size + j,none⟩=false) →
  (Builtin.append_ #[t,tx] ty #[.slice (some ⟨b,off,none⟩) sLen sCap,x]).run P W=.ok (.slice (some ⟨b,off,none⟩) (sLen + m) sCap) (W.setCells b (off + sLen * i.size) news)
 grow:∀ (base:Option Addr) (sLen sCap:Nat) (olds:List Value),(Builtin.firstCells i.size sLen (.slice base sLen sCap)).run P W.drew=.ok olds.toArray W.drew → m ≠ 0 →
  sCap < sLen + m → ((sLen + m:Nat):Int) ≤ 9223372036854775807 → Builtin.nextslicecap (sLen + m) sCap * i.bytes ≤ 281474976710656 →
  (Builtin.append_ #[t,tx] ty #[.slice base sLen sCap,x]).run P W =
   .ok (.slice (some ⟨W.heap.size,0,none⟩) (sLen + m) (grownCap W (sLen + m) sCap e))
    (W.drew.alloc (.cells ((olds ++ news).toArray ++ Builtin.zeroCells z.cells (grownCap W (sLen + m) sCap e - (sLen + m))) e))
theorem SrcB.of {t tx ty e:TypeId} {i:TypeInfo} {z x:Value} {m:Nat} {news:List Value} (ht:P.underlying t=some (.slice e)) (hi:P.info? e=some i) (hz:i.zero=some z) (hs:Src P i.size tx x m news W):SrcB P t tx ty e i z x m news W :=
 ⟨hs.newsLen,fun pp h=>by
  subst h
  have:news=[]:=by have:=hs.newsLen;rwa [Nat.zero_mul,List.length_eq_zero_iff] at this
  subst this
  exact E0 ht hi hs,fun b off sLen sCap h1 h2 h3=>run_append_room_src (P:=P) W t tx ty e i ht hi b off sLen sCap x m news hs h1 h2 h3,
  fun base sLen sCap olds h1 _ h2 h3 h4=>run_append_grow_src (P:=P) W t tx ty e i z ht hi hz base sLen sCap olds h1 x m news hs h2 h3 h4⟩
theorem Jj (k:IntKind) (m:Nat):Builtin.zeroCells #[.int k 0] m=(List.replicate m (Value.int k 0)).toArray:=by
 apply Array.ext
 ·simp [Builtin.zeroCells]
 ·intro j h1 h2
  simp [Builtin.zeroCells,Nat.mod_one]
theorem SrcB.zeros {t tx ty e:TypeId} {i:TypeInfo} {k kn kq:IntKind} {m:Nat} (ht:P.underlying t=some (.slice e)) (htx:P.underlying tx=some (.int kn)) (hi:P.info? e=some i) (hz:i.zero=some (.int k 0)) (hs1:i.size=1) (hby:i.bytes ≤ 128) (hm:m ≤ 1000000) :
  SrcB P t tx ty e i (.int k 0) (.int kq m) m (List.replicate m (.int k 0)) W:=by
 have hw:IntKind.i64.wrap (m:Int)=m:=by rw [IntKind.wrap_i64];omega
 have hneg:¬ ((m:Int) < 0):=by omega
 have h48:m * i.bytes ≤ 281474976710656:=by
  have:m * i.bytes ≤ 1000000 * 128:=Nat.mul_le_mul hm hby
  omega
 have h48i:¬ (281474976710656 < (m:Int) * (i.bytes:Int)):=by
  rw [← Int.natCast_mul]
  omega
 refine ⟨by simp [hs1],fun pp h=>?_,fun b off sLen sCap h1 h2 h3=>?_,fun base sLen sCap olds h1 hm0 h2 h3 h4=>?_⟩
 ·subst h
  cases pp <;> simp [Builtin.append_,storeCells,run_underlying ht,run_underlying htx,sizeOf,typeInfo,hi,hs1,asInt,asIntOf,hw,IntKind.wrap_i64]
 ·have hst:=run_storeCells_cells (P:=P) b (off + sLen * i.size) (List.replicate m (.int k 0)) 0 W (by simpa using h2) (by simpa using h3) (fun v hv=>by rw [(List.mem_replicate.1 hv).2];rfl)
  simp only [Nat.add_zero] at hst
  by_cases hm0:m=0
  ·subst hm0
   simp only [hs1,Nat.mul_one,List.replicate_zero] at hst ⊢
   simp [Builtin.append_,run_underlying ht,run_underlying htx,sizeOf,typeInfo,hi,hs1,asInt,asIntOf,hw,IntKind.wrap_i64,h1,Addr.add_lit,hst]
   intro h;omega
  ·simp only [hs1,Nat.mul_one] at hst ⊢
   simp [Builtin.append_,run_underlying ht,run_underlying htx,sizeOf,typeInfo,zeroValue,hi,hz,hs1,asInt,asIntOf,hw,hneg,hm0,h48i,h1,Addr.add_lit,Jj,Value.cells,hst]
 ·have:=Lib.run_append_grow_zeros (P:=P) W t tx ty e i (.int k 0) kq kn ht htx hi hz base sLen sCap olds h1 m (by omega) (by omega) h2 h3 h48 h4
  rw [this]
  simp only [Value.cells,Jj]
  congr 3
  apply Array.ext'
  simp
theorem appR_sound (hr:HR ρ σ W) {t tx ty e:TypeId} {i:TypeInfo} {z:Value} (ht:P.underlying t=some (.slice e)) (hi:P.info? e=some i) (_hz:i.zero=some z) (hzs:z.cells.size=i.size) (hby:i.bytes ≤ 128) {q:Bool × Nat × Row}
  {vs vx:Value} {sa:AV} (hvs:VR ρ sa vs) (hX:q.1=true → ∃ news,SrcB P t tx ty e i z vx q.2.1 news W ∧ VRs ρ q.2.2.list news) (hok:(appR std σ e i.size sa q).1=true) :
  ∃ v W' ρ',(Builtin.append_ #[t,tx] ty #[vs,vx]).run P W=.ok v W' ∧ HR ρ' (appR std σ e i.size sa q).2.2 W' ∧ Stp σ.next ρ σ W ρ' (appR std σ e i.size sa q).2.2 W' ∧ VR ρ' (appR std σ e i.size sa q).2.1 v:=by
 simp only [appR] at hok ⊢
 have hS:=fun h=>Ky (P:=P) (size:=i.size) (str:=false) hr hvs h (.inr ⟨rfl,e,ht⟩)
 generalize hrs:Br std false i.size σ sa=rs at hok hS ⊢
 obtain ⟨ok1,n,r1⟩:=rs
 obtain ⟨ok2,m,r2⟩:=q
 have hC:=fun h=>catA_spec (e:=e) (r1:=r1) (r2:=r2) h
 generalize Hp std e r1 r2=cc at hok hC ⊢
 obtain ⟨ok3,ob⟩:=cc
 simp only [Bool.and_eq_true,std,Nat.ble_eq] at hok hC hS hX ⊢
 obtain ⟨⟨⟨⟨⟨⟨o0,o1⟩,o2⟩,o3⟩,o4⟩,o5⟩,o6⟩:=hok
 have hm0:m ≠ 0:=fun h=>by rw [h] at o0;cases o0
 obtain ⟨olds,s1,s2,s3⟩:=hS o1
 obtain ⟨news,x1,x2⟩:=hX o2
 obtain ⟨c1,c2,c3,c4,c5⟩:=hC o3
 have hcells:=s2.append x2
 have hol:=s1.newsLen
 have hnl:=x1.newsLen
 have hlen:(olds ++ news).length=(n + m) * i.size:=by rw [List.length_append,hol,hnl,Nat.add_mul]
 have hobl:ob.len=(n + m) * i.size:=by rw [c2,← hcells.length,hlen]
 have hbytes:(n + m) * i.bytes ≤ 140737488355328:=by
  have:(n + m) * i.bytes ≤ 1000000000000 * 128:=Nat.mul_le_mul o5 hby
  omega
 have hORof:∀ {ρ2:Ren} (d:Nat × Nat) (cs:Array Value) (fr:Nat × Nat),Sub ρ ρ2 → Free cs fr → (n + m) * i.size + d.1 ≤ cs.size → cs.size=d.2 → (∀ j,j < (n + m) * i.size → cs[j + d.1]?=(olds ++ news)[j]?) → OR ρ2 d ob (some (.cells cs e fr)):=by
  intro ρ2 d cs fr hsub hfr h1 h2 h3
  refine OR.mk' c1 ?_
  refine ⟨cs,e,fr,rfl,fun _=>⟨c3.symm,hfr,h2⟩,by rw [hobl];exact h1,by rw [hobl,← h2];exact h1,fun j a hj=>?_⟩
  rw [c5] at hj
  obtain ⟨v,hv,hvr⟩:=hcells.at j a hj
  have hjl:=(List.getElem?_eq_some_iff.1 hv).1
  exact ⟨v,by rw [h3 j (by omega)];exact hv,hvr.mono hsub⟩
 have hgrow:∀ (base:Option Addr) (cap:Nat) (σ1:AH),vs=.slice base n cap → cap < n + m → HR ρ σ1 W → Stp σ.next ρ σ W ρ σ1 W → σ1.next=σ.next →
   ∃ v W' ρ',(Builtin.append_ #[t,tx] ty #[vs,vx]).run P W=.ok v W' ∧ HR ρ' (σ1.new ob) W' ∧ Stp σ.next ρ σ W ρ' (σ1.new ob) W' ∧ VR ρ' (.sl σ.next 0 (n + m) (n + m) false i.size) v:=by
  intro base cap σ1 hv hg hr1 hst hnx
  subst hv
  have hge:=grownCap_ge W (n + m) cap e
  have hrun:=x1.grow base n cap olds s1.cellsD hm0 hg (by omega) (growslice_fits hg hbytes)
  obtain ⟨ρ',f1,f2,f3,f4⟩:=(hr1.drew (W.drawn + 1)).new (o:=ob) (x:=.cells ((olds ++ news).toArray ++ Builtin.zeroCells z.cells (grownCap W (n + m) cap e - (n + m))) e)
   (s:=((olds ++ news).toArray ++ Builtin.zeroCells z.cells (grownCap W (n + m) cap e - (n + m))).size) (by rw [hnx];exact o6)
   (hORof (0,_) _ (0,0) (fun _ _ h=>h) (.inl rfl) (by rw [Array.size_append,List.size_toArray,hlen];show _ + 0 ≤ _;omega) rfl (fun j hj=>by
    show _[j + 0]?=_
    rw [Nat.add_zero,Array.getElem?_append_left (by rw [List.size_toArray,hlen];exact hj)];simp))
  refine ⟨_,_,ρ',hrun,f3,(hst.trans f4.drew (by rw [hnx];exact Nat.le_refl _)),?_⟩
  rw [hnx] at f1
  unfold VR
  refine .inl ⟨_,_,0,grownCap W (n + m) cap e,f1,rfl,fun _=>rfl,Nat.le_refl _,hge,fun h=>(by cases h),?_⟩
  show 0 + _ ≤ Array.size _
  rw [Array.size_append,List.size_toArray,hlen,size_zeroCells,hzs,← Nat.add_mul,Nat.add_sub_cancel' hge,Nat.zero_add]
  exact Nat.le_refl _
 have hnilAny:∀ (pp:Option Addr) (σ1:AH),vs=.slice pp 0 0 → n=0 → HR ρ σ1 W → Stp σ.next ρ σ W ρ σ1 W → σ1.next=σ.next →
   ∃ v W' ρ',(Builtin.append_ #[t,tx] ty #[vs,vx]).run P W=.ok v W' ∧ HR ρ' (σ1.new ob) W' ∧ Stp σ.next ρ σ W ρ' (σ1.new ob) W' ∧ VR ρ' (.sl σ.next 0 (n + m) (n + m) false i.size) v:=by
  intro pp σ1 hv hn hr1 hst hnx
  exact hgrow pp 0 σ1 (by rw [hv,hn]) (by omega) hr1 hst hnx
 cases sa
 case nilsl =>
  unfold VR at hvs
  have hn:n=0:=by simp only [Br,Prod.mk.injEq] at hrs;exact hrs.2.1.symm
  exact hnilAny none σ hvs hn hr (Stp.refl (Nat.le_refl _)) rfl
 case sl b o n' k ex zz =>
  simp only [Hr] at o4
  cases hob:σ.get b with
  | none=>rw [hob] at o4;cases o4
  | some ob0 =>
   rw [hob] at o4
   simp only [Bool.and_eq_true] at o4
   obtain ⟨p1,p3⟩:=o4
   have hn:n=n':=by
    simp only [Br,hob] at hrs
    cases ob0 with
    | dead=>cases p1
    | map l=>cases p1
    | hid=>cases p1
    | cells l e2 t2=>simp only [Prod.mk.injEq] at hrs;exact hrs.2.1.symm
    | ints ik l e2 t2=>simp only [Prod.mk.injEq] at hrs;exact hrs.2.1.symm
   subst hn
   rcases vr_sl hvs with ⟨c,d,o',k',hb,hv,ho,hnk,hkk,hex,hlim⟩ | ⟨hn0,_,hx,hpx,pp,hv⟩
   ·have hkill:=hr.killt hob (.inr ⟨_,hb⟩)
    have hnr:ex=false ∨ std.ltN k (n + m)=false → ob0.isRo=false:=fun h=>by
     rw [Bool.or_eq_true,Bool.and_eq_true,Bool.and_eq_true] at p3
     rcases p3 with ⟨_,h'⟩ | ⟨h1,h2⟩
     ·simpa using h'
     ·rcases h with h | h
      ·rw [h] at h1;cases h1
      ·have h2:std.ltN k (n + m)=true:=h2
       rw [h] at h2;cases h2
    by_cases hroom:n + m ≤ k'
    ·-- in place
     have hnk2:Hv std σ (n + m) (.sl b o n k ex zz)=σ.put b .dead:=by
      cases ex
      ·rfl
      ·simp only [Hv]
       have:std.ltN k (n + m)=false:=by
        show Nat.blt k (n + m)=false
        rw [Bool.eq_false_iff];intro h;rw [Nat.blt_eq] at h
        have:=hex rfl;omega
       rw [this];rfl
     have hel:ob0.elem=e ∧ ob0.isRo=false:=by
      rw [Bool.or_eq_true,Bool.and_eq_true,Bool.and_eq_true] at p3
      rcases p3 with ⟨h,h'⟩ | ⟨h1,h2⟩
      ·exact ⟨Nat.eq_of_beq_eq_true h,by simpa using h'⟩
      ·have h2:Nat.blt k (n + m)=true:=h2
       rw [Nat.blt_eq] at h2
       have:=hex h1;omega
     show ∃ v W' ρ',_ ∧ HR ρ' ((Hv std σ (n + m) (.sl b o n k ex zz)).new ob) W' ∧ Stp σ.next ρ σ W ρ' ((Hv std σ (n + m) (.sl b o n k ex zz)).new ob) W' ∧ _
     rw [hnk2]
     obtain ⟨_,hcW,ob',hob',hO⟩:=hr.dom b c d hb
     rw [hob] at hob';cases hob'
     obtain ⟨cs,e0,fr,hx,hrw,hlen0,_,_⟩:=(hO.1 p1).2 (fun h=>by rw [hel.2] at h;cases h)
     obtain ⟨rfl,hfr,hcsz⟩:=hrw hel.2
     have hkm:(n + m) * i.size ≤ k' * i.size:=Nat.mul_le_mul_right _ hroom
     have hnm:(n + m) * i.size=n * i.size + m * i.size:=Nat.add_mul _ _ _
     have hzz:zz=i.size:=by
      simp only [Br,hob] at hrs
      cases ob0 with
      | dead=>cases p1
      | map l=>cases p1
      | hid=>cases p1
      | cells l e2 t2 =>
       simp only [Prod.mk.injEq] at hrs
       have:=hrs.1.trans o1
       simp only [Bool.and_eq_true,Nat.beq_eq] at this
       exact this.1.1.2
      | ints ik l e2 t2 =>
       simp only [Prod.mk.injEq] at hrs
       have:=hrs.1.trans o1
       simp only [Bool.and_eq_true,Nat.beq_eq] at this
       exact this.1.2
     subst hzz
     have hcc:∀ j,j < news.length → o' + n * i.size + j < cs.size:=fun j hj=>by omega
     have hrun:=x1.room c o' n k' hroom (fun j hj=>by simp [World.cell?,hx,hcc j hj]) (fun j hj=>by
      have:=hfr.no _ (hcc j hj)
      simp only [World.frozen?,hx]
      rw [Bool.eq_false_iff]
      intro e
      rw [Bool.and_eq_true,decide_eq_true_eq,decide_eq_true_eq] at e
      exact this e)
     obtain ⟨g1,g2,g3,g4⟩:=Gk news W c (o' + n * i.size)
     obtain ⟨q1,q2⟩:=hr.replace (W':=W.setCells c (o' + n * i.size) news) (o':=.dead) hb hob (AObj.alive_of p1) hel.2 OR.dead (fun k hk=>by rw [Dm,if_neg hk]) g4 g1 g2 g3
     have hheap:(W.setCells c (o' + n * i.size) news).heap[c]?=some (.cells (Gj cs (o' + n * i.size) news) e fr):=by rw [Dm,if_pos rfl,hx,← hel.1];rfl
     have hmem:∀ j u,olds[j]?=some u → cs[o' + j]?=some u:=fun j u hu=>by
      rcases s3 trivial with ⟨h1,h2⟩ | ⟨a,c2,h1,h2⟩
      ·rw [hv] at h1;cases h1
      ·rw [hv] at h1
       injection h1 with h1
       injection h1 with h1
       have:=h2 j u hu
       rw [← h1,Dz] at this
       simpa [World.cell?,hx] using this
     have hOR:OR ρ (o',d.2) ob (W.setCells c (o' + n * i.size) news).heap[c]?:=by
      rw [hheap]
      refine hORof (o',d.2) _ fr (fun _ _ h=>h) (by unfold Free;rw [De];exact hfr) (by rw [De];show _ + o' ≤ _;omega) (by rw [De];exact hcsz) fun j hj=>?_
      show (Gj cs (o' + n * i.size) news)[j + o']?=_
      rw [Ku _ _ _ (by omega),List.getElem?_append]
      by_cases hjn:j < olds.length
      ·rw [if_neg (by omega),if_pos hjn,List.getElem?_eq_getElem hjn,Nat.add_comm j o']
       exact hmem j _ (List.getElem?_eq_getElem hjn)
      ·rw [if_pos (by omega),if_neg hjn,show j + o' - (o' + n * i.size)=j - olds.length by omega]
     have hb20:b < 1048576:=by have:=(hr.dom b c d hb).1;have:=hr.small;omega
     obtain ⟨ρ',f1,f2,f3,f4⟩:=q1.rename (c:=c) (d:=(o',d.2)) (o:=ob) o6 (by rw [g4];exact hcW) hOR (fun b' d' hb'=>by
       rw [AH.get_put hb20]
       by_cases hbb:b'=b
       ·rw [if_pos hbb]
       ·rw [if_neg hbb]
        exact (hr.inj b b' c d d' hb hb' (Ne.symm hbb)).left hob (AObj.alive_of p1) hel.2) ⟨b,d,hb⟩
     rw [hv]
     refine ⟨_,_,ρ',hrun,f3,q2.trans f4 (Nat.le_refl _),?_⟩
     unfold VR
     exact .inl ⟨c,(o',d.2),o',k',f1,rfl,fun _=>(Nat.zero_add _).symm,Nat.le_refl _,hroom,fun h=>(by cases h),by show o' + k' * i.size ≤ d.2;exact hlim⟩
    ·have hσ1:∃ σ1,Hv std σ (n + m) (.sl b o n k ex zz)=σ1 ∧ HR ρ σ1 W ∧ Stp σ.next ρ σ W ρ σ1 W ∧ σ1.next=σ.next:=by
      cases ex
      ·have hkill:=hkill (hnr (.inl rfl));exact ⟨_,rfl,hkill.1,hkill.2,rfl⟩
      ·simp only [Hv]
       cases hlt:std.ltN k (n + m)
       ·have hkill:=hkill (hnr (.inr hlt));exact ⟨_,rfl,hkill.1,hkill.2,rfl⟩
       ·exact ⟨_,rfl,hr,Stp.refl (Nat.le_refl _),rfl⟩
     obtain ⟨σ1,e1,e2,e3,e4⟩:=hσ1
     show ∃ v W' ρ',_ ∧ HR ρ' ((Hv std σ (n + m) (.sl b o n k ex zz)).new ob) W' ∧ Stp σ.next ρ σ W ρ' ((Hv std σ (n + m) (.sl b o n k ex zz)).new ob) W' ∧ _
     rw [e1]
     exact hgrow _ k' σ1 hv (by omega) e2 e3 e4
   ·subst hx
    have hkill:=hr.killt hob (.inr hpx) (by
     rw [Bool.or_eq_true,Bool.and_eq_true,Bool.and_eq_true] at p3
     rcases p3 with ⟨_,h'⟩ | ⟨h1,_⟩
     ·simpa using h'
     ·cases h1)
    exact hnilAny (some pp) _ hv hn0 hkill.1 hkill.2 rfl
 all_goals (simp only [Hr] at o4;cases o4)
theorem appN_sound (hr:HR ρ σ W) {t tx ty e:TypeId} {i:TypeInfo} {z:Value} (ht:P.underlying t=some (.slice e)) (hi:P.info? e=some i) (hz:i.zero=some z) (hzs:z.cells.size=i.size) (_hsz:0 < i.size) (hby:i.bytes ≤ 128) {str:Bool} (htx:(str=true ∧ P.underlying tx=some .string) ∨ (str=false ∧ ∃ e',P.underlying tx=some (.slice e')))
  {vs vx:Value} {sa ax:AV} (hvs:VR ρ sa vs) (hvx:VR ρ ax vx) (hok:(appN std σ e str i.size sa ax).1=true) :
  ∃ v W' ρ',(Builtin.append_ #[t,tx] ty #[vs,vx]).run P W=.ok v W' ∧ HR ρ' (appN std σ e str i.size sa ax).2.2 W' ∧ Stp σ.next ρ σ W ρ' (appN std σ e str i.size sa ax).2.2 W' ∧ VR ρ' (appN std σ e str i.size sa ax).2.1 v :=
 appR_sound hr ht hi hz hzs hby hvs (fun h=>by
  obtain ⟨news,x1,x2,_⟩:=Ky (P:=P) (size:=i.size) (str:=str) hr hvx h htx
  exact ⟨news,.of ht hi hz x1,x2⟩) hok
theorem appX_sound (hr:HR ρ σ W) {t tx ty e:TypeId} {i:TypeInfo} {z:Value} (ht:P.underlying t=some (.slice e)) (hi:P.info? e=some i) (hz:i.zero=some z) (hzs:z.cells.size=i.size) (hby:i.bytes ≤ 128) {q:Bool × Nat × Row}
  {vs vx:Value} {sa:AV} (hvs:VR ρ sa vs) (hX:q.1=true → ∃ news,SrcB P t tx ty e i z vx q.2.1 news W ∧ VRs ρ q.2.2.list news) (hok:(appX std σ e i.size sa q).1=true) :
  ∃ v W' ρ',(Builtin.append_ #[t,tx] ty #[vs,vx]).run P W=.ok v W' ∧ HR ρ' (appX std σ e i.size sa q).2.2 W' ∧ Stp σ.next ρ σ W ρ' (appX std σ e i.size sa q).2.2 W' ∧ VR ρ' (appX std σ e i.size sa q).2.1 v:=by
 have hN:=appR_sound (ty:=ty) hr ht hi hz hzs hby hvs hX
 obtain ⟨ok2,m,r2⟩:=q
 simp only [appX] at hok hX hN ⊢
 cases hb:std.eqN m 0 && isSl i.size sa with
 | false=>rw [hb] at hok;exact hN hok
 | true =>
  rw [hb] at hok
  simp only [cond_true] at hok ⊢
  rw [Bool.and_eq_true] at hb
  have hm:m=0:=Nat.eq_of_beq_eq_true hb.1
  subst hm
  obtain ⟨news,x1,_⟩:=hX hok
  have hnl:=x1.newsLen
  rw [Nat.zero_mul,List.length_eq_zero_iff] at hnl
  subst hnl
  have key:∃ w0,vs=w0 ∧ (Builtin.append_ #[t,tx] ty #[w0,vx]).run P W=.ok w0 W:=by
   refine ⟨vs,rfl,?_⟩
   cases sa <;> simp only [isSl] at hb <;> try (cases hb.2;done)
   ·rename_i b o n k ex zz
    rcases vr_sl hvs with ⟨c,d,o',k',_,hv,_,hnk,hkk,_⟩ | ⟨rfl,rfl,_,_,pp,hv⟩
    ·subst hv
     have hrun:=x1.room c o' n k' (by omega) (fun j hj=>absurd hj (Nat.not_lt_zero _)) (fun j hj=>absurd hj (Nat.not_lt_zero _))
     rw [hrun,Nat.add_zero];rfl
    ·subst hv
     exact x1.nil _ rfl
   ·unfold VR at hvs
    subst hvs;exact x1.nil _ rfl
  obtain ⟨_,rfl,hrun⟩:=key
  exact ⟨vs,W,ρ,hrun,hr,Stp.refl (Nat.le_refl _),hvs⟩
theorem appz_sound (hr:HR ρ σ W) {t tx ty e:TypeId} {i:TypeInfo} {k kn:IntKind} (ht:P.underlying t=some (.slice e)) (htx:P.underlying tx=some (.int kn)) (hi:P.info? e=some i) (hz:i.zero=some (.int k 0)) (hs1:i.size=1) (hby:i.bytes ≤ 128)
  {vs vx:Value} {sa ax:AV} (hvs:VR ρ sa vs) (hvx:VR ρ ax vx) (hok:(Bb std σ (.appz e k) [sa,ax]).1=true) :
  ∃ v W' ρ',(Builtin.append_ #[t,tx] ty #[vs,vx]).run P W=.ok v W' ∧ HR ρ' (Bb std σ (.appz e k) [sa,ax]).2.2 W' ∧ Stp σ.next ρ σ W ρ' (Bb std σ (.appz e k) [sa,ax]).2.2 W' ∧ VR ρ' (Bb std σ (.appz e k) [sa,ax]).2.1 v:=by
 cases ax
 case int kq nq =>
  unfold VR at hvx
  subst hvx
  have key:=appX_sound (q:=zrow std k nq) (vx:=.int kq nq) (tx:=tx) (ty:=ty) hr ht hi hz (by rw [hs1];rfl) hby hvs (fun h=>by
   simp only [zrow,std,Bool.and_eq_true,decide_eq_true_eq,Nat.ble_eq] at h ⊢
   obtain ⟨h1,h2⟩:=h
   refine ⟨List.replicate nq.toNat (.int k 0),?_,?_⟩
   ·have:=SrcB.zeros (W:=W) (ty:=ty) (m:=nq.toNat) (kq:=kq) ht htx hi hz hs1 hby h2
    rwa [Int.toNat_of_nonneg h1] at this
   ·have:=VRs.ints (ρ:=ρ) k (List.replicate nq.toNat 0)
    simpa [Row.list] using this)
  rw [hs1] at key
  exact key hok
 all_goals (have h:false=true:=hok;cases h)
theorem append_sound (hr:HR ρ σ W) {t tx ty e:TypeId} {i:TypeInfo} {z:Value} (ht:P.underlying t=some (.slice e)) (hi:P.info? e=some i) (hz:i.zero=some z) (hzs:z.cells.size=i.size) (hsz:0 < i.size) (hby:i.bytes ≤ 128) {str:Bool} (htx:(str=true ∧ P.underlying tx=some .string) ∨ (str=false ∧ ∃ e',P.underlying tx=some (.slice e')))
  {vs vx:Value} {sa ax:AV} (hvs:VR ρ sa vs) (hvx:VR ρ ax vx) (hok:(Bb std σ (.append e str i.size) [sa,ax]).1=true) :
  ∃ v W' ρ',(Builtin.append_ #[t,tx] ty #[vs,vx]).run P W=.ok v W' ∧ HR ρ' (Bb std σ (.append e str i.size) [sa,ax]).2.2 W' ∧ Stp σ.next ρ σ W ρ' (Bb std σ (.append e str i.size) [sa,ax]).2.2 W' ∧ VR ρ' (Bb std σ (.append e str i.size) [sa,ax]).2.1 v:=by
 have hX:=fun h=>Ky (P:=P) (size:=i.size) (str:=str) hr hvx h htx
 have hN:=appN_sound (ty:=ty) hr ht hi hz hzs hsz hby htx hvs hvx
 simp only [Bb] at hok ⊢
 generalize hrx:Br std str i.size σ ax=rx at hok hX ⊢
 obtain ⟨ok2,m,r2⟩:=rx
 simp only at hok hX ⊢
 cases hb:std.eqN m 0 && isSl i.size sa with
 | false=>rw [hb] at hok;exact hN hok
 | true =>
  rw [hb] at hok
  simp only [cond_true] at hok ⊢
  rw [Bool.and_eq_true] at hb
  have hm:m=0:=Nat.eq_of_beq_eq_true hb.1
  subst hm
  obtain ⟨news,x1,_,_⟩:=hX hok
  have hnl:=x1.newsLen
  rw [Nat.zero_mul,List.length_eq_zero_iff] at hnl
  subst hnl
  have key:∃ w0,vs=w0 ∧ (Builtin.append_ #[t,tx] ty #[w0,vx]).run P W=.ok w0 W:=by
   refine ⟨vs,rfl,?_⟩
   cases sa <;> simp only [isSl] at hb <;> try (cases hb.2;done)
   ·rename_i b o n k ex zz
    rcases vr_sl hvs with ⟨c,d,o',k',_,hv,_,hnk,hkk,_⟩ | ⟨rfl,rfl,_,_,pp,hv⟩
    ·subst hv
     have hrun:=run_append_room_src (P:=P) W t tx ty e i ht hi c o' n k' vx 0 [] x1 (by omega) (fun j hj=>absurd hj (Nat.not_lt_zero _)) (fun j hj=>absurd hj (Nat.not_lt_zero _))
     rw [hrun,Nat.add_zero];rfl
    ·subst hv
     rcases x1.kind with ⟨e',hk⟩ | hk <;> simp [Builtin.append_,run_underlying ht,run_underlying hk,sizeOf,typeInfo,hi,x1.len,x1.cells,storeCells]
   ·unfold VR at hvs
    subst hvs;exact E0 ht hi x1
  obtain ⟨_,rfl,hrun⟩:=key
  exact ⟨vs,W,ρ,hrun,hr,Stp.refl (Nat.le_refl _),hvs⟩
end
end
end Go.Proofs.YtfdfdagbeeeomaaDoor.V2
namespace Go.Proofs.YtfdfdagbeeeomaaDoor.V2
open Go
noncomputable section
theorem Mu:∀ (l m:List Value) (o:Nat) (cs:Array Value),Gj cs o (l ++ m)=Gj (Gj cs o l) (o + l.length) m
 | [],m,o,cs=>rfl
 | v :: l,m,o,cs=>by
  show Gj (cs.setIfInBounds o v) (o + 1) (l ++ m)=Gj (Gj (cs.setIfInBounds o v) (o + 1) l) (o + (l.length + 1)) m
  rw [Mu l m,Nat.add_assoc,Nat.add_comm 1]
theorem Mj (off:Nat):∀ (l:List Value) (s:Nat) (cs:Array Value),(l.zipIdx s).foldl (fun cs p=>cs.setIfInBounds (off + p.2) p.1) cs=Gj cs (off + s) l
 | [],s,cs=>rfl
 | v :: l,s,cs=>by
  rw [List.zipIdx_cons,List.foldl_cons,Mj off l (s + 1)];rfl
theorem fill_spec (size:Nat):∀ (vs:List Value) (k:Nat) (cells:Array Value),(∀ v ∈ vs,v.cells.size=size) → (k + vs.length) * size ≤ cells.size →
  Instr.fill (fun i=>some (i * size,size)) cells ((List.range' k vs.length).zip vs)=some (Gj cells (k * size) (vs.flatMap fun v=>v.cells.toList))
 | [],k,cells,_,_=>rfl
 | v :: vs,k,cells,h,hs=>by
  have hv:=h v List.mem_cons_self
  rw [List.length_cons] at hs ⊢
  rw [List.range'_succ,List.zip_cons_cons]
  unfold Instr.fill
  simp only
  have hk:(k + (vs.length + 1)) * size=k * size + size + vs.length * size:=by rw [Nat.add_mul,Nat.add_mul,Nat.one_mul];omega
  rw [if_neg (by rw [hv];simp;omega)]
  have e1:Array.foldl (fun cs (x:Value × Nat)=>match x with | (c,j)=>cs.setIfInBounds (k * size + j) c) cells v.cells.zipIdx=Gj cells (k * size) v.cells.toList:=by
   rw [← Array.foldl_toList,Array.toList_zipIdx]
   exact Mj (k * size) v.cells.toList 0 cells
  have e2:=fill_spec size vs (k + 1) (Gj cells (k * size) v.cells.toList) (fun u hu=>h u (List.mem_cons_of_mem _ hu)) (by rw [De,show (k + 1 + vs.length) * size=(k + (vs.length + 1)) * size by rw [Nat.add_assoc,Nat.add_comm 1]];exact hs)
  rw [e1,e2,List.flatMap_cons,Mu]
  have:k * size + v.cells.toList.length=(k + 1) * size:=by rw [Nat.add_mul,Nat.one_mul,← hv];rfl
  rw [this]
theorem setL_all (cs:Array Value) (l:List Value) (h:l.length=cs.size):Gj cs 0 l=l.toArray:=by
 apply Array.ext_getElem?
 intro j
 rw [Ku l 0 cs (by omega)]
 by_cases hj:0 ≤ j ∧ j < 0 + l.length
 ·rw [if_pos hj];simp
 ·rw [if_neg hj,Array.getElem?_eq_none (by omega)];simp;omega
section
variable {P:Program} {W:World} {ρ:Ren} {σ:AH}
theorem VRs.flat:∀ {l:List AV} {vs:List Value},VRs ρ l vs → (l.all fun a=>a.known)=true → VRs ρ (l.flatMap AV.cells) (vs.flatMap fun v=>v.cells.toList)
 | [],_,e,_=>by rw [show _=[] from e];rfl
 | a :: l,_,⟨v,m,e,hv,hm⟩,h=>by
  subst e
  rw [List.all_cons,Bool.and_eq_true] at h
  rw [List.flatMap_cons,List.flatMap_cons]
  exact (hv.cells h.1).append (hm.flat h.2)
def Makes (P:Program) (m:Sem Next) (W:World) (ρ:Ren) (r:Bool × (Nat → AV) × AObj):Prop:=r.1=true → ∃ v x n s,m.run P W=.ok (.value v) { W with heap:=W.heap.push x,drawn:=n } ∧ OR ρ (0,s) r.2.2 (some x) ∧ ∀ ρ' b,ρ' b=some (W.heap.size,(0,s)) → VR ρ' (r.2.1 b) v
theorem Makes.runs {m:Sem Next} {r:Bool × (Nat → AV) × AObj} (h:Makes P m W ρ r) (hr:HR ρ σ W):Runs P m W ρ σ (r.1 && Nat.blt σ.next 1000000,r.2.1 σ.next,σ.new r.2.2):=fun hok=>by
 have hok:(r.1 && Nat.blt σ.next 1000000)=true:=hok
 rw [Bool.and_eq_true] at hok
 obtain ⟨v,x,n,s,h1,h2,h3⟩:=h hok.1
 obtain ⟨ρ',f1,_,f3,f4⟩:=(hr.drew n).new (o:=r.2.2) (x:=x) hok.2 h2
 exact ⟨_,_,ρ',h1,f3,f4.drew,.inl ⟨v,rfl,h3 ρ' _ f1⟩⟩
theorem bslice_makes {t e:TypeId} {i:TypeInfo} {z:Value} {n:Nat} (ht:P.underlying t=some (.slice e)) (hi:P.info? e=some i) (hz:i.zero=some z) (hn:n * i.size ≤ 16777216)
  {as':List AV} {vs:List Value} (hvs:VRs ρ as' vs) (hl:vs.length=n) {parts:Array (Nat × Value)} (hp:parts.toList=(List.range n).zip vs) :
  Makes P (do let v ← Instr.buildSlice t n parts;pure (.value v)) W ρ (Bt std (.bslice e i.size n) as'):=by
 intro hok
 simp only [Bt,Bool.and_eq_true,Nat.beq_eq] at hok ⊢
 obtain ⟨h2,h3⟩:=hok
 have hkn:(as'.all fun a=>a.known)=true:=by
  rw [List.all_eq_true] at h3 ⊢
  intro a ha
  have:=h3 a ha
  rw [Bool.and_eq_true] at this
  exact this.1
 have hsz:∀ v ∈ vs,v.cells.size=i.size:=by
  intro v hv
  obtain ⟨j,hj⟩:=List.mem_iff_getElem?.1 hv
  have hjl:=(List.getElem?_eq_some_iff.1 hj).1
  have hal:=hvs.length
  have ha:as'[j]?=some as'[j]:=List.getElem?_eq_getElem (by omega)
  obtain ⟨u,hu,hur⟩:=hvs.at j _ ha
  rw [hj] at hu;cases hu
  have:=List.all_eq_true.1 h3 _ (List.getElem_mem (by omega:j < as'.length))
  rw [Bool.and_eq_true,Nat.beq_eq] at this
  have hc:=(hur.cells this.1).length
  rw [← this.2,← hc];rfl
 have hflat:=hvs.flat hkn
 have hfl:(vs.flatMap fun v=>v.cells.toList).length=n * i.size:=by rw [hflat.length];exact h2
 have hfill:∀ cells0:Array Value,Instr.fill (fun i_1=>some (i_1 * i.size,i.size)) ((Array.range (n * i.size)).map (cells0[· % cells0.size]!)) parts.toList=some (vs.flatMap fun v=>v.cells.toList).toArray:=fun cells0=>by
  have hfill:=fill_spec i.size vs 0 ((Array.range (n * i.size)).map (cells0[· % cells0.size]!)) hsz (by simp [hl])
  rwa [← List.range_eq_range',hl,← hp,Nat.zero_mul,setL_all _ _ (by simp [hfl])] at hfill
 have hrun:(Instr.buildSlice t n parts).run P W=.ok (.slice (some ⟨W.heap.size,0,none⟩) n n) { W with heap:=W.heap.push (.cells (vs.flatMap fun v=>v.cells.toList).toArray e) }:=by
  unfold Instr.buildSlice
  have hsize:(sizeOf e).run P W=.ok i.size W:=by simp [sizeOf,typeInfo,hi]
  have hze:(zeroValue e).run P W=.ok z W:=by simp [zeroValue,typeInfo,hi,hz]
  rw [Sem.run_bind,run_underlying ht,Result.andThen_ok]
  simp only [Sem.run_bind,hsize,Result.andThen_ok]
  rw [if_neg (by omega)]
  by_cases h0:n * i.size=0
  ·rw [if_pos h0]
   simp only [Sem.run_bind,Sem.run_pure,Result.andThen_ok,hfill,newRow,run_newObj]
  ·rw [if_neg h0]
   simp only [Sem.run_bind,Sem.run_pure,Result.andThen_ok,hze,hfill,newRow,run_newObj]
 refine ⟨.slice (some ⟨W.heap.size,0,none⟩) n n,_,W.drawn,_,by rw [Sem.run_bind,hrun];rfl,OR.of hflat,fun ρ' b hb=>?_⟩
 unfold VR
 exact .inl ⟨_,_,0,n,hb,rfl,fun _=>rfl,Nat.le_refl _,Nat.le_refl _,fun _=>rfl,by show 0 + n * i.size ≤ List.length _;rw [hfl];omega⟩
end
end
end Go.Proofs.YtfdfdagbeeeomaaDoor.V2
namespace Go.Proofs.YtfdfdagbeeeomaaDoor.V2
open Go
section
variable {P:Program} {W:World} {ρ:Ren} {σ:AH}
theorem Lr {l:List AV} {v:Value} (h:VR ρ (.agg l) v):∃ us:List Value,v=.agg us.toArray ∧ VRs ρ l us:=by unfold VR at h;exact h
theorem F7 {k:IntKind} {l:List Int} {v:Value} (h:VR ρ (.ints k l) v):v=.agg (l.map (Value.int k)).toArray:=by unfold VR at h;exact h
theorem Iz {t:TypeId} {d:TypeDesc} (hu:P.underlying t=some d):(isAgg t).run P W=.ok (Bp d) W:=by
 unfold isAgg underlying
 simp only [Sem.run_bind,run_program,Result.andThen_ok,hu,Sem.run_pure]
 cases d <;> rfl
theorem B7 {t:TypeId} {i:TypeInfo} (hi:P.info? t=some i):(sizeOf t).run P W=.ok i.size W:=by simp [sizeOf,typeInfo,hi]
theorem part1_run {t:TypeId} {d:TypeDesc} (hu:P.underlying t=some d) (hd:Bp d=false) {ax:AV} {x:Value} (hx:VR ρ ax x) {off:Nat} (hok:(Ic std ax off).1=true) :
  ∃ cs v,x=.agg cs ∧ (part t cs off).run P W=.ok v W ∧ VR ρ (Ic std ax off).2 v:=by
 cases ax <;> simp only [Ic,Bool.false_eq_true] at hok
 case agg l =>
  obtain ⟨us,rfl,hus⟩:=Lr hx
  rw [Nat.blt_eq] at hok
  obtain ⟨v,hv,hr⟩:=hus.at off l[off] (List.getElem?_eq_getElem hok)
  refine ⟨us.toArray,v,rfl,?_,?_⟩
  ·unfold part
   simp only [Sem.run_bind,Iz hu,hd,Result.andThen_ok,Bool.false_eq_true,if_false]
   have:us.toArray[off]?=some v:=by simpa using hv
   rw [this];rfl
  ·show VR ρ (l.getD off .top) v
   simp only [List.getD_eq_getElem?_getD,List.getElem?_eq_getElem hok,Option.getD_some];exact hr
 case ints k l =>
  have:=F7 hx
  subst this
  have hlt:off < l.length:=by have hok:Nat.blt off l.length=true:=hok;rwa [Nat.blt_eq] at hok
  refine ⟨_,.int k l[off],rfl,?_,?_⟩
  ·unfold part
   simp only [Sem.run_bind,Iz hu,hd,Result.andThen_ok,Bool.false_eq_true,if_false]
   have:(l.map (Value.int k)).toArray[off]?=some (.int k l[off]):=by simp [hlt]
   rw [this];rfl
  ·show VR ρ (.int k (l.getD off 0)) _
   unfold VR;simp [hlt]
theorem partN_run {t:TypeId} {d:TypeDesc} {i:TypeInfo} (hu:P.underlying t=some d) (hd:Bp d=true) (hi:P.info? t=some i) {ax:AV} {x:Value} (hx:VR ρ ax x) {off:Nat} (hok:(Ib std ax off i.size).1=true) :
  ∃ cs v,x=.agg cs ∧ (part t cs off).run P W=.ok v W ∧ VR ρ (Ib std ax off i.size).2 v:=by
 have hpart:∀ cs:Array Value,(part t cs off).run P W=.ok (.agg (cs.extract off (off + i.size))) W:=fun cs=>by
  unfold part
  simp only [Sem.run_bind,Iz hu,hd,Result.andThen_ok,if_true,B7 hi,Sem.run_pure]
 cases ax <;> simp only [Ib,Bool.false_eq_true] at hok
 case agg l =>
  obtain ⟨us,rfl,hus⟩:=Lr hx
  rw [Nat.ble_eq] at hok
  have hl:=hus.length
  refine ⟨us.toArray,_,rfl,hpart _,?_⟩
  have e:us.toArray.extract off (off + i.size)=((us.drop off).take i.size).toArray:=by
   apply Array.ext';simp [List.extract]
  rw [e]
  refine Gx (VRs.of _ _ (by simp;omega) fun j a hj=>?_)
  rw [List.getElem?_take] at hj
  split at hj
  ·rename_i hjl
   rw [List.getElem?_drop] at hj
   obtain ⟨v,hv,hr⟩:=hus.at _ a hj
   exact ⟨v,by rw [List.getElem?_take,if_pos hjl,List.getElem?_drop];exact hv,hr⟩
  ·cases hj
 case ints k l =>
  have:=F7 hx
  subst this
  refine ⟨_,_,rfl,hpart _,?_⟩
  show VR ρ (.ints k ((l.drop off).take i.size)) _
  unfold VR
  congr 1
  apply Array.ext'
  simp [List.extract,List.map_drop,List.map_take]
theorem sem_field1 (hr:HR ρ σ W) {s:TypeId} {fs:Array Field} {f:Nat} {fd:Field} {d:TypeDesc} (hs:P.underlying s=some (.struct fs)) (hf:fs[f]?=some fd) (hu:P.underlying fd.type=some d) (hd:Bp d=false) {ax:AV} {x:Value} (hx:VR ρ ax x) :
  Runs P (do let v ← Instr.field s x f;pure (.value v)) W ρ σ ((Ic std ax fd.offset).1,(Ic std ax fd.offset).2,σ):=by
 intro hok
 obtain ⟨cs,v,rfl,h1,h2⟩:=part1_run (P:=P) (W:=W) hu hd hx hok
 refine ⟨.value v,W,ρ,?_,hr,Stp.refl (Nat.le_refl _),.inl ⟨v,rfl,h2⟩⟩
 simp only [Instr.field,Sem.run_bind,run_underlying hs,Result.andThen_ok,hf,asAgg,Sem.run_pure,h1]
theorem sem_fieldN (hr:HR ρ σ W) {s:TypeId} {fs:Array Field} {f:Nat} {fd:Field} {d:TypeDesc} {i:TypeInfo} (hs:P.underlying s=some (.struct fs)) (hf:fs[f]?=some fd) (hu:P.underlying fd.type=some d) (hd:Bp d=true) (hi:P.info? fd.type=some i) {ax:AV} {x:Value} (hx:VR ρ ax x) :
  Runs P (do let v ← Instr.field s x f;pure (.value v)) W ρ σ ((Ib std ax fd.offset i.size).1,(Ib std ax fd.offset i.size).2,σ):=by
 intro hok
 obtain ⟨cs,v,rfl,h1,h2⟩:=partN_run (P:=P) (W:=W) hu hd hi hx hok
 refine ⟨.value v,W,ρ,?_,hr,Stp.refl (Nat.le_refl _),.inl ⟨v,rfl,h2⟩⟩
 simp only [Instr.field,Sem.run_bind,run_underlying hs,Result.andThen_ok,hf,asAgg,Sem.run_pure,h1]
theorem sem_idxA (hr:HR ρ σ W) {t e:TypeId} {len:Nat} {i:TypeInfo} {d:TypeDesc} (ht:P.underlying t=some (.array len e)) (hi:P.info? e=some i) (hu:P.underlying e=some d) {ax ay:AV} {x y:Value} (hx:VR ρ ax x) (hy:VR ρ ay y) :
  Runs P (do let v ← Instr.index t x y;pure (.value v)) W ρ σ ((Al std (.idxArr len i.size (Bp d)) [ax,ay]).1,(Al std (.idxArr len i.size (Bp d)) [ax,ay]).2,σ):=by
 intro hok
 cases ay <;> simp only [Al,Bool.false_eq_true] at hok
 rename_i k n
 simp only [VR] at hy
 subst hy
 simp only [Bool.and_eq_true] at hok
 obtain ⟨⟨h0,h1⟩,h2⟩:=hok
 have h0:0 ≤ n:=of_decide_eq_true h0
 have h1:n.toNat < len:=by have h1:Nat.blt n.toNat len=true:=h1;rwa [Nat.blt_eq] at h1
 have key:∃ cs v,x=.agg cs ∧ (part e cs (n.toNat * i.size)).run P W=.ok v W ∧ VR ρ (Al std (.idxArr len i.size (Bp d)) [ax,.int k n]).2 v:=by
  simp only [Al]
  cases hd:Bp d with
  | true =>
   rw [hd] at h2
   exact partN_run (P:=P) (W:=W) hu hd hi hx h2
  | false =>
   rw [hd] at h2
   exact part1_run (P:=P) (W:=W) hu hd hx h2
 obtain ⟨cs,v,rfl,h3,h4⟩:=key
 refine ⟨.value v,W,ρ,?_,hr,Stp.refl (Nat.le_refl _),.inl ⟨v,rfl,h4⟩⟩
 have hb:(0:Int) ≤ n ∧ n < (len:Int):=⟨h0,by omega⟩
 simp only [Instr.index,asIntOf,Sem.run_bind,Sem.run_pure,Result.andThen_ok,run_underlying ht]
 rw [if_pos hb]
 simp only [Sem.run_bind,B7 hi,Result.andThen_ok,h3]
theorem sem_idxS (hr:HR ρ σ W) {t:TypeId} (ht:P.underlying t=some .string) {ax ay:AV} {x y:Value} (hx:VR ρ ax x) (hy:VR ρ ay y) :
  Runs P (do let v ← Instr.index t x y;pure (.value v)) W ρ σ ((Al std .idxStr [ax,ay]).1,(Al std .idxStr [ax,ay]).2,σ):=by
 intro hok
 cases ax <;> cases ay <;> simp only [Al,Bool.false_eq_true] at hok
 rename_i l k n
 simp only [VR] at hx hy
 subst hx;subst hy
 simp only [Bool.and_eq_true] at hok
 obtain ⟨h0,h1⟩:=hok
 have h0:0 ≤ n:=of_decide_eq_true h0
 have h1:n.toNat < l.length:=by have h1:Nat.blt n.toNat l.length=true:=h1;rwa [Nat.blt_eq] at h1
 have hb:(⟨l.toArray⟩:ByteArray)[n.toNat]?=some l[n.toNat]:=by
  have hs:n.toNat < (⟨l.toArray⟩:ByteArray).size:=h1
  exact (getElem?_pos (⟨l.toArray⟩:ByteArray) n.toNat hs).trans rfl
 refine ⟨.value (.int .u8 (l[n.toNat]).toNat),W,ρ,?_,hr,Stp.refl (Nat.le_refl _),.inl ⟨_,rfl,?_⟩⟩
 ·simp only [Instr.index,asIntOf,Sem.run_bind,Sem.run_pure,Result.andThen_ok,run_underlying ht,if_pos h0,hb]
 ·show VR ρ (.int .u8 ((l.map fun b=>((b.toNat:Nat):Int)).getD n.toNat 0)) _
  unfold VR
  simp [h1]
theorem minL_run (mx:Bool) {k:IntKind}:∀ (l:List AV) (vs:List Value) (n:Int),VRs ρ l vs → (minL std mx k n l).1=true →
  ∃ v,(vs.foldlM (bif mx then Builtin.max2 else Builtin.min2) (.int k n)).run P W=.ok v W ∧ VR ρ (minL std mx k n l).2 v
 | [],vs,n,h,_=>by
  rw [show vs=[] from h]
  exact ⟨.int k n,rfl,by show VR ρ (.int k n) _;unfold VR;rfl⟩
 | a :: l,_,n,⟨v,m,e,hv,hm⟩,hok=>by
  subst e
  cases a <;> simp only [minL,Bool.false_eq_true] at hok
  rename_i k' j
  rw [Bool.and_eq_true,decide_eq_true_eq] at hok
  obtain ⟨rfl,hok⟩:=hok
  simp only [VR] at hv
  subst hv
  obtain ⟨w,h1,h2⟩:=minL_run mx l m _ hm hok
  refine ⟨w,?_,h2⟩
  rw [List.foldlM_cons,Sem.run_bind]
  have e:((bif mx then Builtin.max2 else Builtin.min2) (Value.int k n) (Value.int k j)).run P W=.ok (.int k (bif (bif mx then std.lt n j else std.lt j n) then j else n)) W:=by
   cases mx
   ·show Sem.run P (pure (Value.int k (if j < n then j else n))) W=_
    have:(if j < n then j else n)=bif std.lt j n then j else n:=by simp only [std];by_cases h:j < n <;> simp [h]
    rw [this];rfl
   ·show Sem.run P (pure (Value.int k (if j > n then j else n))) W=_
    have:(if j > n then j else n)=bif std.lt n j then j else n:=by simp only [std];by_cases h:n < j <;> simp [h]
    rw [this];rfl
  rw [e,Result.andThen_ok];exact h1
theorem vr_fn {f:Fn} {xs ys:List AV} {v:Value} (h:VR ρ (.fn f xs ys) v):∃ us vs:List Value,v=.func f us.toArray vs.toArray ∧ VRs ρ xs us ∧ VRs ρ ys vs:=by unfold VR at h;exact h
theorem vr_ifc {t:TypeId} {a:AV} {v:Value} (h:VR ρ (.ifc t a) v):∃ u,v=.iface t u ∧ VR ρ a u:=by unfold VR at h;exact h
theorem Gh {b:Nat} {v:Value} (h:VR ρ (.map b) v):∃ c d,ρ b=some (c,d) ∧ v=.map (some c):=by unfold VR at h;exact h
def EK.fits (P:Program) (t:TypeId):EK → Prop
 | .bool=>P.underlying t=some .bool
 | .ptr=>∃ e i n,P.underlying t=some (.pointer e) ∧ P.info? e=some i ∧ i.size=n + 1
 | .sl=>∃ e,P.underlying t=some (.slice e)
 | .map=>∃ k e,P.underlying t=some (.map k e)
 | .fn=>∃ a b c,P.underlying t=some (.func a b c)
 | .ifc=>∃ ms,P.underlying t=some (.interface ms)
theorem eqv_run {k:EK} {t:TypeId} {ax ay:AV} {x y:Value} (hx:VR ρ ax x) (hy:VR ρ ay y) (hok:(eqvA std k ax ay).1=true) (ht:k.fits P t) :
  (Op.equal t x y).run P W=.ok (eqvA std k ax ay).2 W:=by
 have e0:Op.equal t x y=Op.equalIn (9999 + 1) t x y:=rfl
 rw [e0]
 generalize 9999=dd
 unfold Op.equalIn
 unfold eqvA at hok ⊢
 split at hok
 case h_1 =>
  simp only [VR] at hx hy;subst hx;subst hy
  have ht:P.underlying t=some .bool:=ht
  simp only [Sem.run_bind,run_underlying ht,Result.andThen_ok]
  rfl
 case h_2 =>
  simp only [VR] at hx hy;subst hx;subst hy
  obtain ⟨e,i,n,ht,hi,hn⟩:=ht
  simp only [Sem.run_bind,run_underlying ht,Result.andThen_ok]
  rfl
 case h_3 =>
  obtain ⟨c,d,_,rfl⟩:=Ff hy
  simp only [VR] at hx;subst hx
  obtain ⟨e,i,n,ht,hi,hn⟩:=ht
  simp only [Sem.run_bind,run_underlying ht,Result.andThen_ok]
  rfl
 case h_4 =>
  obtain ⟨c,d,_,rfl⟩:=Ff hx
  simp only [VR] at hy;subst hy
  obtain ⟨e,i,n,ht,hi,hn⟩:=ht
  simp only [Sem.run_bind,run_underlying ht,Result.andThen_ok]
  rfl
 case h_5 =>
  obtain ⟨c,d,h1,rfl⟩:=Ff hx
  obtain ⟨c',d',h2,rfl⟩:=Ff hy
  simp only [std,Bool.and_eq_true,Nat.beq_eq] at hok
  obtain ⟨rfl,rfl⟩:=hok
  rw [h1] at h2;cases h2
  obtain ⟨e,i,n,ht,hi,hn⟩:=ht
  simp only [Sem.run_bind,run_underlying ht,Result.andThen_ok,B7 hi,hn]
  simp [sameAddr]
 case h_6 =>
  simp only [VR] at hx hy;subst hx;subst hy
  obtain ⟨e,ht⟩:=ht
  simp only [Sem.run_bind,run_underlying ht,Result.andThen_ok]
  rfl
 case h_7 =>
  obtain ⟨p,k',rfl,_⟩:=Ia hy
  simp only [VR] at hx;subst hx
  obtain ⟨e,ht⟩:=ht
  simp only [Sem.run_bind,run_underlying ht,Result.andThen_ok]
  rfl
 case h_8 =>
  obtain ⟨p,k',rfl,_⟩:=Ia hx
  simp only [VR] at hy;subst hy
  obtain ⟨e,ht⟩:=ht
  simp only [Sem.run_bind,run_underlying ht,Result.andThen_ok]
  rfl
 case h_9 =>
  simp only [VR] at hx hy;subst hx;subst hy
  obtain ⟨_,e,ht⟩:=ht
  simp only [Sem.run_bind,run_underlying ht,Result.andThen_ok]
  rfl
 case h_10 =>
  obtain ⟨c,d,_,rfl⟩:=Gh hy
  simp only [VR] at hx;subst hx
  obtain ⟨_,e,ht⟩:=ht
  simp only [Sem.run_bind,run_underlying ht,Result.andThen_ok]
  rfl
 case h_11 =>
  obtain ⟨c,d,_,rfl⟩:=Gh hx
  simp only [VR] at hy;subst hy
  obtain ⟨_,e,ht⟩:=ht
  simp only [Sem.run_bind,run_underlying ht,Result.andThen_ok]
  rfl
 case h_12 =>
  simp only [VR] at hx hy;subst hx;subst hy
  obtain ⟨_,_,_,ht⟩:=ht
  simp only [Sem.run_bind,run_underlying ht,Result.andThen_ok]
  rfl
 case h_13 =>
  obtain ⟨_,_,rfl,_⟩:=vr_fn hy
  simp only [VR] at hx;subst hx
  obtain ⟨_,_,_,ht⟩:=ht
  simp only [Sem.run_bind,run_underlying ht,Result.andThen_ok]
  rfl
 case h_14 =>
  obtain ⟨_,_,rfl,_⟩:=vr_fn hx
  simp only [VR] at hy;subst hy
  obtain ⟨_,_,_,ht⟩:=ht
  simp only [Sem.run_bind,run_underlying ht,Result.andThen_ok]
  rfl
 case h_15 =>
  simp only [VR] at hx hy;subst hx;subst hy
  obtain ⟨_,ht⟩:=ht
  simp only [Sem.run_bind,run_underlying ht,Result.andThen_ok]
  rfl
 case h_16 =>
  obtain ⟨_,rfl,_⟩:=vr_ifc hy
  simp only [VR] at hx;subst hx
  obtain ⟨_,ht⟩:=ht
  simp only [Sem.run_bind,run_underlying ht,Result.andThen_ok]
  rfl
 case h_17 =>
  obtain ⟨_,rfl,_⟩:=vr_ifc hx
  simp only [VR] at hy;subst hy
  obtain ⟨_,ht⟩:=ht
  simp only [Sem.run_bind,run_underlying ht,Result.andThen_ok]
  rfl
 case h_18=>cases hok
end
end Go.Proofs.YtfdfdagbeeeomaaDoor.V2
namespace Go.Proofs.YtfdfdagbeeeomaaDoor.V2
open Go
section
variable {P:Program} {ρ:Ren}
theorem Ew {ks:List CK}:∀ {l m:List AV},(Ax std ks l m).1=true → l.length=ks.length ∧ m.length=ks.length:=by
 induction ks with
 | nil=>intro l m h;cases l <;> cases m <;> first | exact ⟨rfl,rfl⟩ | cases h
 | cons k ks ih =>
  intro l m h
  cases l with
  | nil=>cases h
  | cons a l =>
   cases m with
   | nil=>cases h
   | cons b m =>
    simp only [Ax,Bool.and_eq_true] at h
    obtain ⟨h1,h2⟩:=ih h.2
    exact ⟨by simp [h1],by simp [h2]⟩
theorem Im {ks ks':List CK}:∀ {l l' m m':List AV},l.length=ks.length → m.length=ks.length →
  Ax std (ks ++ ks') (l ++ l') (m ++ m')=((Ax std ks l m).1 && (Ax std ks' l' m').1,(Ax std ks l m).2 && (Ax std ks' l' m').2):=by
 induction ks with
 | nil =>
  intro l l' m m' h1 h2
  rw [List.length_eq_zero_iff.1 h1,List.length_eq_zero_iff.1 h2]
  simp [Ax]
 | cons k ks ih =>
  intro l l' m m' h1 h2
  cases l with
  | nil=>simp at h1
  | cons a l =>
   cases m with
   | nil=>simp at h2
   | cons b m =>
    simp only [List.cons_append,Ax]
    rw [ih (by simpa using h1) (by simpa using h2)]
    simp [Bool.and_assoc]
def Ey (P:Program) (t:TypeId) (x:Value) (xs:List Value):Prop:=match P.underlying t with
 | some (.array _ _)=>x=.agg xs.toArray
 | some (.struct _)=>x=.agg xs.toArray
 | _=>xs=[x]
def EqS (P:Program) (dd:Nat) (t:TypeId) (ks:List CK):Prop:=∀ (W:World) (ρ:Ren) (x y:Value) (xs ys:List Value) (l m:List AV),Ey P t x xs → Ey P t y ys → VRs ρ l xs → VRs ρ m ys → (Ax std ks l m).1=true →
 (Op.equalIn dd t x y).run P W=.ok (Ax std ks l m).2 W
theorem cell_run {k:CK} {t:TypeId} (dd:Nat) {a b:AV} {x y:Value} {W:World} (ht:match k with | .int=>∃ q,P.underlying t=some (.int q) | .str=>P.underlying t=some .string | .bool=>P.underlying t=some .bool) (hx:VR ρ a x) (hy:VR ρ b y) (h:(B5 std k a b).1=true) :
  (Op.equalIn (dd + 1) t x y).run P W=.ok (B5 std k a b).2 W:=by
 cases k
 case int =>
  cases a <;> cases b <;> simp only [B5,Bool.false_eq_true] at h
  simp only [VR] at hx hy;subst hx;subst hy
  simp only [decide_eq_true_eq] at h
  subst h
  obtain ⟨q,ht⟩:=ht
  rw [run_equalIn_int W dd t _ q _ _ ht]
  simp only [B5,std];rfl
 case str =>
  cases a <;> cases b <;> simp only [B5,Bool.false_eq_true] at h
  simp only [VR] at hx hy;subst hx;subst hy
  rw [run_equalIn_string W dd t _ _ ht,Jb,Jb]
  simp only [B5,std]
 case bool =>
  cases a <;> cases b <;> simp only [B5,Bool.false_eq_true] at h
  simp only [VR] at hx hy;subst hx;subst hy
  rw [run_equalIn_bool W dd t _ _ ht]
  simp only [B5]
theorem Kc {t:TypeId} {k:CK} (dd:Nat) (hk:match k with | .int=>∃ q,P.underlying t=some (.int q) | .str=>P.underlying t=some .string | .bool=>P.underlying t=some .bool):EqS P (dd + 1) t [k]:=by
 intro W ρ x y xs ys l m fx fy hx hy h
 have e1:xs=[x]:=by unfold Ey at fx;cases k <;> simp only at hk <;> first | (obtain ⟨q,hk⟩:=hk;rw [hk] at fx;exact fx) | (rw [hk] at fx;exact fx)
 have e2:ys=[y]:=by unfold Ey at fy;cases k <;> simp only at hk <;> first | (obtain ⟨q,hk⟩:=hk;rw [hk] at fy;exact fy) | (rw [hk] at fy;exact fy)
 subst e1;subst e2
 obtain ⟨h1,h2⟩:=Ew h
 match l,m,h1,h2 with
 | [a],[b],_,_ =>
  obtain ⟨v,_,e,hv,_⟩:=hx
  obtain ⟨u,_,e',hu,_⟩:=hy
  cases e;cases e'
  simp only [Ax,Bool.and_true] at h ⊢
  exact cell_run dd hk hv hu h
theorem Gb {e:TypeId} {i:TypeInfo} (hi:P.info? e=some i) {xs:List Value} {off:Nat} (hl:off + i.size ≤ xs.length) (hs:∀ d,P.underlying e=some d → Bp d=false → i.size=1) (hu:(P.underlying e).isSome=true) (W:World) :
  ∃ v,(part e xs.toArray off).run P W=.ok v W ∧ Ey P e v ((xs.drop off).take i.size):=by
 obtain ⟨d,hd⟩:=Option.isSome_iff_exists.1 hu
 unfold part
 simp only [Sem.run_bind,Iz hd,Result.andThen_ok]
 cases hag:Bp d with
 | true =>
  simp only [if_true,Sem.run_bind,B7 hi,Result.andThen_ok,Sem.run_pure]
  refine ⟨_,rfl,?_⟩
  have e1:xs.toArray.extract off (off + i.size)=((xs.drop off).take i.size).toArray:=by apply Array.ext';simp [List.extract]
  unfold Ey
  rw [hd,e1]
  cases d <;> simp only [Bp,Bool.false_eq_true] at hag <;> rfl
 | false =>
  have h1:=hs d hd hag
  simp only [Bool.false_eq_true,if_false]
  have hlt:off < xs.length:=by omega
  have:xs.toArray[off]?=some xs[off]:=by simp [hlt]
  rw [this]
  refine ⟨xs[off],rfl,?_⟩
  have e2:(xs.drop off).take i.size=[xs[off]]:=by rw [h1,List.drop_eq_getElem_cons hlt];rfl
  rw [e2]
  unfold Ey
  rw [hd]
  cases d <;> simp only [Bp,Bool.true_eq_false] at hag <;> rfl
theorem VRs.drop {ρ:Ren}:∀ (n:Nat) {l:List AV} {vs:List Value},VRs ρ l vs → VRs ρ (l.drop n) (vs.drop n)
 | 0,_,_,h=>h
 | n + 1,[],_,h=>by rw [show _=[] from h];rfl
 | n + 1,_ :: _,_,⟨_,_,e,_,hm⟩=>by subst e;exact VRs.drop n hm
theorem VRs.take {ρ:Ren}:∀ (n:Nat) {l:List AV} {vs:List Value},VRs ρ l vs → VRs ρ (l.take n) (vs.take n)
 | 0,_,_,_=>rfl
 | n + 1,[],_,h=>by rw [show _=[] from h];rfl
 | n + 1,_ :: _,_,⟨v,m,e,hv,hm⟩=>by subst e;exact ⟨v,m.take n,rfl,hv,VRs.take n hm⟩
theorem items_run {dd:Nat} {e:TypeId} {i:TypeInfo} {ks:List CK} (hE:EqS P dd e ks) (hi:P.info? e=some i) (hsz:i.size=ks.length) (hpos:0 < ks.length) (hc:P.cellsOf e=ks.length) (hs:∀ d,P.underlying e=some d → Bp d=false → i.size=1) (hu:(P.underlying e).isSome=true) (xs ys:List Value) (W:World) :
  ∀ (n s:Nat) (l m:List AV),VRs ρ l (xs.drop (s * ks.length)) → VRs ρ m (ys.drop (s * ks.length)) → (Ax std (List.replicate n ks).flatten l m).1=true →
  (Op.eqItems dd e (P.cellsOf e) xs.toArray ys.toArray (List.range' s n)).run P W=.ok (Ax std (List.replicate n ks).flatten l m).2 W
 | 0,s,l,m,hx,hy,h=>by
  obtain ⟨h1,h2⟩:=Ew h
  simp at h1 h2
  subst h1;subst h2
  rfl
 | n + 1,s,l,m,hx,hy,h=>by
  obtain ⟨h1,h2⟩:=Ew h
  rw [List.replicate_succ,List.flatten_cons,List.length_append] at h1 h2
  have hlx:=hx.length
  have hly:=hy.length
  rw [List.length_drop] at hlx hly
  have el:l=l.take ks.length ++ l.drop ks.length:=(List.take_append_drop _ _).symm
  have em:m=m.take ks.length ++ m.drop ks.length:=(List.take_append_drop _ _).symm
  have hsplit:=Im (ks:=ks) (ks':=(List.replicate n ks).flatten) (l:=l.take ks.length) (l':=l.drop ks.length) (m:=m.take ks.length) (m':=m.drop ks.length) (by simp;omega) (by simp;omega)
  rw [← el,← em] at hsplit
  rw [List.replicate_succ,List.flatten_cons] at h ⊢
  rw [hsplit] at h ⊢
  simp only [Bool.and_eq_true] at h
  obtain ⟨v,hv,fv⟩:=Gb (P:=P) (xs:=xs) (off:=s * ks.length) hi (by omega) hs hu W
  obtain ⟨u,hu',fu⟩:=Gb (P:=P) (xs:=ys) (off:=s * ks.length) hi (by omega) hs hu W
  rw [hsz] at fv fu
  have hrec:=items_run hE hi hsz hpos hc hs hu xs ys W n (s + 1) (l.drop ks.length) (m.drop ks.length) (by rw [Nat.add_mul,Nat.one_mul,← List.drop_drop];exact hx.drop _) (by rw [Nat.add_mul,Nat.one_mul,← List.drop_drop];exact hy.drop _) h.2
  have h0:=hE W ρ v u _ _ _ _ fv fu (hx.take _) (hy.take _) h.1
  rw [List.range'_succ]
  simp only [Op.eqItems,Sem.run_bind,hc] at hrec ⊢
  rw [hv,Result.andThen_ok,hu',Result.andThen_ok,h0,Result.andThen_ok]
  cases hb:(Ax std ks (l.take ks.length) (m.take ks.length)).2 with
  | false=>simp
  | true=>simp only [Bool.not_true,Bool.false_eq_true,if_false,Bool.true_and];exact hrec
theorem shapeF_cons {sh:TypeId → Option (List CK)} {f:Field} {fs:List Field} {off:Nat} {ks:List CK} (h:Ly P sh (f :: fs) off=some ks) :
  ∃ k1 k2 i, sh f.type = some k1 ∧ P.info? f.type = some i ∧ f.name ≠ "_" ∧ f.offset = off ∧ i.size = k1.length ∧ 0 < k1.length ∧ Ly P sh fs (off + k1.length) = some k2 ∧ ks = k1 ++ k2 := by
 unfold Ly at h
 split at h
 ·rename_i k1 h1
  split at h
  ·rename_i i hi
   split at h
   ·rename_i hb
    split at h
    ·rename_i k2 h2
     cases h
     simp only [Bool.and_eq_true,bne_iff_ne,ne_eq,Nat.beq_eq] at hb
     exact ⟨k1,k2,i,h1,hi,hb.1.1.1.1,hb.1.1.1.2,hb.1.1.2,by have:=hb.2;rwa [Nat.blt_eq] at this,h2,rfl⟩
    ·cases h
   ·cases h
  ·cases h
 ·cases h
theorem fields_run {dd:Nat} {sh:TypeId → Option (List CK)} (hE:∀ t ks,sh t=some ks → EqS P dd t ks ∧ (P.underlying t).isSome=true ∧ ∀ d,P.underlying t=some d → Bp d=false → ks.length=1) (xs ys:List Value) (W:World) :
  ∀ (fs:List Field) (off:Nat) (ks:List CK) (l m:List AV),Ly P sh fs off=some ks → VRs ρ l (xs.drop off) → VRs ρ m (ys.drop off) → (Ax std ks l m).1=true →
  (Op.eqFields dd xs.toArray ys.toArray fs).run P W=.ok (Ax std ks l m).2 W
 | [],off,ks,l,m,hs,hx,hy,h=>by
  cases hs
  obtain ⟨h1,h2⟩:=Ew h
  simp at h1 h2
  subst h1;subst h2
  rfl
 | f :: fs,off,ks,l,m,hs,hx,hy,h=>by
  obtain ⟨k1,k2,i,e1,e2,e3,rfl,e5,hpos,e6,rfl⟩:=shapeF_cons hs
  obtain ⟨hE1,hu,hsc⟩:=hE _ _ e1
  obtain ⟨h1,h2⟩:=Ew h
  rw [List.length_append] at h1 h2
  have hlx:=hx.length
  have hly:=hy.length
  rw [List.length_drop] at hlx hly
  have el:l=l.take k1.length ++ l.drop k1.length:=(List.take_append_drop _ _).symm
  have em:m=m.take k1.length ++ m.drop k1.length:=(List.take_append_drop _ _).symm
  have hsplit:=Im (ks:=k1) (ks':=k2) (l:=l.take k1.length) (l':=l.drop k1.length) (m:=m.take k1.length) (m':=m.drop k1.length) (by simp;omega) (by simp;omega)
  rw [← el,← em] at hsplit
  rw [hsplit] at h ⊢
  simp only [Bool.and_eq_true] at h
  have hs1:∀ d,P.underlying f.type=some d → Bp d=false → i.size=1:=fun d hd ha=>by rw [e5];exact hsc d hd ha
  obtain ⟨v,hv,fv⟩:=Gb (P:=P) (xs:=xs) (off:=f.offset) e2 (by omega) hs1 hu W
  obtain ⟨u,hu',fu⟩:=Gb (P:=P) (xs:=ys) (off:=f.offset) e2 (by omega) hs1 hu W
  rw [e5] at fv fu
  have hrec:=fields_run hE xs ys W fs (f.offset + k1.length) k2 (l.drop k1.length) (m.drop k1.length) e6 (by rw [← List.drop_drop];exact hx.drop _) (by rw [← List.drop_drop];exact hy.drop _) h.2
  have h0:=hE1 W ρ v u _ _ _ _ fv fu (hx.take _) (hy.take _) h.1
  simp only [Op.eqFields,Sem.run_ite,e3,ne_eq,not_false_eq_true,if_true,Sem.run_bind]
  rw [hv,Result.andThen_ok,hu',Result.andThen_ok,h0,Result.andThen_ok]
  cases hb:(Ax std k1 (l.take k1.length) (m.take k1.length)).2 with
  | false=>simp
  | true=>simp only [Bool.not_true,Bool.false_eq_true,if_false,Bool.true_and];exact hrec
theorem Dv:∀ (n:Nat) (t:TypeId) (ks:List CK),Bm P n t=some ks → (∀ d,EqS P (d + n) t ks) ∧ (P.underlying t).isSome=true ∧ ∀ d,P.underlying t=some d → Bp d=false → ks.length=1
 | 0,_,_,h=>by cases h
 | n + 1,t,ks,h=>by
  unfold Bm at h
  split at h
  ·rename_i q hu
   cases h
   exact ⟨fun d=>Kc (k:=.int) (d + n) ⟨q,hu⟩,by rw [hu];rfl,fun _ _ _=>rfl⟩
  ·rename_i hu
   cases h
   exact ⟨fun d=>Kc (k:=.str) (d + n) hu,by rw [hu];rfl,fun _ _ _=>rfl⟩
  ·rename_i hu
   cases h
   exact ⟨fun d=>Kc (k:=.bool) (d + n) hu,by rw [hu];rfl,fun _ _ _=>rfl⟩
  ·rename_i len e hu
   split at h
   ·rename_i k1 h1
    split at h
    ·rename_i i hi
     split at h
     ·rename_i hb
      cases h
      simp only [Bool.and_eq_true,Nat.beq_eq] at hb
      obtain ⟨⟨hsz,hc⟩,hpos⟩:=hb
      rw [Nat.blt_eq] at hpos
      obtain ⟨ih1,ih2,ih3⟩:=Dv n e k1 h1
      refine ⟨fun d=>?_,by rw [hu];rfl,fun d hd ha=>by rw [hu] at hd;cases hd;cases ha⟩
      intro W ρ x y xs ys l m fx fy hx hy hok
      unfold Ey at fx fy
      rw [hu] at fx fy
      simp only at fx fy
      subst fx;subst fy
      rw [show d + (n + 1)=(d + n) + 1 from rfl,run_equalIn_array W (d + n) _ _ hu hi,List.range_eq_range']
      exact items_run (ρ:=ρ) (ih1 d) hi hsz hpos hc (fun d' hd' ha=>by rw [hsz];exact ih3 d' hd' ha) ih2 xs ys W len 0 l m (by simpa using hx) (by simpa using hy) hok
     ·cases h
    ·cases h
   ·cases h
  ·rename_i fs hu
   split at h
   ·cases h
   ·rename_i hst
    refine ⟨fun d=>?_,by rw [hu];rfl,fun d hd ha=>by rw [hu] at hd;cases hd;cases ha⟩
    intro W ρ x y xs ys l m fx fy hx hy hok
    unfold Ey at fx fy
    rw [hu] at fx fy
    simp only at fx fy
    subst fx;subst fy
    have hfs:P.fieldsOf t=fs:=by simp [Program.fieldsOf,hu]
    rw [show d + (n + 1)=(d + n) + 1 from rfl,run_equalIn_struct W (d + n) t _ _ (by rw [hfs];exact hu) hst,hfs]
    exact fields_run (ρ:=ρ) (sh:=Bm P n) (fun t' ks' h'=>⟨(Dv n t' ks' h').1 d,(Dv n t' ks' h').2⟩) xs ys W fs.toList 0 ks l m h (by simpa using hx) (by simpa using hy) hok
  ·cases h
theorem flatEq_run {t:TypeId} {ks:List CK} (hk:Bm P 100 t=some ks) {a b:AV} {x y:Value} {W:World} (hx:VR ρ a x) (hy:VR ρ b y) (h:(B3 std (Az P t) ks a b).1=true) :
  (Op.equal t x y).run P W=.ok (B3 std (Az P t) ks a b).2 W:=by
 have hE:=(Dv 100 t ks hk).1 9900
 have e0:Op.equal t x y=Op.equalIn (9900 + 100) t x y:=rfl
 rw [e0]
 have hsc:(Az P t=true → ∀ v:Value,Ey P t v [v]) ∧ (Az P t=false → ∀ us:List Value,Ey P t (.agg us.toArray) us):=by
  have hs:(P.underlying t).isSome=true:=(Dv 100 t ks hk).2.1
  unfold Bm at hk
  unfold Az Ey
  split at hk
  ·rename_i hu;rw [hu];exact ⟨fun _ _=>rfl,fun h=>by cases h⟩
  ·rename_i hu;rw [hu];exact ⟨fun _ _=>rfl,fun h=>by cases h⟩
  ·rename_i hu;rw [hu];exact ⟨fun _ _=>rfl,fun h=>by cases h⟩
  ·rename_i hu;rw [hu];exact ⟨fun h=>(by cases h),fun _ _=>rfl⟩
  ·rename_i hu;rw [hu];exact ⟨fun h=>(by cases h),fun _ _=>rfl⟩
  ·cases hk
 have map_int:∀ (k:IntKind) (l:List Int),VR ρ (.agg (l.map (AV.int k))) (.agg (l.map (Value.int k)).toArray):=fun k l=>by unfold VR;exact ⟨_,rfl,VRs.ints k l⟩
 cases hs:Az P t with
 | true =>
  rw [hs] at h
  exact hE W ρ x y [x] [y] [a] [b] (hsc.1 hs x) (hsc.1 hs y) ⟨x,[],rfl,hx,rfl⟩ ⟨y,[],rfl,hy,rfl⟩ h
 | false =>
  rw [hs] at h
  have key:∀ (l m:List AV) (us vs:List Value),x=.agg us.toArray → y=.agg vs.toArray → VRs ρ l us → VRs ρ m vs → (Ax std ks l m).1=true → (Op.equalIn (9900 + 100) t x y).run P W=.ok (Ax std ks l m).2 W:=by
   intro l m us vs e1 e2 h1 h2 h3
   subst e1;subst e2
   exact hE W ρ _ _ us vs l m (hsc.2 hs us) (hsc.2 hs vs) h1 h2 h3
  unfold B3 at h ⊢
  cases a <;> simp only [Bool.false_eq_true] at h
  case agg l =>
   obtain ⟨us,e1,hu⟩:=Lr hx
   cases b <;> simp only [Bool.false_eq_true] at h
   case agg m =>
    obtain ⟨vs,e2,hv⟩:=Lr hy
    exact key l m us vs e1 e2 hu hv h
   case ints k m =>
    exact key l _ us _ e1 (F7 hy) hu (VRs.ints k m) h
  case ints k l =>
   cases b <;> simp only [Bool.false_eq_true] at h
   case agg m =>
    obtain ⟨vs,e2,hv⟩:=Lr hy
    exact key _ m _ vs (F7 hx) e2 (VRs.ints k l) hv h
   case ints k' m =>
    simp only [std,Bool.and_eq_true,decide_eq_true_eq,Nat.beq_eq] at h
    obtain ⟨⟨⟨rfl,h1⟩,h2⟩,h3⟩:=h
    have hall:∀ (ks:List CK) (l m:List Int),ks.all CK.isInt=true → l.length=ks.length → m.length=ks.length → Ax std ks (l.map (AV.int k)) (m.map (AV.int k))=(true,decide (l=m)):=by
     intro ks
     induction ks with
     | nil=>intro l m _ h1 h2;rw [List.length_eq_zero_iff.1 h1,List.length_eq_zero_iff.1 h2];simp [Ax]
     | cons c ks ih =>
      intro l m hc h1 h2
      cases l with
      | nil=>simp at h1
      | cons p l =>
       cases m with
       | nil=>simp at h2
       | cons q m =>
        rw [List.all_cons,Bool.and_eq_true] at hc
        cases c <;> simp only [CK.isInt,Bool.false_eq_true,false_and] at hc
        simp only [List.map_cons,Ax,B5]
        rw [ih l m hc.2 (by simpa using h1) (by simpa using h2)]
        simp [std]
    have:=hall ks l m h1 h2 h3
    have hkey:=key _ _ _ _ (F7 hx) (F7 hy) (VRs.ints k l) (VRs.ints k m) (by rw [this])
    rw [hkey,this];rfl
end
end Go.Proofs.YtfdfdagbeeeomaaDoor.V2
namespace Go.Proofs.YtfdfdagbeeeomaaDoor.V2
open Go
section
variable {P:Program} {W:World} {ρ:Ren} {σ:AH} {a:Act} {rf:Operand → Ref} {ev:Ref → AV} {ao:AOp}
def plainV:Value → Bool
 | .int _ _=>false
 | .float _ _=>false
 | .complex _ _ _=>false
 | .string _=>false
 | _=>true
theorem bin_eql {t:TypeId} {x y:Value} (h:plainV x=true):binOp .eql t x y=(do pure (.bool (← Op.equal t x y))):=by
 cases x <;> first | (cases h;done) | (cases y <;> rfl)
theorem bin_neq {t:TypeId} {x y:Value} (h:plainV x=true):binOp .neq t x y=(do pure (.bool (!(← Op.equal t x y)))):=by
 cases x <;> first | (cases h;done) | (cases y <;> rfl)
theorem bin_any {neg:Bool} {op:BinOp} (hop:op=bif neg then .neq else .eql) {t:TypeId} {x y:Value} (h:plainV x=true) {b:Bool} (hb:(Op.equal t x y).run P W=.ok b W) :
  (binOp op t x y).run P W=.ok (.bool (bif neg then !b else b)) W:=by
 subst hop
 cases neg
 ·simp only [cond_false,bin_eql h,Sem.run_bind,hb,Result.andThen_ok,Sem.run_pure]
 ·simp only [cond_true,bin_neq h,Sem.run_bind,hb,Result.andThen_ok,Sem.run_pure]
theorem eqv_plain {k:EK} {ax ay:AV} {x:Value} (hx:VR ρ ax x) (hok:(eqvA std k ax ay).1=true):plainV x=true:=by
 unfold eqvA at hok
 split at hok
 case h_18=>cases hok
 all_goals first
  | (simp only [VR] at hx;subst hx;rfl)
  | (obtain ⟨_,_,_,rfl⟩:=Ff hx;rfl)
  | (obtain ⟨_,_,rfl,_⟩:=Ia hx;rfl)
  | (obtain ⟨_,_,_,rfl⟩:=Gh hx;rfl)
  | (obtain ⟨_,_,rfl,_⟩:=vr_fn hx;rfl)
  | (obtain ⟨_,rfl,_⟩:=vr_ifc hx;rfl)
theorem guard_agg {op:BinOp} {t:TypeId} {x y:Operand} {xs ys:Array Value} (hg:P.eqGuardType P.depth t=false):(eqGuard op t x y (.agg xs) (.agg ys)).run P W=.ok () W:=by
 unfold eqGuard
 by_cases h:(op matches .eql | .neq)=true
 ·cases op <;> simp at h <;> simp [hg]
 ·cases op <;> simp at h <;> rfl
theorem guard_const {op:BinOp} {t:TypeId} {x y:Operand} {vx vy:Value} (hc:(Fq x || Fq y)=true ∨ vx ≠ .nilIface) (hp:∀ xs,vx ≠ .agg xs):(eqGuard op t x y vx vy).run P W=.ok () W:=by
 unfold eqGuard
 by_cases h:(op matches .eql | .neq)=true
 ·cases vx
  case agg xs=>exact absurd rfl (hp xs)
  case nilIface =>
   cases vy
   case nilIface =>
    have hc:=hc.resolve_right (fun h=>h rfl)
    cases x <;> cases y <;> simp [Fq] at hc <;> cases op <;> simp at h <;> rfl
   all_goals (cases op <;> simp at h <;> rfl)
  all_goals (cases vy <;> cases op <;> simp at h <;> rfl)
 ·cases op <;> simp at h <;> rfl
theorem Bl {m:Sem Value} {v:Value} {W':World} (h:m.run P W=.ok v W'):(do let v ← m;pure (Next.value v):Sem Next).run P W=.ok (.value v) W':=by
 rw [Sem.run_bind,h];rfl
theorem Hd (hr:HR ρ σ W) {neg:Bool} {op:BinOp} (hop:op=bif neg then .neq else .eql) {k:EK} {t:TypeId} {x y:Operand} {vx vy:Value} {ax ay:AV} (hx:VR ρ ax vx) (hy:VR ρ ay vy) (ht:k.fits P t) (hc:k=.ifc → (Fq x || Fq y)=true) :
  Runs P (do let v ← (do eqGuard op t x y vx vy;binOp op t vx vy);pure (.value v)) W ρ σ ((Al std (.eqv neg k) [ax,ay]).1,(Al std (.eqv neg k) [ax,ay]).2,σ):=by
 intro hok
 have hok:(eqvA std k ax ay).1=true:=hok
 have h1:=eqv_run (P:=P) (W:=W) hx hy hok ht
 have hpl:=eqv_plain hx hok
 have hg:(eqGuard op t x y vx vy).run P W=.ok () W:=by
  refine guard_const ?_ ?_
  ·by_cases hk:k=.ifc
   ·exact .inl (hc hk)
   ·right
    rintro rfl
    unfold eqvA at hok
    split at hok <;> first | (exact hk rfl) | skip
    case h_18=>cases hok
    all_goals first
     | (simp only [VR] at hx;cases hx;done)
     | (obtain ⟨_,_,_,h⟩:=Ff hx;cases h;done)
     | (obtain ⟨_,_,h,_⟩:=Ia hx;cases h;done)
     | (obtain ⟨_,_,_,h⟩:=Gh hx;cases h;done)
     | (obtain ⟨_,_,h,_⟩:=vr_fn hx;cases h;done)
  ·rintro xs rfl
   unfold eqvA at hok
   split at hok
   case h_18=>cases hok
   all_goals first
     | (simp only [VR] at hx;cases hx;done)
     | (obtain ⟨_,_,_,h⟩:=Ff hx;cases h;done)
     | (obtain ⟨_,_,h,_⟩:=Ia hx;cases h;done)
     | (obtain ⟨_,_,_,h⟩:=Gh hx;cases h;done)
     | (obtain ⟨_,_,h,_⟩:=vr_fn hx;cases h;done)
     | (obtain ⟨_,h,_⟩:=vr_ifc hx;cases h;done)
 refine ⟨.value _,W,ρ,Bl (by rw [Sem.run_bind,hg,Result.andThen_ok];exact bin_any hop hpl h1),hr,Stp.refl (Nat.le_refl _),.inl ⟨_,rfl,?_⟩⟩
 show VR ρ (.bool _) _
 unfold VR;rfl
theorem eqF_runs (hr:HR ρ σ W) {neg:Bool} {op:BinOp} (hop:op=bif neg then .neq else .eql) {t:TypeId} {ks:List CK} {x y:Operand} {vx vy:Value} {ax ay:AV} (hx:VR ρ ax vx) (hy:VR ρ ay vy) (hk:Bm P 100 t=some ks) (hsc:Az P t=false) (hg:P.eqGuardType P.depth t=false) :
  Runs P (do let v ← (do eqGuard op t x y vx vy;binOp op t vx vy);pure (.value v)) W ρ σ ((Al std (.eqF neg ks) [ax,ay]).1,(Al std (.eqF neg ks) [ax,ay]).2,σ):=by
 intro hok
 have hok:(B3 std false ks ax ay).1=true:=hok
 have h1:=flatEq_run (P:=P) (W:=W) hk hx hy (by rw [hsc];exact hok)
 rw [hsc] at h1
 have hagg:∀ {a:AV} {v:Value},VR ρ a v → ((∃ l,a=.agg l) ∨ (∃ k l,a=.ints k l)) → ∃ xs,v=.agg xs:=by
  intro a v h ha
  rcases ha with ⟨l,rfl⟩ | ⟨k,l,rfl⟩
  ·obtain ⟨us,h,_⟩:=Lr h;exact ⟨_,h⟩
  ·exact ⟨_,F7 h⟩
 have hab:((∃ l,ax=.agg l) ∨ (∃ k l,ax=.ints k l)) ∧ ((∃ l,ay=.agg l) ∨ (∃ k l,ay=.ints k l)):=by
  unfold B3 at hok
  cases ax <;> simp only [Bool.false_eq_true] at hok <;> cases ay <;> simp only [Bool.false_eq_true] at hok
  ·exact ⟨.inl ⟨_,rfl⟩,.inl ⟨_,rfl⟩⟩
  ·exact ⟨.inl ⟨_,rfl⟩,.inr ⟨_,_,rfl⟩⟩
  ·exact ⟨.inr ⟨_,_,rfl⟩,.inl ⟨_,rfl⟩⟩
  ·exact ⟨.inr ⟨_,_,rfl⟩,.inr ⟨_,_,rfl⟩⟩
 obtain ⟨xs,rfl⟩:=hagg hx hab.1
 obtain ⟨ys,rfl⟩:=hagg hy hab.2
 refine ⟨.value _,W,ρ,Bl (by rw [Sem.run_bind,guard_agg hg,Result.andThen_ok];exact bin_any hop rfl h1),hr,Stp.refl (Nat.le_refl _),.inl ⟨_,rfl,?_⟩⟩
 show VR ρ (.bool _) _
 unfold VR;rfl
theorem Ld {neg:Bool} {op:BinOp} {t:TypeId} {x y:Operand} (hop:op=bif neg then .neq else .eql) (hc:Gp P rf neg op t x y=some ao) (hev:∀ x,VR ρ (ev (rf x)) (a.eval x)) (hr:HR ρ σ W) :
  Runs P (do let v ← (do eqGuard op t x y (a.eval x) (a.eval y);binOp op t (a.eval x) (a.eval y));pure (.value v)) W ρ σ (step std ev σ ao):=by
 unfold Gp at hc
 split at hc
 ·cases hc;exact sem_bin hr (hev x) (hev y)
 ·cases hc;exact sem_bin hr (hev x) (hev y)
 ·rename_i hu;cases hc;exact Hd (k:=.bool) hr hop (hev x) (hev y) hu (fun h=>by cases h)
 ·rename_i e hu
  split at hc
  ·rename_i i hi
   split at hc
   ·cases hc
   ·rename_i n hn
    cases hc;exact Hd (k:=.ptr) hr hop (hev x) (hev y) ⟨e,i,n,hu,hi,hn⟩ (fun h=>by cases h)
  ·cases hc
 ·rename_i e hu;cases hc;exact Hd (k:=.sl) hr hop (hev x) (hev y) ⟨e,hu⟩ (fun h=>by cases h)
 ·rename_i k e hu;cases hc;exact Hd (k:=.map) hr hop (hev x) (hev y) ⟨k,e,hu⟩ (fun h=>by cases h)
 ·rename_i p q r hu;cases hc;exact Hd (k:=.fn) hr hop (hev x) (hev y) ⟨p,q,r,hu⟩ (fun h=>by cases h)
 ·rename_i ms hu
  split at hc
  ·rename_i hk;cases hc;exact Hd (k:=.ifc) hr hop (hev x) (hev y) ⟨ms,hu⟩ (fun _=>hk)
  ·cases hc
 ·rename_i len e hu
  split at hc
  ·cases hc
  ·rename_i hg
   split at hc
   ·rename_i ks hk;cases hc;exact eqF_runs hr hop (hev x) (hev y) hk (by unfold Az;rw [hu]) hg
   ·cases hc
 ·rename_i fs hu
  split at hc
  ·cases hc
  ·rename_i hg
   split at hc
   ·rename_i ks hk;cases hc;exact eqF_runs hr hop (hev x) (hev y) hk (by unfold Az;rw [hu]) hg
   ·cases hc
 ·cases hc
end
end Go.Proofs.YtfdfdagbeeeomaaDoor.V2
namespace Go.Proofs.YtfdfdagbeeeomaaDoor.V2
open Go
section
variable {P:Program} {W:World} {ρ:Ren} {σ:AH} {a:Act} {rf:Operand → Ref} {ev:Ref → AV} {ao:AOp}
theorem fill_lay (place:Nat → Option (Nat × Nat)):∀ (parts:List (Nat × Value)) (spots:List (Nat × Nat)) (as':List AV) (cs:List AV) (cells:Array Value),VRs ρ cs cells.toList → VRs ρ as' (parts.map (·.2)) → parts.map (fun p=>place p.1)=spots.map some → (Hm cs spots as').1=true →
  ∃ cells',Instr.fill place cells parts=some cells' ∧ VRs ρ (Hm cs spots as').2 cells'.toList
 | [],spots,as',cs,cells,hc,ha,hp,_=>by
  have h1:spots=[]:=by simpa using hp.symm
  have h2:as'=[]:=by have:=ha.length;simpa using this.symm
  subst h1;subst h2
  exact ⟨cells,rfl,hc⟩
 | (i,v) :: parts,[],as',cs,cells,hc,ha,hp,_=>by simp at hp
 | (i,v) :: parts,p :: spots,[],cs,cells,hc,ha,hp,_=>by have:=ha.length;simp at this
 | (i,v) :: parts,p :: spots,b :: as',cs,cells,hc,ha,hp,hok=>by
  obtain ⟨v',m',e,hv,hm⟩:=ha
  simp only [List.map_cons,List.cons.injEq] at e
  obtain ⟨e1,e2⟩:=e
  subst e1;subst e2
  simp only [List.map_cons,List.cons.injEq] at hp
  obtain ⟨hp1,hp2⟩:=hp
  unfold Hm at hok ⊢
  cases hb:(b.known && Nat.beq b.cells.length p.2 && Nat.ble (p.1 + p.2) cs.length) with
  | false=>rw [hb] at hok;cases hok
  | true =>
   rw [hb] at hok
   simp only at hok ⊢
   simp only [Bool.and_eq_true,Nat.beq_eq,Nat.ble_eq] at hb
   obtain ⟨⟨hk,hl⟩,hle⟩:=hb
   have hvc:=hv.cells hk
   have hvl:=hvc.length
   have hvs:v.cells.size=p.2:=by rw [← hl,← hvl];rfl
   have hcl:=hc.length
   have hcs:cells.size=cs.length:=by rw [← hcl];rfl
   unfold Instr.fill
   simp only [hp1]
   rw [if_neg (by rw [hvs];simp;omega)]
   have e1:Array.foldl (fun cs (x:Value × Nat)=>match x with | (c,j)=>cs.setIfInBounds (p.1 + j) c) cells v.cells.zipIdx=Gj cells p.1 v.cells.toList:=by
    rw [← Array.foldl_toList,Array.toList_zipIdx]
    exact Mj p.1 v.cells.toList 0 cells
   rw [e1]
   refine fill_lay place parts spots as' _ _ ?_ hm hp2 hok
   refine VRs.of _ _ ?_ fun j x hj=>?_
   ·rw [Array.length_toList,De,hcs,← hl]
    exact (Ek cs b.cells p.1 (by omega)).symm
   ·rw [← hl,Iw cs b.cells p.1 (by omega)] at hj
    rw [Array.getElem?_toList,Ku _ _ _ (by rw [hvl];omega),hvl]
    by_cases hr:p.1 ≤ j ∧ j < p.1 + b.cells.length
    ·rw [if_pos hr] at hj ⊢;exact hvc.at _ _ hj
    ·rw [if_neg hr] at hj ⊢
     obtain ⟨u,hu,hur⟩:=hc.at _ _ hj
     exact ⟨u,by rwa [Array.getElem?_toList] at hu,hur⟩
theorem places_run:∀ (fs:List Field),(fs.all fun f=>(P.info? f.type).isSome)=true →
  (fs.mapM (fun f=>do pure (f.offset,← sizeOf f.type):Field → Sem (Nat × Nat))).run P W=.ok (fs.map fun f=>(f.offset,((P.info? f.type).map (·.size)).getD 0)) W
 | [],_=>rfl
 | f :: fs,h=>by
  rw [List.all_cons,Bool.and_eq_true] at h
  obtain ⟨i,hi⟩:=Option.isSome_iff_exists.1 h.1
  rw [List.mapM_cons]
  simp only [Sem.run_bind,B7 hi,Result.andThen_ok,Sem.run_pure,places_run fs h.2,List.map_cons,hi,Option.map_some,Option.getD_some]
theorem spotsS_map {fs:Array Field}:∀ (parts:List (Nat × Operand)) (spots:List (Nat × Nat)),spotsS P fs parts=some spots →
  parts.map (fun p=>((fs.toList.map fun f=>(f.offset,((P.info? f.type).map (·.size)).getD 0)).toArray)[p.1]?)=spots.map some
 | [],spots,h=>by cases h;rfl
 | p :: parts,spots,h=>by
  unfold spotsS at h
  split at h
  ·rename_i fd hf
   split at h
   ·rename_i j hj
    split at h
    ·rename_i r hr
     cases h
     rw [List.map_cons,List.map_cons,spotsS_map parts r hr]
     congr 1
     have hf':fs.toList[p.1]?=some fd:=by rwa [Array.getElem?_toList]
     simp [hf',hj]
    ·cases h
   ·cases h
  ·cases h
theorem map_parts (a:Act) (parts:Array (Nat × Operand)):(parts.map fun (i,x)=>(i,a.eval x)).toList=parts.toList.map fun p=>(p.1,a.eval p.2):=by
 rw [Array.toList_map]
theorem Lq (hev:∀ x,VR ρ (ev (rf x)) (a.eval x)):∀ l:List (Nat × Operand),VRs ρ ((l.map fun p=>rf p.2).map ev) ((l.map fun p=>(p.1,a.eval p.2)).map (·.2))
 | []=>rfl
 | p :: l=>⟨_,_,rfl,hev p.2,Lq hev l⟩
theorem compBuild_sound {t:TypeId} {parts:Array (Nat × Operand)} (hc:Dh P rf t parts.toList=some ao) (hev:∀ x,VR ρ (ev (rf x)) (a.eval x)) (hr:HR ρ σ W) :
  Runs P (do let v ← Instr.build t (parts.map fun (i,x)=>(i,a.eval x));pure (.value v)) W ρ σ (step std ev σ ao):=by
 unfold Dh at hc
 split at hc
 case h_2=>cases hc
 rename_i i hi
 split at hc
 case h_2=>cases hc
 rename_i z hz
 have hzero:∀ W:World,(zeroValue t).run P W=.ok z W:=fun W=>by simp [zeroValue,typeInfo,hi,hz]
 have hzc:=D8 ρ z.cells.toList
 split at hc
 ·rename_i fs hu
  split at hc
  case h_2=>cases hc
  rename_i hall
  split at hc
  case h_2=>cases hc
  rename_i spots hspots
  cases hc
  intro hok
  have hok:(Hm (z.cells.toList.map C0) spots ((parts.toList.map fun p=>rf p.2).map ev)).1=true:=hok
  have hsp:=spotsS_map (P:=P) parts.toList spots hspots
  obtain ⟨cells',h1,h2⟩:=fill_lay (ρ:=ρ) (fun k=>((fs.toList.map fun f=>(f.offset,((P.info? f.type).map (·.size)).getD 0)).toArray)[k]?) (parts.toList.map fun p=>(p.1,a.eval p.2)) spots _ _ z.cells hzc (Lq hev _) (by rw [List.map_map];exact hsp) hok
  refine ⟨.value (.agg cells'),W,ρ,Bl ?_,hr,Stp.refl (Nat.le_refl _),.inl ⟨_,rfl,Gx (us:=cells'.toList) h2⟩⟩
  unfold Instr.build
  simp only [Sem.run_bind,hzero,Result.andThen_ok,run_underlying hu]
  rw [Array.mapM_eq_mapM_toList,Sem.run_map,places_run fs.toList hall]
  simp only [Result.andThen_ok,map_parts,h1,Sem.run_pure]
 ·rename_i len e hu
  split at hc
  case h_2=>cases hc
  rename_i j hj
  cases hc
  intro hok
  have hok:(Hm (z.cells.toList.map C0) (parts.toList.map fun p=>(p.1 * j.size,j.size)) ((parts.toList.map fun p=>rf p.2).map ev)).1=true:=hok
  obtain ⟨cells',h1,h2⟩:=fill_lay (ρ:=ρ) (fun k=>some (k * j.size,j.size)) (parts.toList.map fun p=>(p.1,a.eval p.2)) (parts.toList.map fun p=>(p.1 * j.size,j.size)) _ _ z.cells hzc (Lq hev _) (by rw [List.map_map,List.map_map];rfl) hok
  refine ⟨.value (.agg cells'),W,ρ,Bl ?_,hr,Stp.refl (Nat.le_refl _),.inl ⟨_,rfl,Gx (us:=cells'.toList) h2⟩⟩
  unfold Instr.build
  simp only [Sem.run_bind,hzero,Result.andThen_ok,run_underlying hu,B7 hj,map_parts,h1,Sem.run_pure]
 ·cases hc
end
end Go.Proofs.YtfdfdagbeeeomaaDoor.V2
namespace Go.Proofs.YtfdfdagbeeeomaaDoor.V2
open Go
section
variable {P:Program} {W:World} {ρ:Ren} {σ:AH} {a:Act} {rf:Operand → Ref} {ev:Ref → AV} {ao:AOp}
theorem H9 {k:IntKind}:∀ {l:List Int} {vs:List Value},VRs ρ (l.map (AV.int k)) vs → vs=l.map (Value.int k)
 | [],_,h=>h
 | n :: l,_,⟨v,m,e,hv,hm⟩=>by
  simp only [VR] at hv
  rw [e,hv,H9 hm];rfl
theorem push_all:∀ (ns:List Int) (acc:List UInt8),ns.foldl (fun r n=>r.push (UInt8.ofNat n.toNat)) (⟨acc.toArray⟩:ByteArray)=⟨(acc ++ ns.map fun n=>UInt8.ofNat n.toNat).toArray⟩
 | [],acc=>by simp
 | n :: ns,acc=>by
  rw [List.foldl_cons]
  have e:(⟨acc.toArray⟩:ByteArray).push (UInt8.ofNat n.toNat)=⟨(acc ++ [UInt8.ofNat n.toNat]).toArray⟩:=by simp [ByteArray.push]
  rw [e,push_all ns];simp
theorem sl2str_run (hr:HR ρ σ W) {s e:TypeId} {x:Value} {ax:AV} (hs:P.underlying s=some (.slice e)) (hx:VR ρ ax x) (hok:(Bn std σ .sl2str [ax]).1=true) :
  ∃ v,(Conv.bytesToString x).run P W=.ok v W ∧ VR ρ (Bn std σ .sl2str [ax]).2 v:=by
 have hS:=fun h=>Ky (P:=P) (size:=1) (tx:=s) (str:=false) hr hx h (.inr ⟨rfl,e,hs⟩)
 simp only [Bn] at hok ⊢
 generalize hrow:Br std false 1 σ ax=row at hok hS ⊢
 obtain ⟨ok,n,r⟩:=row
 have hok1:ok=true:=by
  cases r with
  | ints k l=>simp only [Bool.and_eq_true] at hok;exact hok.1
  | cells l=>cases l <;> first | exact hok | cases hok
 obtain ⟨cs,h1,h2,h3⟩:=hS hok1
 have hcl:=h1.newsLen
 rw [Nat.mul_one] at hcl
 have key:∀ ns:List Int,cs=ns.map (Value.int .u8) → (Conv.bytesToString x).run P W=.ok (.string ⟨(ns.map fun n=>UInt8.ofNat n.toNat).toArray⟩) W:=by
  intro ns hns
  rcases h3 rfl with ⟨rfl,hn⟩ | ⟨ad,c,rfl,hc⟩
  ·have hn:n=0:=hn
   rw [hn] at hcl
   have:ns=[]:=by have:=congrArg List.length hns;rw [hcl] at this;simpa using this.symm
   subst this
   rfl
  ·have hl:=run_loadCells_list (P:=P) W ad cs hc
   rw [hcl] at hl
   rw [run_bytesToString W ad n c ns (by rw [hl,hns])]
   have:=push_all ns []
   simp only [List.nil_append] at this
   rw [← this];rfl
 cases r with
 | ints k l =>
  simp only [Bool.and_eq_true,decide_eq_true_eq] at hok
  obtain ⟨_,rfl⟩:=hok
  have hcs:cs=l.map (Value.int .u8):=H9 h2
  exact ⟨_,key l hcs,by show VR ρ (.str _) _;unfold VR;rfl⟩
 | cells l =>
  cases l with
  | nil =>
   have hcs:cs=[]:=h2
   exact ⟨_,key [] (by rw [hcs];rfl),by show VR ρ (.str _) _;unfold VR;rfl⟩
  | cons b l=>cases hok
theorem freeze_new {W:World} {c:Array Value} {e:TypeId} {n:Nat}:(({ W with heap:=W.heap.push (.cells c e),drawn:=n }:World).freeze ⟨W.heap.size,c.size,none⟩ 1)={ W with heap:=W.heap.push (.cells c e (c.size,c.size + 1)),drawn:=n }:=by
 unfold World.freeze
 rw [if_neg (by decide)]
 have:(W.heap.push (.cells c e)).modify W.heap.size (fun | .cells c' elem (lo,hi)=>.cells c' elem (if lo == hi then (c.size,c.size + 1) else (min lo c.size,max hi (c.size + 1))) | o=>o)=W.heap.push (.cells c e (c.size,c.size + 1)):=by
  apply Array.ext_getElem?
  intro i
  rw [Array.getElem?_modify]
  by_cases hi:W.heap.size=i
  ·subst hi;simp
  ·rw [if_neg hi,Array.getElem?_push,Array.getElem?_push]
   simp [Ne.symm hi]
 exact congrArg (fun h=>({ W with heap:=h,drawn:=n }:World)) this
theorem str2sl_run {e:TypeId} (l:List UInt8) (W:World):∃ cap,l.length ≤ cap ∧ (Conv.stringToBytes e ⟨l.toArray⟩).run P W=.ok (.slice (some ⟨W.heap.size,0,none⟩) l.length cap)
  { W with heap:=W.heap.push (.cells ((l.map fun (b:UInt8)=>Value.int .u8 ((b.toNat:Nat):Int)).toArray ++ Array.replicate (cap - l.length) (Value.int .u8 0)) e (cap,cap + 1)),drawn:=W.drawn + 1 }:=by
 have hcap:=Nat.le_add_right l.length (W.tape W.drawn (.appendCap l.length 0 e) % (2 ^ 63 - l.length))
 obtain ⟨cap,hc⟩:∃ cap,cap=(Question.appendCap l.length 0 e).cut (W.tape W.drawn (.appendCap l.length 0 e)):=⟨_,rfl⟩
 have hle:l.length ≤ cap:=by rw [hc];exact hcap
 refine ⟨cap,hle,?_⟩
 have hmap:(⟨l.toArray⟩:ByteArray).data.map (fun (b:UInt8)=>Value.int .u8 ((b.toNat:Nat):Int))=(l.map fun (b:UInt8)=>Value.int .u8 ((b.toNat:Nat):Int)).toArray:=by simp
 have hsz:((l.map fun (b:UInt8)=>Value.int .u8 ((b.toNat:Nat):Int)).toArray ++ Array.replicate (cap - l.length) (Value.int .u8 0)).size=cap:=by simp;omega
 unfold Conv.stringToBytes
 rw [Sem.run_bind,run_choose]
 have hf:(Question.appendCap l.length 0 e).forced=false:=rfl
 have hq:(⟨l.toArray⟩:ByteArray).size=l.length:=rfl
 rw [hq,hf]
 simp only [Bool.false_eq_true,if_false,Result.andThen_ok,← hc]
 rw [hmap]
 simp only [newRow,Sem.run_bind,run_newObj,Result.andThen_ok,Sem.run_pure]
 unfold markStringish
 have hsh:∀ (c:Array Value) (n:Nat),(shape W.heap.size).run P { W with heap:=W.heap.push (.cells c e),drawn:=n }=.ok (some (e,c.size)) { W with heap:=W.heap.push (.cells c e),drawn:=n }:=fun c n=>by
  simp [shape,Sem.run,World.shape?]
 simp only [Sem.run_bind,hsh,Result.andThen_ok]
 have hfr:∀ (c:Array Value) (n:Nat),(freeze ⟨W.heap.size,c.size,none⟩ 1).run P { W with heap:=W.heap.push (.cells c e),drawn:=n }=.ok () { W with heap:=W.heap.push (.cells c e (c.size,c.size + 1)),drawn:=n }:=fun c n=>by
  show Sem.run P (.freeze ⟨W.heap.size,c.size,none⟩ 1 (.pure ())) _=_
  simp only [Sem.run]
  rw [freeze_new]
 rw [hfr,Result.andThen_ok,hsz]
theorem Kr {s d e:TypeId} {x:Operand} (hs:P.underlying s=some .string) (hd:P.underlying d=some (.slice e)) (he:P.underlying e=some (.int .u8)) (hev:∀ x,VR ρ (ev (rf x)) (a.eval x)) :
  Makes P (do let v ← convert s d (a.eval x);pure (.value v)) W ρ (Bt std (.str2sl e) ([rf x].map ev)):=by
 intro hok
 have hx:=hev x
 simp only [List.map_cons,List.map_nil,Bt] at hok ⊢
 cases hax:ev (rf x) <;> rw [hax] at hok hx <;> try (cases hok;done)
 rename_i l
 simp only [VR] at hx
 obtain ⟨cap,hle,hrun⟩:=str2sl_run (P:=P) (e:=e) l W
 refine ⟨_,_,_,cap,Bl (by rw [hx];simp only [convert,Sem.run_bind,run_underlying hs,run_underlying hd,Result.andThen_ok,run_underlying he];exact hrun),?_,?_⟩
 ·have hsz:((l.map fun (b:UInt8)=>Value.int .u8 ((b.toNat:Nat):Int)).toArray ++ Array.replicate (cap - l.length) (Value.int .u8 0)).size=cap:=by simp;omega
  refine OR.mk' rfl ⟨_,e,(cap,cap + 1),rfl,fun _=>⟨rfl,.inr (Nat.le_of_eq hsz),hsz⟩,?_,?_,fun i v hi=>?_⟩
  ·show (List.map _ l).length + 0 ≤ _;rw [hsz];simpa using hle
  ·show (List.map _ l).length + 0 ≤ cap;simpa using hle
  ·simp only [AObj.at,std,List.getElem?_map,Option.map_map] at hi
   cases hl:l[i]? with
   | none=>rw [hl] at hi;cases hi
   | some b =>
    rw [hl] at hi
    simp only [Option.map_some,Function.comp,Option.some.injEq] at hi
    have hlt:=(List.getElem?_eq_some_iff.1 hl).1
    refine ⟨.int .u8 (b.toNat:Nat),?_,by rw [← hi];unfold VR;rfl⟩
    rw [Nat.add_zero,Array.getElem?_append_left (by simpa using hlt)]
    simp [hl]
 ·intro ρ' b hb
  show VR ρ' (.sl b 0 l.length l.length false 1) _
  unfold VR
  exact .inl ⟨_,_,0,cap,hb,rfl,fun _=>rfl,Nat.le_refl _,hle,fun h=>(by cases h),by show 0 + cap * 1 ≤ cap;omega⟩
theorem makeMap_makes {t k e:TypeId} {r:Option Operand} (ht:P.underlying t=some (.map k e)) (hev:∀ x,VR ρ (ev (rf x)) (a.eval x)) :
  Makes P (do let v ← Instr.makeMap t (r.map a.eval);pure (.value v)) W ρ (Bt std .makeMap ((r.toList.map rf).map ev)):=by
 intro hok
 have key:(Instr.makeMap t (r.map a.eval)).run P W=.ok (.map (some W.heap.size)) { W with heap:=W.heap.push (.map #[] 0) } ∧ ∃ f:Nat → AV,(Bt std .makeMap ((r.toList.map rf).map ev)).2=(fun b=>.map b,.map []):=by
  cases r with
  | none=>exact ⟨by simp [Instr.makeMap],fun b=>.map b,rfl⟩
  | some x =>
   have hx:=hev x
   simp only [Option.toList_some,List.map_cons,List.map_nil,Bt] at hok ⊢
   cases hax:ev (rf x) <;> rw [hax] at hok hx <;> try (cases hok;done)
   simp only [VR] at hx
   refine ⟨?_,fun b=>.map b,rfl⟩
   simp [Instr.makeMap,Sem.run_bind,run_underlying ht,hx,asInt,asIntOf]
 obtain ⟨h1,_,h2⟩:=key
 rw [h2]
 refine ⟨_,_,W.drawn,0,Bl h1,⟨fun h=>(by cases h),fun l hl=>?_⟩,fun ρ' b hb=>?_⟩
 ·cases hl;exact ⟨#[],0,rfl,rfl,List.Pairwise.nil,fun e he=>by simp at he⟩
 ·show VR ρ' (.map b) _;unfold VR;exact ⟨_,_,hb,rfl⟩
theorem flatten_rep_at {α:Type} (z:List α) (n i:Nat) (h:i < n * z.length):((List.replicate n z).flatten)[i]?=z[i % z.length]?:=by
 induction n generalizing i with
 | zero=>omega
 | succ n ih =>
  rw [List.replicate_succ,List.flatten_cons,List.getElem?_append]
  split
  ·rename_i hi;rw [Nat.mod_eq_of_lt hi]
  ·rename_i hi
   rw [ih (i - z.length) (by rw [Nat.add_mul,Nat.one_mul] at h;omega)]
   congr 1
   exact (Nat.mod_eq_sub_mod (by omega)).symm
theorem newCells_spec (n:Nat) (e:TypeId) (zero:List AV):(C8 std n e zero).cellsy=true ∧ (C8 std n e zero).len=n * zero.length ∧ (C8 std n e zero).elem=e ∧ (C8 std n e zero).isRo=false ∧ ∀ i v,(C8 std n e zero).at i=some v → i < n * zero.length ∧ zero[i % zero.length]?=some v:=by
 have gen:∀ z:List AV,(AObj.cells ((List.replicate n z).flatten) e .exact).cellsy=true ∧ (AObj.cells ((List.replicate n z).flatten) e .exact).len=n * z.length ∧ (AObj.cells ((List.replicate n z).flatten) e .exact).elem=e ∧ (AObj.cells ((List.replicate n z).flatten) e .exact).isRo=false ∧ ∀ i v,(AObj.cells ((List.replicate n z).flatten) e .exact).at i=some v → i < n * z.length ∧ z[i % z.length]?=some v:=fun z=>by
  have hl:((List.replicate n z).flatten).length=n * z.length:=by simp
  refine ⟨rfl,hl,rfl,rfl,fun i v hi=>?_⟩
  have hlt:i < n * z.length:=by rw [← hl];exact (List.getElem?_eq_some_iff.1 hi).1
  exact ⟨hlt,by rw [← flatten_rep_at z n i hlt];exact hi⟩
 unfold C8
 split
 ·rename_i k z
  cases hz:std.eq z 0 with
  | true =>
   have hz0:z=0:=of_decide_eq_true hz
   subst hz0
   refine ⟨rfl,by simp [AObj.len,std],rfl,rfl,fun i v hi=>?_⟩
   have hi:((List.replicate n (0:Int))[i]?).map (AV.int k)=some v:=hi
   cases hr:(List.replicate n (0:Int))[i]? with
   | none=>rw [hr] at hi;cases hi
   | some w =>
    rw [hr] at hi
    have hlt:=(List.getElem?_eq_some_iff.1 hr).1
    rw [List.length_replicate] at hlt
    have:w=0:=by rw [List.getElem?_replicate,if_pos hlt] at hr;exact (Option.some.inj hr).symm
    subst this
    simp only [Option.map_some,Option.some.injEq] at hi
    refine ⟨by simpa using hlt,?_⟩
    simp [Nat.mod_one,hi]
  | false =>
   have:=gen [.int k z]
   simp only [cond_false]
   have e1:(List.replicate n [AV.int k z]).flatten=List.replicate n (AV.int k z):=by
    clear this gen
    induction n with
    | zero=>rfl
    | succ n ih=>rw [List.replicate_succ,List.flatten_cons,ih,List.replicate_succ];rfl
   rw [e1] at this
   exact this
 ·exact gen _
theorem makeSl_makes {t e:TypeId} {i:TypeInfo} {z:Value} {x y:Operand} (ht:P.underlying t=some (.slice e)) (hi:P.info? e=some i) (hz:i.zero=some z) (hb:(Nat.beq z.cells.size i.size && Nat.ble i.bytes 1024)=true) (hev:∀ x,VR ρ (ev (rf x)) (a.eval x)) :
  Makes P (do let v ← Instr.makeSlice t (a.eval x) (a.eval y);pure (.value v)) W ρ (Bt std (.makeSl e i.size (z.cells.toList.map C0)) ([rf x,rf y].map ev)):=by
 rw [Bool.and_eq_true,Nat.beq_eq,Nat.ble_eq] at hb
 intro hok
 have hx:=hev x
 have hy:=hev y
 simp only [List.map_cons,List.map_nil,Bt] at hok ⊢
 cases hax:ev (rf x) <;> rw [hax] at hok hx <;> try (cases hok;done)
 cases hay:ev (rf y) <;> rw [hay] at hok hy <;> try (cases hok;done)
 rename_i k1 n k2 c
 simp only [VR] at hx hy
 have hok:(std.le 0 n && std.le n c && std.leN (std.ton c) 1000000)=true:=hok
 simp only [std,Bool.and_eq_true,decide_eq_true_eq,Nat.ble_eq] at hok
 obtain ⟨⟨h0,h1⟩,h2⟩:=hok
 obtain ⟨N,rfl⟩:∃ N:Nat,n=N:=⟨n.toNat,by omega⟩
 obtain ⟨C,rfl⟩:∃ C:Nat,c=C:=⟨c.toNat,by omega⟩
 simp only [Int.toNat_natCast] at h2
 have hNC:N ≤ C:=by omega
 have hbytes:C * i.bytes ≤ 1000000 * 1024:=Nat.mul_le_mul h2 hb.2
 obtain ⟨s1,s2,s3,s4,s5⟩:=newCells_spec C e (z.cells.toList.map C0)
 have hzl:(z.cells.toList.map C0).length=i.size:=by rw [List.length_map];exact hb.1
 rw [hzl] at s2 s5
 have hbI:(i.bytes:Int) * C ≤ 281474976710656:=by
  have e1:((C * i.bytes:Nat):Int)=(i.bytes:Int) * C:=by rw [Int.natCast_mul,Int.mul_comm]
  omega
 have hrun:=run_make (P:=P) W t e i z ht hi hz k1 k2 N C (by omega) h1 hbI (by omega)
 simp only [Int.toNat_natCast] at hrun
 refine ⟨_,_,W.drawn,C * i.size,Bl (by rw [hx,hy];exact hrun),?_,?_⟩
 ·refine OR.mk' s1 ⟨_,e,(0,0),rfl,fun _=>⟨s3.symm,.inl rfl,by simp [madeCells]⟩,?_,?_,fun j v hj=>?_⟩
  ·show (C8 std C e _).len + 0 ≤ _;rw [s2];simp [madeCells]
  ·show (C8 std C e _).len + 0 ≤ _;rw [s2];exact Nat.le_refl _
  ·obtain ⟨hlt,hv⟩:=s5 j v hj
   have hne:C * i.size ≠ 0:=by omega
   rw [List.getElem?_map] at hv
   have hzj:∃ u,z.cells[j % i.size]?=some u ∧ C0 u=v:=by
    cases hc:z.cells.toList[j % i.size]? with
    | none=>rw [hc] at hv;cases hv
    | some u=>rw [hc] at hv;exact ⟨u,by rwa [Array.getElem?_toList] at hc,by simpa using hv⟩
   obtain ⟨u,hu,hv'⟩:=hzj
   refine ⟨u,?_,by rw [← hv'];exact Iu ρ u⟩
   unfold madeCells
   rw [hb.1,Nat.add_zero,Array.getElem?_map]
   have hr:(Array.range (C * i.size))[j]?=some j:=by simp [hlt]
   rw [hr]
   simp only [Option.map_some]
   have hjl:j % i.size < z.cells.size:=(Array.getElem?_eq_some_iff.1 hu).1
   rw [getElem!_pos z.cells _ hjl]
   rw [Array.getElem?_eq_getElem hjl] at hu
   exact hu
 ·intro ρ' b hb'
  show VR ρ' (.sl b 0 (Int.toNat N) (Int.toNat C) true i.size) _
  simp only [Int.toNat_natCast]
  unfold VR
  exact .inl ⟨_,_,0,C,hb',rfl,fun _=>rfl,hNC,Nat.le_refl _,fun _=>rfl,by show 0 + C * i.size ≤ C * i.size;omega⟩
theorem first_run (hr:HR ρ σ W) {str:Bool} {size:Nat} {ax:AV} {x:Value} (hx:VR ρ ax x) (hok:(Br std str size σ ax).1=true) {tx:TypeId} (ht:(str=true ∧ P.underlying tx=some .string) ∨ (str=false ∧ ∃ e',P.underlying tx=some (.slice e'))) {n:Nat} (hn:n ≤ (Br std str size σ ax).2.1) :
  (Builtin.lenOf x).run P W=.ok (Br std str size σ ax).2.1 W ∧ ∃ cs:List Value,(Builtin.firstCells size n x).run P W=.ok cs.toArray W ∧ VRs ρ ((Br std str size σ ax).2.2.list.take (n * size)) cs:=by
 obtain ⟨cs,h1,h2,h3⟩:=Ky (P:=P) hr hx hok ht
 refine ⟨h1.len W,cs.take (n * size),?_,h2.take _⟩
 have hcl:=h1.newsLen
 have hle:n * size ≤ cs.length:=by rw [hcl];exact Nat.mul_le_mul_right _ hn
 rcases ht with ⟨rfl,hs⟩ | ⟨rfl,e',hs⟩
 ·cases ax <;> simp only [Br,Bool.not_true,Bool.false_and,Bool.false_eq_true] at hok <;> first | (cases hok;done) | skip
  case sl b o k c e z =>
   exfalso
   cases hob:σ.get b with
   | none=>rw [hob] at hok;cases hok
   | some ob=>rw [hob] at hok;cases ob <;> simp at hok
  case str l =>
   simp only [VR] at hx
   subst hx
   have hsz:size=1:=by simpa using hok
   subst hsz
   have hc:=h1.cells
   have hnl:(Br std true 1 σ (.str l)).2.1=l.length:=rfl
   have hcs:cs=l.map fun (b:UInt8)=>Value.int .u8 ((b.toNat:Nat):Int):=by
    rw [hnl] at hc
    simp only [Builtin.firstCells,Kg] at hc
    have:(((l.drop 0).take (l.length - 0)).toArray.map fun (b:UInt8)=>Value.int .u8 ((b.toNat:Nat):Int))=cs.toArray:=by
     injection hc
    simpa using this.symm
   show (pure (((⟨l.toArray⟩:ByteArray).extract 0 n).data.map fun b=>Value.int .u8 b.toNat):Sem (Array Value)).run P W=_
   rw [Kg,hcs]
   show Result.ok _ W=_
   congr 1
   simp [List.map_take]
 ·rcases h3 rfl with ⟨rfl,hz⟩ | ⟨ad,c,rfl,hc⟩
  ·have:n=0:=by omega
   subst this
   show Result.ok _ W=_
   simp
  ·have hl:=run_loadCells_list (P:=P) W ad (cs.take (n * size)) (fun j v hj=>hc j v (by
    rw [List.getElem?_take] at hj
    split at hj
    ·exact hj
    ·cases hj))
   rw [List.length_take,Nat.min_eq_left hle] at hl
   exact hl
theorem piece_vr {r:Row} {n:Nat} {cs:List Value} (h:VRs ρ (r.list.take n) cs):VR ρ (L6 std n r) (.agg cs.toArray):=by
 cases r with
 | ints k l =>
  show VR ρ (.ints k ((l.drop 0).take n)) _
  rw [List.drop_zero]
  unfold VR
  have h:VRs ρ ((l.map (AV.int k)).take n) cs:=h
  rw [← List.map_take] at h
  rw [H9 h]
 | cells l=>exact Gx h
theorem copy_run (hr:HR ρ σ W) {t e tx ty:TypeId} {i:TypeInfo} {str:Bool} (ht:P.underlying t=some (.slice e)) (hi:P.info? e=some i) (htx:(str=true ∧ P.underlying tx=some .string) ∨ (str=false ∧ ∃ e',P.underlying tx=some (.slice e')))
  {x y:Value} {ax ay:AV} (hx:VR ρ ax x) (hy:VR ρ ay y):Runs P (do let v ← Builtin.copy_ #[t,tx] ty #[x,y];pure (.value v)) W ρ σ (Bb std σ (.copy i.size str) [ax,ay]):=by
 intro hok
 simp only [Bb] at hok ⊢
 cases ax <;> try (cases hok;done)
 case nilsl =>
  simp only [VR] at hx
  subst hx
  simp only at hok ⊢
  obtain ⟨h1,cs,h2,h3⟩:=first_run (P:=P) (n:=0) hr hy hok htx (Nat.zero_le _)
  refine ⟨.value (.int .i64 0),W,ρ,Bl ?_,hr,Stp.refl (Nat.le_refl _),.inl ⟨_,rfl,by show VR ρ (.int .i64 0) _;unfold VR;rfl⟩⟩
  simp only [Builtin.copy_]
  simp [Sem.run_bind,run_underlying ht,h1,B7 hi,h2,goInt]
 case sl b o n k ex z =>
  simp only at hok ⊢
  have hF:=fun c h (hc:c ≤ (Br std str i.size σ ay).2.1)=>first_run (P:=P) (n:=c) hr hy h htx hc
  generalize Br std str i.size σ ay=row at hok hF ⊢
  obtain ⟨ok,m,r⟩:=row
  simp only at hok hF ⊢
  obtain ⟨cnt,hcnt⟩:∃ cnt,cnt=(bif std.leN m n then m else n):=⟨_,rfl⟩
  have hmin:cnt=Nat.min m n:=by
   rw [hcnt]
   show (bif Nat.ble m n then m else n)=_
   cases h:Nat.ble m n with
   | true=>rw [Nat.ble_eq] at h;exact (Nat.min_eq_left h).symm
   | false=>have:¬ m ≤ n:=fun h'=>by rw [Nat.ble_eq_true_of_le h'] at h;cases h
            show n=Nat.min m n
            exact (Nat.min_eq_right (by omega)).symm
  rw [← hcnt] at hok ⊢
  have hcm:cnt ≤ m:=by rw [hmin];exact Nat.min_le_left _ _
  have hcn:cnt ≤ n:=by rw [hmin];exact Nat.min_le_right _ _
  rcases vr_sl hx with ⟨c,d,o',k',hb,rfl,ho,hnk,hkk,_,hlim⟩ | ⟨rfl,_,_,_,pp,rfl⟩
  rotate_left
  ·have h0:cnt=0:=by omega
   unfold cpyA at hok ⊢
   have hz:std.eqN cnt 0=true:=by rw [h0];rfl
   rw [hz] at hok
   rw [hz]
   simp only [cond_true,Bool.and_eq_true] at hok ⊢
   obtain ⟨h1,cs,h2,h3⟩:=hF cnt hok.1 hcm
   have hcs:cs=[]:=by have:=h3.length;rw [h0] at this;simpa using this
   subst hcs
   rw [hmin] at h2
   refine ⟨.value (.int .i64 cnt),W,ρ,Bl ?_,hr,Stp.refl (Nat.le_refl _),.inl ⟨_,rfl,?_⟩⟩
   ·simp only [Builtin.copy_]
    simp only [List.getElem?_toArray,List.getElem?_cons_zero,List.getElem?_cons_succ,Sem.run_bind,run_underlying ht,Result.andThen_ok,h1,B7 hi,h2,Sem.run_pure,goInt,hmin]
    rfl
   rw [h0]
   show VR ρ (.int .i64 0) _;unfold VR;rfl
  have hcopy:∀ cs:List Value,(Builtin.lenOf y).run P W=.ok m W → (Builtin.firstCells i.size cnt y).run P W=.ok cs.toArray W → ∀ W',(storeCells ⟨c,o',none⟩ cs).run P W=.ok () W' → (Builtin.copy_ #[t,tx] ty #[.slice (some ⟨c,o',none⟩) n k',y]).run P W=.ok (.int .i64 cnt) W':=by
   intro cs e1 e2 W' e3
   rw [hmin] at e2
   simp only [Builtin.copy_]
   simp only [List.getElem?_toArray,List.getElem?_cons_zero,List.getElem?_cons_succ,Sem.run_bind,run_underlying ht,Result.andThen_ok,e1,B7 hi,e2,e3,Sem.run_pure,goInt,hmin]
  unfold cpyA at hok ⊢
  cases hz:std.eqN cnt 0 with
  | true =>
   rw [hz] at hok
   simp only [cond_true,Bool.and_eq_true] at hok ⊢
   have h0:cnt=0:=Nat.eq_of_beq_eq_true hz
   obtain ⟨h1,cs,h2,h3⟩:=hF cnt hok.1 hcm
   have hcs:cs=[]:=by have:=h3.length;rw [h0] at this;simpa using this
   subst hcs
   refine ⟨.value (.int .i64 cnt),W,ρ,Bl (hcopy [] h1 h2 W rfl),hr,Stp.refl (Nat.le_refl _),.inl ⟨_,rfl,?_⟩⟩
   rw [h0]
   show VR ρ (.int .i64 0) _;unfold VR;rfl
  | false =>
   rw [hz] at hok
   simp only [cond_false] at hok ⊢
   cases hob:σ.get b with
   | none=>rw [hob] at hok;cases hok
   | some ob =>
    rw [hob] at hok
    simp only [Bool.and_eq_true] at hok ⊢
    obtain ⟨⟨hk1,_⟩,hw⟩:=hok
    obtain ⟨h1,cs,h2,h3⟩:=hF cnt hk1 hcm
    have hne:cnt ≠ 0:=fun h=>by rw [h] at hz;cases hz
    have hk0:k ≠ 0:=by omega
    obtain ⟨W',s1,s2,s3⟩:=hr.store P hb hob hw (piece_vr (n:=cnt * i.size) h3)
    have s1:(storeCells ⟨c,o + d.1,none⟩ cs).run P W=.ok () W':=s1
    rw [← ho hk0] at s1
    exact ⟨.value (.int .i64 cnt),W',ρ,Bl (hcopy cs h1 h2 W' s1),s2,s3,.inl ⟨_,rfl,by show VR ρ (.int .i64 cnt) _;unfold VR;rfl⟩⟩
theorem D9 (hev:∀ x,VR ρ (ev (rf x)) (a.eval x)):∀ l:List Operand,VRs ρ ((l.map rf).map ev) (l.map a.eval)
 | []=>rfl
 | x :: l=>⟨_,_,rfl,hev x,D9 hev l⟩
theorem bi_run {b:Builtin} {args:Array Operand} {ats:Array TypeId} {ty:TypeId} {v:Value} {W':World} {f:Array TypeId → TypeId → Array Value → Sem Value}
  (hb:∀ cs as',builtin b ats ty cs as'=(do let v ← f ats ty as';pure (.value v))) (h:(f ats ty (args.map a.eval)).run P W=.ok v W') :
  (do let d ← resolve a.eval { callee:=.builtin b,args:=args,argTypes:=ats } ty;invoke d.target d.args:Sem Next).run P W=.ok (.value v) W':=by
 simp only [resolve,Sem.run_bind,Sem.run_pure,Result.andThen_ok,invoke,hb,h]
def mmA (mx:Bool):List AV → Bool × AV
 | .int k n :: l=>minL std mx k n l
 | _=>(false,.top)
theorem mmA_eq (mx:Bool) (l:List AV):Al std (bif mx then .maxI else .minI) l=mmA mx l:=by
 cases mx
 ·simp only [cond_false,Al];unfold mmA;rfl
 ·simp only [cond_true,Al];unfold mmA;rfl
theorem K4 (hr:HR ρ σ W) {mx:Bool} {args:Array Operand} {ats:Array TypeId} {ty:TypeId} (hev:∀ x,VR ρ (ev (rf x)) (a.eval x)) :
  Runs P (do let d ← resolve a.eval { callee:=.builtin (bif mx then .max else .min),args:=args,argTypes:=ats } ty;invoke d.target d.args) W ρ σ (step std ev σ (.pur (bif mx then .maxI else .minI) (args.toList.map rf))):=by
 intro hok
 have hv:=D9 hev args.toList
 generalize hl:(args.toList.map rf).map ev=l at hv
 have hst:step std ev σ (.pur (bif mx then .maxI else .minI) (args.toList.map rf))=((Al std (bif mx then .maxI else .minI) l).1,(Al std (bif mx then .maxI else .minI) l).2,σ):=by simp only [step,hl]
 rw [hst] at hok ⊢
 rw [mmA_eq] at hok ⊢
 match l,hv,hok with
 | [],_,hok=>cases hok
 | a0 :: l,⟨v0,vs,e,h0,hvs⟩,hok =>
  cases a0 <;> try (cases hok;done)
  rename_i k n
  simp only [VR] at h0
  subst h0
  obtain ⟨v,h1,h2⟩:=minL_run (P:=P) (W:=W) mx l vs n hvs hok
  refine ⟨.value v,W,ρ,?_,hr,Stp.refl (Nat.le_refl _),.inl ⟨v,rfl,h2⟩⟩
  have hal:(args.map a.eval).toList=.int k n :: vs:=by rw [Array.toList_map];exact e
  cases mx
  ·exact bi_run (f:=Builtin.min_) (fun _ _=>rfl) (by unfold Builtin.min_;rw [hal];exact h1)
  ·exact bi_run (f:=Builtin.max_) (fun _ _=>rfl) (by unfold Builtin.max_;rw [hal];exact h1)
theorem cap_sound (hr:HR ρ σ W) {args:Array Operand} {ats:Array TypeId} {ty t e:TypeId} {r:List TypeId} (ha:ats.toList=t :: r) (ht:P.underlying t=some (.slice e)) (hev:∀ x,VR ρ (ev (rf x)) (a.eval x)) :
  Runs P (do let d ← resolve a.eval { callee:=.builtin .cap,args:=args,argTypes:=ats } ty;invoke d.target d.args) W ρ σ (step std ev σ (.pur .capSl (args.toList.map rf))):=by
 intro hok
 have hv:=D9 hev args.toList
 generalize hl:(args.toList.map rf).map ev=l at hv
 have hst:step std ev σ (.pur .capSl (args.toList.map rf))=((Al std .capSl l).1,(Al std .capSl l).2,σ):=by simp only [step,hl]
 rw [hst] at hok ⊢
 have e1:ats[0]?=some t:=by rw [← Array.getElem?_toList,ha];rfl
 match l,hv,hok with
 | [],_,hok=>cases hok
 | [a0],⟨v0,vs,e,h0,hvs⟩,hok =>
  cases hvs
  have e2:(args.map a.eval)[0]?=some v0:=by rw [← Array.getElem?_toList,Array.toList_map,e];rfl
  cases a0 <;> try (cases hok;done)
  ·rename_i b o n k ex z
   obtain ⟨p,k',hv,_,_,hex⟩:=Ia h0
   subst hv
   refine ⟨.value (.int .i64 k'),W,ρ,bi_run (f:=Builtin.cap_) (fun _ _=>rfl) ?_,hr,Stp.refl (Nat.le_refl _),.inl ⟨_,rfl,?_⟩⟩
   ·simp only [Builtin.cap_,e1,e2,Sem.run_bind,run_underlying ht,Result.andThen_ok];rfl
   ·show VR ρ (bif ex then .int .i64 k else .top) _
    cases ex with
    | false=>trivial
    | true=>rw [hex rfl];show VR ρ (.int .i64 k) _;unfold VR;rfl
  ·simp only [VR] at h0
   subst h0
   refine ⟨.value (.int .i64 0),W,ρ,bi_run (f:=Builtin.cap_) (fun _ _=>rfl) ?_,hr,Stp.refl (Nat.le_refl _),.inl ⟨_,rfl,by show VR ρ (.int .i64 0) _;unfold VR;rfl⟩⟩
   simp only [Builtin.cap_,e1,e2,Sem.run_bind,run_underlying ht,Result.andThen_ok];rfl
 | a0 :: a1 :: l',_,hok =>
  have:(Al std .capSl (a0 :: a1 :: l')).1=false:=by cases a0 <;> rfl
  have hok:(Al std .capSl (a0 :: a1 :: l')).1=true:=hok
  rw [this] at hok;cases hok
theorem copy_sound (hr:HR ρ σ W) {args:Array Operand} {ats:Array TypeId} {ty t tx e:TypeId} {i:TypeInfo} {str:Bool} (ha:ats.toList=[t,tx]) (ht:P.underlying t=some (.slice e)) (hi:P.info? e=some i) (htx:(str=true ∧ P.underlying tx=some .string) ∨ (str=false ∧ ∃ e',P.underlying tx=some (.slice e'))) (hev:∀ x,VR ρ (ev (rf x)) (a.eval x)) :
  Runs P (do let d ← resolve a.eval { callee:=.builtin .copy,args:=args,argTypes:=ats } ty;invoke d.target d.args) W ρ σ (step std ev σ (.ext (.copy i.size str) (args.toList.map rf))):=by
 have e1:ats=#[t,tx]:=by apply Array.ext';exact ha
 subst e1
 have hv:=D9 hev args.toList
 generalize hl:(args.toList.map rf).map ev=l at hv
 have hst:step std ev σ (.ext (.copy i.size str) (args.toList.map rf))=Bb std σ (.copy i.size str) l:=by simp only [step,hl]
 rw [hst]
 match l,hv with
 | [],_=>exact fun h=>by cases h
 | [a0],_=>exact fun h=>by cases a0 <;> cases h
 | [a0,a1],⟨v0,_,e,h0,v1,_,e',h1,e''⟩ =>
  cases e'';cases e'
  intro hok
  obtain ⟨n,W',ρ',r1,r2,r3,r4⟩:=copy_run (ty:=ty) hr ht hi htx h0 h1 hok
  refine ⟨n,W',ρ',?_,r2,r3,r4⟩
  have hal:args.map a.eval=#[v0,v1]:=by apply Array.ext';rw [Array.toList_map];exact e
  rw [← r1]
  simp only [resolve,Sem.run_bind,Sem.run_pure,Result.andThen_ok,invoke,hal]
  rw [show ∀ cs,builtin .copy #[t,tx] ty cs #[v0,v1]=(do let v ← Builtin.copy_ #[t,tx] ty #[v0,v1];pure (.value v)) from fun _=>rfl]
  simp only [Sem.run_bind,Sem.run_pure]
 | a0 :: a1 :: a2 :: l',_=>exact fun h=>by cases a0 <;> cases h
end
end Go.Proofs.YtfdfdagbeeeomaaDoor.V2
namespace Go.Proofs.YtfdfdagbeeeomaaDoor.V2
open Go
section
variable {P:Program} {W:World} {ρ:Ren} {σ:AH} {a:Act} {rf:Operand → Ref} {ev:Ref → AV} {ao:AOp}
def FRes (ρ:Ren):Option (Nat × AV) → Option (Nat × Value) → Prop
 | none,none=>True
 | some p,some q=>p.1=q.1 ∧ VR ρ p.2 q.2
 | _,_=>False
theorem asking_run {kt:TypeId} {ks:List CK} {sc:Bool} (hk:Bm P 100 kt=some ks) (hsc:Az P kt=sc) {ak:AV} {k:Value} (hx:VR ρ ak k):∀ (l:List (AV × AV)) (es:List MapEntry) (i:Nat),MapL ρ l es → (B4 std sc ks ak l i).1=true →
  ∃ r,(Instr.findAsking kt k es i).run P W=.ok r W ∧ FRes ρ (B4 std sc ks ak l i).2 r
 | [],es,i,h,_=>by
  rw [show es=[] from h]
  exact ⟨none,rfl,trivial⟩
 | p :: l,_,i,⟨e,m,he,hkey,hval,hm⟩,hok=>by
  subst he
  unfold B4 at hok ⊢
  have hq:=fun h=>flatEq_run (P:=P) (W:=W) hk hx hkey (by rw [hsc];exact h)
  rw [hsc] at hq
  generalize B3 std sc ks ak p.1=q at hok hq ⊢
  obtain ⟨ok,b⟩:=q
  cases b with
  | true =>
   simp only at hok hq ⊢
   refine ⟨some (i,e.val),?_,rfl,hval⟩
   unfold Instr.findAsking
   simp only [Sem.run_bind,hq hok,Result.andThen_ok,if_true,Sem.run_pure]
  | false =>
   simp only at hok hq ⊢
   have hr:=asking_run hk hsc hx l m (i + 1) hm
   generalize B4 std sc ks ak l (i + 1)=f at hok hr ⊢
   obtain ⟨ok',r⟩:=f
   simp only [Bool.and_eq_true] at hok hr ⊢
   obtain ⟨r',h1,h2⟩:=hr hok.2
   refine ⟨r',?_,h2⟩
   unfold Instr.findAsking
   simp only [Sem.run_bind,hq hok.1,Result.andThen_ok,Bool.false_eq_true,if_false]
   exact h1
theorem same_now {kt:TypeId} {d:TypeDesc} (hd:P.underlying kt=some d) {k key:Value} {b:Bool} (h:Instr.sameNow d k key=some b):(Op.equal kt k key).run P W=.ok b W:=by
 have e0:Op.equal kt k key=Op.equalIn (9999 + 1) kt k key:=rfl
 rw [e0]
 generalize 9999=dd
 unfold Instr.sameNow at h
 split at h
 ·rename_i q k1 x1 k2 x2
  split at h
  ·rename_i hk;subst hk;cases h
   exact run_equalIn_int W dd kt _ q _ _ hd
  ·cases h
 ·cases h
  unfold Op.equalIn
  simp only [Sem.run_bind,run_underlying hd,Result.andThen_ok];rfl
 ·cases h
  exact run_equalIn_bool W dd kt _ _ hd
 ·cases h
theorem now_asking {kt:TypeId} {d:TypeDesc} (hd:P.underlying kt=some d) {k:Value}:∀ (es:List MapEntry) (i:Nat) (r:Option (Nat × Value)),Instr.findNow d k es i=some r → (Instr.findAsking kt k es i).run P W=.ok r W
 | [],i,r,h=>by cases h;rfl
 | e :: es,i,r,h=>by
  unfold Instr.findNow at h
  unfold Instr.findAsking
  split at h
  ·rename_i hs
   cases h
   simp only [Sem.run_bind,same_now hd hs,Result.andThen_ok,if_true,Sem.run_pure]
  ·rename_i hs
   simp only [Sem.run_bind,same_now hd hs,Result.andThen_ok,Bool.false_eq_true,if_false]
   exact now_asking hd es (i + 1) r h
  ·cases h
theorem Hc {kt:TypeId} {ks:List CK} {sc:Bool} (hk:Bm P 100 kt=some ks) (hsc:Az P kt=sc) {ak:AV} {k:Value} (hx:VR ρ ak k) {l:List (AV × AV)} {es:List MapEntry} (hm:MapL ρ l es) (hok:(B4 std sc ks ak l 0).1=true) :
  ∃ r,(Instr.findKey kt k es).run P W=.ok r W ∧ FRes ρ (B4 std sc ks ak l 0).2 r:=by
 obtain ⟨d,hd⟩:=Option.isSome_iff_exists.1 (Dv 100 kt ks hk).2.1
 obtain ⟨r,h1,h2⟩:=asking_run (P:=P) (W:=W) hk hsc hx l es 0 hm hok
 refine ⟨r,?_,h2⟩
 unfold Instr.findKey
 simp only [Sem.run_bind,run_underlying hd,Result.andThen_ok]
 cases hn:Instr.findNow d k es 0 with
 | none=>exact h1
 | some r' =>
  have:=now_asking (P:=P) (W:=W) hd es 0 r' hn
  rw [this] at h1
  injection h1 with h1
  subst h1;rfl
theorem Cf {kt:TypeId} (hsc:Az P kt=true) {em:Bool} {n:Nat} {k:Value}:(Instr.checkKey em (n + 1) kt k).run P W=.ok () W:=by
 unfold Az at hsc
 unfold Instr.checkKey
 split at hsc
 ·rename_i q hu;simp only [Sem.run_bind,run_underlying hu,Result.andThen_ok];cases k <;> rfl
 ·rename_i hu;simp only [Sem.run_bind,run_underlying hu,Result.andThen_ok];cases k <;> rfl
 ·rename_i hu;simp only [Sem.run_bind,run_underlying hu,Result.andThen_ok];cases k <;> rfl
 ·cases hsc
theorem HR.map_at (hr:HR ρ σ W) {b c:Nat} {d:Nat × Nat} {l:List (AV × AV)} (hb:ρ b=some (c,d)) (ho:σ.get b=some (.map l)):∃ es ck,W.heap[c]?=some (.map es ck) ∧ MapL ρ l es.toList ∧ es.toList.Pairwise (fun a b=>a.born < b.born) ∧ ∀ e ∈ es.toList,e.born < ck:=by
 obtain ⟨_,_,o,ho',hO⟩:=hr.dom b c d hb
 rw [ho] at ho';cases ho'
 exact hO.2 l rfl
theorem MapL.length:∀ {l:List (AV × AV)} {es:List MapEntry},MapL ρ l es → es.length=l.length
 | [],_,h=>by rw [show _=[] from h];rfl
 | _ :: _,_,⟨_,_,e,_,_,hm⟩=>by rw [e];simp [MapL.length hm]
theorem Cb {c:Nat} {es:Array MapEntry} {ck:Nat} (h:W.heap[c]?=some (.map es ck)):(getObj c).run P W=.ok (.map es ck) W:=by
 simp [getObj,Sem.run,h]
theorem len_map_run (hr:HR ρ σ W) {t k e ty:TypeId} (ht:P.underlying t=some (.map k e)) {x:Value} {ax:AV} (hx:VR ρ ax x) (hok:(Bn std σ .lenMap [ax]).1=true) :
  ∃ v,(Builtin.len_ #[t] ty #[x]).run P W=.ok v W ∧ VR ρ (Bn std σ .lenMap [ax]).2 v:=by
 simp only [Bn] at hok ⊢
 cases ax <;> try (cases hok;done)
 ·rename_i b
  simp only at hok ⊢
  obtain ⟨c,d,hb,rfl⟩:=Gh hx
  cases ho:σ.get b with
  | none=>rw [ho] at hok;cases hok
  | some o =>
   rw [ho] at hok
   cases o <;> try (cases hok;done)
   rename_i l
   obtain ⟨es,ck,h1,h2,_⟩:=hr.map_at hb ho
   refine ⟨.int .i64 l.length,?_,by show VR ρ (.int .i64 l.length) _;unfold VR;rfl⟩
   have hl:=h2.length
   simp only [Builtin.len_]
   simp only [List.getElem?_toArray,List.getElem?_cons_zero,Sem.run_bind,run_underlying ht,Result.andThen_ok,Cb h1,Sem.run_pure,goInt]
   rw [← hl];rfl
 ·simp only [VR] at hx
  subst hx
  refine ⟨.int .i64 0,?_,by show VR ρ (.int .i64 0) _;unfold VR;rfl⟩
  simp only [Builtin.len_]
  simp only [List.getElem?_toArray,List.getElem?_cons_zero,Sem.run_bind,run_underlying ht,Result.andThen_ok,Sem.run_pure,goInt]
theorem lookup_run (hr:HR ρ σ W) {t k e:TypeId} {i:TypeInfo} {z:Value} {ks:List CK} {commaOk:Bool} (ht:P.underlying t=some (.map k e)) (hi:P.info? e=some i) (hz:i.zero=some z) (hk:Bm P 100 k=some ks) (hsc:Az P k=true) {x y:Value} {ax ay:AV} (hx:VR ρ ax x) (hy:VR ρ ay y) (hok:(Bn std σ (.lookup true ks commaOk (Jo z)) [ax,ay]).1=true) :
  ∃ v,(Instr.lookup t x y commaOk).run P W=.ok v W ∧ VR ρ (Bn std σ (.lookup true ks commaOk (Jo z)) [ax,ay]).2 v:=by
 have hzero:∀ W:World,(zeroValue e).run P W=.ok z W:=fun W=>by simp [zeroValue,typeInfo,hi,hz]
 have hout:∀ (w:AV) (u:Value) (b:Bool),VR ρ w u → VR ρ (bif commaOk then .tup [w,.bool b] else w) (if commaOk=true then .tuple #[u,.bool b] else u):=fun w u b h=>by
  cases commaOk
  ·exact h
  ·show VR ρ (.tup [w,.bool b]) (.tuple #[u,.bool b])
   unfold VR;exact ⟨[u,.bool b],rfl,u,[.bool b],rfl,h,.bool b,[],rfl,by unfold VR;rfl,rfl⟩
 simp only [Bn] at hok ⊢
 cases ax <;> try (cases hok;done)
 ·rename_i b
  simp only at hok ⊢
  obtain ⟨c,d,hb,rfl⟩:=Gh hx
  cases ho:σ.get b with
  | none=>rw [ho] at hok;cases hok
  | some o =>
   rw [ho] at hok
   cases o <;> try (cases hok;done)
   rename_i l
   simp only at hok ⊢
   obtain ⟨es,ck,h1,h2,_⟩:=hr.map_at hb ho
   have hF:=fun h=>Hc (P:=P) (W:=W) hk hsc hy h2 h
   generalize B4 std true ks ay l 0=f at hok hF ⊢
   obtain ⟨ok,r⟩:=f
   have hok1:ok=true:=by cases r <;> exact hok
   obtain ⟨r',h3,h4⟩:=hF hok1
   cases r with
   | none =>
    cases r' with
    | some q=>exact h4.elim
    | none =>
     refine ⟨_,?_,hout _ _ false (Gw ρ z)⟩
     unfold Instr.lookup
     simp only [Sem.run_bind,run_underlying ht,Result.andThen_ok,Cb h1,Sem.run_pure,Cf hsc,h3,hzero]
   | some p =>
    cases r' with
    | none=>exact h4.elim
    | some q =>
     refine ⟨_,?_,hout _ _ true h4.2⟩
     unfold Instr.lookup
     simp only [Sem.run_bind,run_underlying ht,Result.andThen_ok,Cb h1,Sem.run_pure,Cf hsc,h3]
 ·simp only [VR] at hx
  subst hx
  refine ⟨_,?_,hout _ _ false (Gw ρ z)⟩
  have h3:=Hc (P:=P) (W:=W) hk hsc hy (l:=[]) (es:=[]) rfl rfl
  obtain ⟨r',h3,h4⟩:=h3
  cases r' with
  | some q=>exact h4.elim
  | none =>
   unfold Instr.lookup
   simp only [Sem.run_bind,run_underlying ht,Result.andThen_ok,Sem.run_pure,Cf hsc]
   have h3:(Instr.findKey k y (#[]:Array MapEntry).toList).run P W=.ok none W:=h3
   simp only [h3,Result.andThen_ok,hzero,Sem.run_bind,Sem.run_pure]
theorem scalar_ks {kt:TypeId} {ks:List CK} (hk:Bm P 100 kt=some ks) (hsc:Az P kt=true):∃ c,ks=[c]:=by
 unfold Bm at hk
 unfold Az at hsc
 split at hsc
 ·rename_i q hu;rw [hu] at hk;cases hk;exact ⟨_,rfl⟩
 ·rename_i hu;rw [hu] at hk;cases hk;exact ⟨_,rfl⟩
 ·rename_i hu;rw [hu] at hk;cases hk;exact ⟨_,rfl⟩
 ·cases hsc
theorem cell_same {c:CK} {x y:AV} {v u:Value} (hx:VR ρ x v) (hy:VR ρ y u) (h:B5 std c x y=(true,true)):u=v ∧ ∀ n,Instr.sameBits n v v=true:=by
 unfold B5 at h
 split at h
 ·simp only [VR] at hx hy
  simp only [std,Prod.mk.injEq,decide_eq_true_eq] at h
  obtain ⟨rfl,rfl⟩:=h
  subst hx;subst hy
  exact ⟨rfl,fun n=>by cases n <;> simp [Instr.sameBits]⟩
 ·simp only [VR] at hx hy
  simp only [std,Prod.mk.injEq,beq_iff_eq,true_and] at h
  subst h
  subst hx;subst hy
  have hb:∀ l:List UInt8,((⟨l.toArray⟩:ByteArray) == ⟨l.toArray⟩)=true:=fun l=>by
   show ((l.toArray:Array UInt8) == l.toArray)=true
   simp
  exact ⟨rfl,fun n=>by cases n <;> simp [Instr.sameBits,hb]⟩
 ·simp only [VR] at hx hy
  simp only [Prod.mk.injEq,beq_iff_eq,true_and] at h
  subst h
  subst hx;subst hy
  exact ⟨rfl,fun n=>by cases n <;> simp [Instr.sameBits]⟩
 ·cases h
theorem found_key {c:CK} {ak:AV} {k:Value} (hx:VR ρ ak k):∀ (l:List (AV × AV)) (es:List MapEntry) (i j:Nat) (v:AV),MapL ρ l es → (B4 std true [c] ak l i).1=true → (B4 std true [c] ak l i).2=some (j,v) → i ≤ j ∧ j - i < l.length ∧ ∃ e,es[j - i]?=some e ∧ e.key=k ∧ ∀ n,Instr.sameBits n k k=true
 | [],_,i,j,v,_,_,h=>by cases h
 | p :: l,_,i,j,v,⟨e,m,he,hkey,_,hm⟩,hok,h=>by
  subst he
  unfold B4 at hok h
  have hq:B3 std true [c] ak p.1=((B5 std c ak p.1).1,(B5 std c ak p.1).2):=by simp [B3,Ax]
  rw [hq] at hok h
  cases hb:(B5 std c ak p.1).2 with
  | true =>
   rw [hb] at hok h
   simp only [Option.some.injEq,Prod.mk.injEq] at hok h
   obtain ⟨rfl,_⟩:=h
   obtain ⟨h1,h2⟩:=cell_same (c:=c) hx hkey (Prod.ext hok hb)
   exact ⟨Nat.le_refl _,by simp,e,by simp,h1,h2⟩
  | false =>
   rw [hb] at hok h
   simp only [Bool.and_eq_true] at hok h
   obtain ⟨h1,h2,e',h3,h4⟩:=found_key hx l m (i + 1) j v hm hok.2 h
   refine ⟨by omega,by rw [List.length_cons];omega,e',?_,h4⟩
   rw [show j - i=(j - (i + 1)) + 1 by omega,List.getElem?_cons_succ];exact h3
theorem MapL.set:∀ {l:List (AV × AV)} {es:List MapEntry} (i:Nat) {k v:AV} {k' v':Value},MapL ρ l es → VR ρ k k' → VR ρ v v' → MapL ρ (l.set i (k,v)) (es.modify i fun e=>{ e with key:=k',val:=v' })
 | [],es,i,_,_,_,_,h,_,_=>by rw [show es=[] from h];cases i <;> rfl
 | _ :: l,_,0,_,_,_,_,⟨e,m,he,_,_,hm⟩,h1,h2=>by subst he;exact ⟨_,m,rfl,h1,h2,hm⟩
 | p :: l,_,i + 1,_,_,_,_,⟨e,m,he,h3,h4,hm⟩,h1,h2=>by subst he;exact ⟨e,_,rfl,h3,h4,MapL.set i hm h1 h2⟩
theorem MapL.push:∀ {l:List (AV × AV)} {es:List MapEntry} {k v:AV} {e:MapEntry},MapL ρ l es → VR ρ k e.key → VR ρ v e.val → MapL ρ (l ++ [(k,v)]) (es ++ [e])
 | [],es,_,_,e,h,h1,h2=>by rw [show es=[] from h];exact ⟨e,[],rfl,h1,h2,rfl⟩
 | p :: l,_,_,_,_,⟨e,m,he,h3,h4,hm⟩,h1,h2=>by subst he;exact ⟨e,_,rfl,h3,h4,MapL.push hm h1 h2⟩
theorem MapL.erase:∀ {l:List (AV × AV)} {es:List MapEntry} (i:Nat),MapL ρ l es → MapL ρ (l.eraseIdx i) (es.eraseIdx i)
 | [],es,i,h=>by rw [show es=[] from h];rfl
 | _ :: l,_,0,⟨e,m,he,_,_,hm⟩=>by subst he;exact hm
 | p :: l,_,i + 1,⟨e,m,he,h3,h4,hm⟩=>by subst he;exact ⟨e,_,rfl,h3,h4,MapL.erase i hm⟩
theorem M5 (f:MapEntry → MapEntry) (hf:∀ e,(f e).born=e.born):∀ (es:List MapEntry) (i:Nat),(es.modify i f).map (·.born)=es.map (·.born)
 | [],i=>by cases i <;> rfl
 | e :: es,0=>by simp [List.modify,hf]
 | e :: es,i + 1=>by simp [M5 f hf es i]
theorem HR.map_put (hr:HR ρ σ W) {b c:Nat} {d:Nat × Nat} {l l':List (AV × AV)} {es':Array MapEntry} {ck':Nat} (hb:ρ b=some (c,d)) (ho:σ.get b=some (.map l)) (hm:MapL ρ l' es'.toList) (hp:es'.toList.Pairwise (fun a b=>a.born < b.born)) (hc:∀ e ∈ es'.toList,e.born < ck') :
  (setObj c (.map es' ck')).run P W=.ok () { W with heap:=W.heap.setIfInBounds c (.map es' ck') } ∧ HR ρ (σ.put b (.map l')) { W with heap:=W.heap.setIfInBounds c (.map es' ck') } ∧ Stp σ.next ρ σ W ρ (σ.put b (.map l')) { W with heap:=W.heap.setIfInBounds c (.map es' ck') }:=by
 obtain ⟨es,ck,h1,_⟩:=hr.map_at hb ho
 have hlt:=(Array.getElem?_eq_some_iff.1 h1).1
 refine ⟨by simp [setObj,Sem.run,h1],hr.replace (W':={ W with heap:=W.heap.setIfInBounds c (.map es' ck') }) (o':=.map l') hb ho rfl rfl ⟨fun h=>(by cases h),fun l2 hl=>?_⟩ (fun k hk=>by simp [Array.getElem?_setIfInBounds_ne (Ne.symm hk)]) (by simp) rfl rfl rfl⟩
 cases hl
 exact ⟨es',ck',by simp [hlt],hm,hp,hc⟩
theorem mapUpd_run (hr:HR ρ σ W) {t k e:TypeId} {ks:List CK} (ht:P.underlying t=some (.map k e)) (hk:Bm P 100 k=some ks) (hsc:Az P k=true) {x y z:Value} {ax ay az:AV} (hx:VR ρ ax x) (hy:VR ρ ay y) (hz:VR ρ az z) :
  Runs P (do Instr.mapUpdate t x y z;pure .skip) W ρ σ (Bb std σ (.mapUpd true ks) [ax,ay,az]):=by
 intro hok
 obtain ⟨c0,rfl⟩:=scalar_ks hk hsc
 simp only [Bb,Bool.true_or,Bool.and_true] at hok ⊢
 cases ax <;> try (cases hok;done)
 rename_i b
 simp only at hok ⊢
 obtain ⟨c,d,hb,rfl⟩:=Gh hx
 cases ho:σ.get b with
 | none=>rw [ho] at hok;cases hok
 | some o =>
  rw [ho] at hok
  cases o <;> try (cases hok;done)
  rename_i l
  simp only at hok ⊢
  obtain ⟨es,ck,h1,h2,h3,h4⟩:=hr.map_at hb ho
  rw [Bool.and_eq_true] at hok
  obtain ⟨r',h5,h6⟩:=Hc (P:=P) (W:=W) hk hsc hy h2 hok.1
  cases hf:(B4 std true [c0] ay l 0).2 with
  | none =>
   rw [hf] at h6
   cases r' with
   | some q=>exact h6.elim
   | none =>
    have hM:MapL ρ (l ++ [(ay,az)]) (es.push { key:=y,val:=z,born:=ck }).toList:=by rw [Array.toList_push];exact h2.push hy hz
    obtain ⟨q1,q2,q3⟩:=hr.map_put (P:=P) (ck':=ck + 1) hb ho hM (by
     rw [Array.toList_push,List.pairwise_append]
     exact ⟨h3,List.pairwise_singleton _ _,fun a ha b' hb'=>by rw [List.mem_singleton] at hb';subst hb';exact h4 a ha⟩) (fun e' he'=>by
     rw [Array.toList_push,List.mem_append,List.mem_singleton] at he'
     rcases he' with he' | rfl
     ·exact Nat.lt_succ_of_lt (h4 e' he')
     ·exact Nat.lt_succ_self _)
    refine ⟨.skip,_,ρ,?_,q2,q3,.inr ⟨rfl,by show VR ρ (.tup []) undef;unfold VR;exact ⟨[],rfl,rfl⟩⟩⟩
    unfold Instr.mapUpdate
    simp only [Sem.run_bind,run_underlying ht,Result.andThen_ok,Cb h1,Cf hsc,h5,q1,Sem.run_pure]
  | some p =>
   obtain ⟨j,v0⟩:=p
   rw [hf] at h6
   cases r' with
   | none=>exact h6.elim
   | some q =>
    obtain ⟨j',u0⟩:=q
    obtain ⟨hj,_⟩:=h6
    simp only at hj
    subst hj
    obtain ⟨_,hjl,e0,he0,hkey,hsame⟩:=found_key hy l es.toList 0 j v0 h2 hok.1 hf
    rw [Nat.sub_zero] at he0
    have he1:es[j]?=some e0:=by rwa [Array.getElem?_toList] at he0
    have hM:MapL ρ (l.set j (ay,az)) (es.modify j fun e=>{ e with key:=y,val:=z }).toList:=by rw [Array.toList_modify];exact h2.set j hy hz
    have hborn:(es.modify j fun e=>{ e with key:=y,val:=z }).toList.map (·.born)=es.toList.map (·.born):=by rw [Array.toList_modify];exact M5 (fun e=>{ e with key:=y,val:=z }) (fun _=>rfl) _ _
    obtain ⟨q1,q2,q3⟩:=hr.map_put (P:=P) (ck':=ck) hb ho hM (by
     have:((es.modify j fun e=>{ e with key:=y,val:=z }).toList.map (·.born)).Pairwise (· < ·):=by rw [hborn];exact List.pairwise_map.2 h3
     exact List.pairwise_map.1 this) (fun e' he'=>by
     have:e'.born ∈ (es.modify j fun e=>{ e with key:=y,val:=z }).toList.map (·.born):=List.mem_map_of_mem he'
     rw [hborn] at this
     obtain ⟨e2,he2,hb2⟩:=List.mem_map.1 this
     rw [← hb2];exact h4 e2 he2)
    refine ⟨.skip,_,ρ,?_,q2,q3,.inr ⟨rfl,by show VR ρ (.tup []) undef;unfold VR;exact ⟨[],rfl,rfl⟩⟩⟩
    unfold Instr.mapUpdate
    simp only [Sem.run_bind,run_underlying ht,Result.andThen_ok,Cb h1,Cf hsc,h5,he1,Option.map_some,Option.getD_some,hkey,Instr.keyThatStays,hsame,if_true,Sem.run_pure,q1]
theorem checkA_run {kt:TypeId} {m:Nat} (hka:keyArr P kt m=true) {em:Bool} {n:Nat} {q:IntKind} {l:List Int} (hl:l.length=m):(Instr.checkKey em (n + 2) kt (.agg (l.map (Value.int q)).toArray)).run P W=.ok () W:=by
 unfold keyArr at hka
 split at hka
 case h_2=>cases hka
 rename_i len e hu
 split at hka
 case h_2=>cases hka
 rename_i q' hue
 split at hka
 case h_2=>cases hka
 rename_i i hi
 rw [Bool.and_eq_true,Nat.beq_eq,Nat.beq_eq] at hka
 obtain ⟨hs,rfl⟩:=hka
 subst hl
 have hpl:P.plainKey e=true:=by simp [Program.plainKey,hue]
 rw [Instr.checkKey]
 simp only [Sem.run_bind,run_underlying hu,Result.andThen_ok]
 simp only [Std.Legacy.Range.forIn_eq_forIn_range',Std.Legacy.Range.size,Nat.sub_zero,Nat.add_one_sub_one,Nat.div_one]
 have each:∀ j ∈ List.range' 0 l.length,j < l.length:=fun j hj=>by
  rw [List.mem_range'] at hj
  obtain ⟨k,hk,rfl⟩:=hj
  omega
 generalize List.range' 0 l.length=is at each
 induction is with
 | nil=>simp
 | cons j is ih =>
  have hj:=each j (by simp)
  have p1:(part e (l.map (Value.int q)).toArray (j * i.size)).run P W=.ok (.int q l[j]) W:=run_part_plain W hpl (by rw [hs,Nat.mul_one];simp [hj])
  have p2:(Instr.checkKey em (n + 1) e (.int q l[j])).run P W=.ok () W:=Cf (by unfold Az;rw [hue])
  have p3:(sizeOf e).run P W=.ok i.size W:=by simp [sizeOf,typeInfo,hi]
  simp only [List.forIn_cons,Sem.run_bind,p3,Result.andThen_ok,p1,p2,Sem.run_pure]
  exact ih (fun y hy=>each y (by simp [hy]))
theorem mapUpdA_run (hr:HR ρ σ W) {t k e:TypeId} {ks:List CK} (ht:P.underlying t=some (.map k e)) (hk:Bm P 100 k=some ks) (hsc:Az P k=false) (hka:keyArr P k ks.length=true) {x y z:Value} {ax ay az:AV} (hx:VR ρ ax x) (hy:VR ρ ay y) (hz:VR ρ az z) :
  Runs P (do Instr.mapUpdate t x y z;pure .skip) W ρ σ (Bb std σ (.mapUpd false ks) [ax,ay,az]):=by
 intro hok
 simp only [Bb,Bool.false_or] at hok ⊢
 cases ax <;> try (cases hok;done)
 rename_i b
 simp only at hok ⊢
 obtain ⟨c,d,hb,rfl⟩:=Gh hx
 cases ho:σ.get b with
 | none=>rw [ho] at hok;cases hok
 | some o =>
  rw [ho] at hok
  cases o <;> try (cases hok;done)
  rename_i l
  simp only at hok ⊢
  obtain ⟨es,ck,h1,h2,h3,h4⟩:=hr.map_at hb ho
  rw [Bool.and_eq_true,Bool.and_eq_true,Bool.and_eq_true] at hok
  obtain ⟨⟨hok1,hok2⟩,hno,hin⟩:=hok
  obtain ⟨r',h5,h6⟩:=Hc (P:=P) (W:=W) hk hsc hy h2 hok1
  cases ay <;> try (cases hin;done)
  rename_i q kl
  have hlen:kl.length=ks.length:=by
   simp only [B3,std,Bool.and_eq_true,Nat.beq_eq] at hok2
   exact hok2.1.2
  obtain rfl:=F7 hy
  cases hf:(B4 std false ks (.ints q kl) l 0).2 with
  | some p=>rw [hf] at hno;cases hno
  | none =>
   rw [hf] at h6
   cases r' with
   | some q=>exact h6.elim
   | none =>
    have hM:MapL ρ (l ++ [(.ints q kl,az)]) (es.push { key:=.agg (kl.map (Value.int q)).toArray,val:=z,born:=ck }).toList:=by rw [Array.toList_push];exact h2.push hy hz
    obtain ⟨q1,q2,q3⟩:=hr.map_put (P:=P) (ck':=ck + 1) hb ho hM (by
     rw [Array.toList_push,List.pairwise_append]
     exact ⟨h3,List.pairwise_singleton _ _,fun a ha b' hb'=>by rw [List.mem_singleton] at hb';subst hb';exact h4 a ha⟩) (fun e' he'=>by
     rw [Array.toList_push,List.mem_append,List.mem_singleton] at he'
     rcases he' with he' | rfl
     ·exact Nat.lt_succ_of_lt (h4 e' he')
     ·exact Nat.lt_succ_self _)
    refine ⟨.skip,_,ρ,?_,q2,q3,.inr ⟨rfl,by show VR ρ (.tup []) undef;unfold VR;exact ⟨[],rfl,rfl⟩⟩⟩
    unfold Instr.mapUpdate
    have hck:(Instr.checkKey false 10000 k (.agg (kl.map (Value.int q)).toArray)).run P W=.ok () W:=checkA_run (n:=9998) hka hlen
    simp only [Sem.run_bind,run_underlying ht,Result.andThen_ok,Cb h1,hck,h5,q1,Sem.run_pure]
theorem mapDel_run (hr:HR ρ σ W) {t k e ty:TypeId} {ks:List CK} {r:List TypeId} {ats:Array TypeId} (hat:ats.toList=t :: r) (ht:P.underlying t=some (.map k e)) (hk:Bm P 100 k=some ks) (hsc:Az P k=true) {x y:Value} {ax ay:AV} (hx:VR ρ ax x) (hy:VR ρ ay y) :
  Runs P (do let v ← Builtin.delete_ ats ty #[x,y];pure (.value v)) W ρ σ (Bb std σ (.mapDel true ks) [ax,ay]):=by
 intro hok
 have e1:ats[0]?=some t:=by rw [← Array.getElem?_toList,hat];rfl
 simp only [Bb] at hok ⊢
 have hunit:VR ρ (.tup []) (.tuple #[]):=by unfold VR;exact ⟨[],rfl,rfl⟩
 cases ax <;> try (cases hok;done)
 ·rename_i b
  simp only at hok ⊢
  obtain ⟨c,d,hb,rfl⟩:=Gh hx
  cases ho:σ.get b with
  | none=>rw [ho] at hok;cases hok
  | some o =>
   rw [ho] at hok
   cases o <;> try (cases hok;done)
   rename_i l
   simp only at hok ⊢
   obtain ⟨es,ck,h1,h2,h3,h4⟩:=hr.map_at hb ho
   obtain ⟨r',h5,h6⟩:=Hc (P:=P) (W:=W) hk hsc hy h2 hok
   cases hf:(B4 std true ks ay l 0).2 with
   | none =>
    rw [hf] at h6
    cases r' with
    | some q=>exact h6.elim
    | none =>
     obtain ⟨q1,q2,q3⟩:=hr.map_put (P:=P) (es':=es) (ck':=ck) hb ho h2 h3 h4
     refine ⟨.value (.tuple #[]),_,ρ,Bl ?_,q2,q3,.inl ⟨_,rfl,hunit⟩⟩
     simp only [Builtin.delete_]
     simp only [e1,List.getElem?_toArray,List.getElem?_cons_zero,List.getElem?_cons_succ,Sem.run_bind,run_underlying ht,Result.andThen_ok,Cb h1,Cf hsc,h5,q1,Sem.run_pure]
   | some p =>
    obtain ⟨j,v0⟩:=p
    rw [hf] at h6
    cases r' with
    | none=>exact h6.elim
    | some q =>
     obtain ⟨j',u0⟩:=q
     obtain ⟨hj,_⟩:=h6
     simp only at hj
     subst hj
     have hel:(es.eraseIdxIfInBounds j).toList=es.toList.eraseIdx j:=by simp
     obtain ⟨q1,q2,q3⟩:=hr.map_put (P:=P) (es':=es.eraseIdxIfInBounds j) (ck':=ck) hb ho (by rw [hel];exact h2.erase j) (by rw [hel];exact h3.sublist (List.eraseIdx_sublist _ _)) (fun e' he'=>h4 e' (by rw [hel] at he';exact List.mem_of_mem_eraseIdx he'))
     refine ⟨.value (.tuple #[]),_,ρ,Bl ?_,q2,q3,.inl ⟨_,rfl,hunit⟩⟩
     simp only [Builtin.delete_]
     simp only [e1,List.getElem?_toArray,List.getElem?_cons_zero,List.getElem?_cons_succ,Sem.run_bind,run_underlying ht,Result.andThen_ok,Cb h1,Cf hsc,h5,q1,Sem.run_pure]
 ·simp only [VR] at hx
  subst hx
  refine ⟨.value (.tuple #[]),W,ρ,Bl ?_,hr,Stp.refl (Nat.le_refl _),.inl ⟨_,rfl,hunit⟩⟩
  simp only [Builtin.delete_]
  simp only [e1,List.getElem?_toArray,List.getElem?_cons_zero,List.getElem?_cons_succ,Sem.run_bind,run_underlying ht,Result.andThen_ok,Cf hsc,Sem.run_pure]
end
end Go.Proofs.YtfdfdagbeeeomaaDoor.V2
