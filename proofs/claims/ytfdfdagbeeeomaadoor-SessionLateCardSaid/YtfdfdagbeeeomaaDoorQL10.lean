/- Part 10 of the proof: texts of the proof. -/
import Derived.Test.YtfdfdagbeeeomaaDoorQL9
import Derived.Deep.LoopGhost
namespace Go.Proofs.YtfdfdagbeeeomaaDoor.V2
open Go
open Go.RowKit
theorem HR.below {ρ:Ren} {σ:AH} {W W':World} (h:HR ρ σ W) (hb:Below W.heap.size W W'):HR ρ σ W' :=
 ⟨h.small,h.none_,fun b c d hρ=>by
  obtain ⟨h1,h2,o,h3,h4⟩:=h.dom b c d hρ
  refine ⟨h1,Nat.lt_of_lt_of_le h2 hb.size,o,h3,?_⟩
  rw [hb.block c h2];exact h4,h.inj⟩
theorem Stp.below {N:Nat} {ρ:Ren} {σ:AH} {W W':World} (hN:N ≤ σ.next) (hb:Below W.heap.size W W'):Stp N ρ σ W ρ σ W' :=
 ⟨fun _ _=>rfl,fun b _c d h=>.inl ⟨b,d,h⟩,hN,fun _ _ _ _ h _=>h,fun c hc _=>hb.block c hc,hb.tape,hb.os,hb.output,hb.size,fun _ c _ _ _ _ hc h _=>⟨h,hb.block c hc⟩⟩
def rowB:Row → Option (List Int)
 | .ints k l=>match k with
  | .u8=>some l
  | _=>none
 | .cells l=>match l with
  | []=>some []
  | _=>none
def byI (l:List Int):Bool:=l.all fun n=>decide (0 ≤ n) && decide (n ≤ 255)
theorem byI_iff {l:List Int} (h:byI l=true):∀ n ∈ l,0 ≤ n ∧ n ≤ 255:=fun n hn=>by
 have:=List.all_eq_true.1 h n hn
 simpa using this
noncomputable def B6 (A:Ar) (By:List Int → Bool) (σ:AH) (v:AV):Bool × List Int:=match Br A false 1 σ v with
 | (ok,_,r)=>match rowB r with
  | some l=>(ok && By l,l)
  | none=>(false,[])
theorem bytes_of {ρ:Ren} {σ:AH} {W:World} (hr:HR ρ σ W) {s:AV} {v:Value} (hv:VR ρ s v) (hok:(B6 std byI σ s).1=true):BSl W v (Eo (B6 std byI σ s).2) ∧ bI (Eo (B6 std byI σ s).2)=(B6 std byI σ s).2:=by
 unfold B6 at hok ⊢
 generalize hrow:Br std false 1 σ s=row at hok ⊢
 obtain ⟨ok,n,r⟩:=row
 simp only at hok ⊢
 cases hB:rowB r with
 | none=>rw [hB] at hok;cases hok
 | some l =>
  rw [hB] at hok
  simp only [Bool.and_eq_true] at hok ⊢
  obtain ⟨hok,hby⟩:=hok
  have hby:=byI_iff hby
  refine ⟨?_,bI_toBs l hby⟩
  cases s
  case nilsl =>
   simp only [VR] at hv
   simp only [Br,Prod.mk.injEq] at hrow
   obtain ⟨_,_,rfl⟩:=hrow
   simp only [rowB,Option.some.injEq] at hB
   subst hB;subst hv
   exact .inl ⟨rfl,rfl⟩
  case sl b o n' k e z =>
   rcases vr_sl hv with ⟨c,d,o',k',hb,rfl,ho,hnk,hk,_,_⟩ | ⟨rfl,rfl,rfl,_,pp,rfl⟩
   rotate_left
   ·refine .inr (.inr ⟨pp,rfl,?_⟩)
    have hl:l=[]:=by
     simp only [Br] at hrow
     cases hob:σ.get b with
     | none=>rw [hob] at hrow;cases hrow;cases hok
     | some ob =>
      rw [hob] at hrow
      cases ob with
      | map m=>cases hrow;cases hok
      | hid=>cases hrow;cases hok
      | dead=>cases hrow;cases hB;rfl
      | cells m e2 t =>
       simp only [Prod.mk.injEq] at hrow
       obtain ⟨_,_,rfl⟩:=hrow
       rw [Nat.zero_mul,List.take_zero] at hB
       cases hB;rfl
      | ints ik m e2 t =>
       simp only [Prod.mk.injEq] at hrow
       obtain ⟨_,_,rfl⟩:=hrow
       have hik:ik=.u8:=by cases ik <;> first | rfl | (simp [rowB] at hB)
       subst hik
       simp only [std,rowB,Option.some.injEq] at hB
       rw [← hB];simp
    rw [hl];rfl
   have hc:=(hr.dom _ _ _ hb).2.1
   simp only [Br] at hrow
   have hempty:n'=0 → l=[] → BSl W (.slice (some ⟨c,o',none⟩) n' k') (Eo l):=fun h1 h2=>by
    subst h1;subst h2
    exact .inr (.inl ⟨c,o',k',rfl,Nat.zero_le _,hc,fun j hj=>by cases hj⟩)
   cases hob:σ.get b with
   | none=>rw [hob] at hrow;cases hrow;cases hok
   | some ob =>
    rw [hob] at hrow
    cases ob with
    | map m=>cases hrow;cases hok
    | hid=>cases hrow;cases hok
    | dead =>
     simp only [Prod.mk.injEq] at hrow
     obtain ⟨h1,_,rfl⟩:=hrow
     simp only [rowB,Option.some.injEq] at hB
     rw [← h1,Bool.and_eq_true,Nat.beq_eq] at hok
     exact hempty hok.2 hB.symm
    | cells m e2 t =>
     simp only [Prod.mk.injEq] at hrow
     obtain ⟨h1,_,rfl⟩:=hrow
     rw [← h1] at hok
     simp only [Bool.and_eq_true,Nat.ble_eq] at hok
     cases hm:(m.drop o).take (n' * 1) with
     | nil =>
      have h0:((m.drop o).take (n' * 1)).length=0:=by rw [hm];rfl
      rw [List.length_take,List.length_drop] at h0
      rw [hm] at hB
      simp only [rowB,Option.some.injEq] at hB
      exact hempty (by omega) hB.symm
     | cons x y=>rw [hm] at hB;cases hB
    | ints ik m e2 t =>
     simp only [Prod.mk.injEq] at hrow
     obtain ⟨h1,_,rfl⟩:=hrow
     rw [← h1] at hok
     simp only [std,Bool.and_eq_true,Nat.ble_eq] at hok
     have hik:ik=.u8:=by cases ik <;> first | rfl | (simp [rowB] at hB)
     subst hik
     simp only [std,rowB,Option.some.injEq] at hB
     have hln:l.length=n':=by rw [← hB,List.length_take,List.length_drop];omega
     by_cases hn:n'=0
     ·exact hempty hn (List.length_eq_zero_iff.1 (by rw [hln,hn]))
     ·have ho:=ho (by omega)
      subst ho
      refine .inr (.inl ⟨c,o + d.1,k',by rw [En,hln],by rw [En,hln];omega,hc,fun j hj=>?_⟩)
      rw [En,hln] at hj
      have hjm:o + j < m.length:=by omega
      obtain ⟨u,hu,hvr⟩:=hr.load (i:=o + j) (a:=.int .u8 m[o + j]) hb hob (by simp only [AObj.at];rw [List.getElem?_eq_getElem hjm];rfl)
      simp only [VR] at hvr
      subst hvr
      rw [show o + d.1 + j=o + j + d.1 by omega,hu]
      have hlj:l[j]?=some m[o + j]:=by rw [← hB,List.getElem?_take,if_pos (by omega),List.getElem?_drop,List.getElem?_eq_getElem hjm]
      have:(bI (Eo l)).getD j 0=m[o + j]:=by rw [bI_toBs l hby,List.getD_eq_getElem?_getD,hlj];rfl
      rw [bI_getD] at this
      rw [this]
  all_goals (simp only [Br,Prod.mk.injEq] at hrow;obtain ⟨h1,_⟩:=hrow;rw [← h1] at hok;cases hok)
noncomputable def Gn (A:Ar) (By:List Int → Bool) (σ:AH):List AV → Bool × List (List Int)
 | []=>(true,[])
 | v :: l=>match B6 A By σ v with
  | (ok,b)=>match Gn A By σ l with
   | (ok',m)=>(ok && ok',b :: m)
noncomputable def My (A:Ar) (By:List Int → Bool) (σ:AH) (v:AV):Bool × List (List Int):=match Br A false 1 σ v with
 | (ok,_,r)=>match r with
  | .cells l=>match Gn A By σ l with
   | (ok',m)=>(ok && ok' && v.sure,m)
  | _=>(false,[])
end Go.Proofs.YtfdfdagbeeeomaaDoor.V2
namespace Go.Proofs.YtfdfdagbeeeomaaDoor.V2
open Go
open Go.RowKit
theorem atV_get {vs:List Value} {j:Nat} {v:Value} (h:vs[j]?=some v):atV vs j=v:=by
 unfold atV;rw [List.getD_eq_getElem?_getD,h];rfl
theorem parts_of {ρ:Ren} {σ:AH} {W:World} (hr:HR ρ σ W):∀ {l:List AV} {vs:List Value},VRs ρ l vs → (Gn std byI σ l).1=true → vs.length=((Gn std byI σ l).2.map Eo).length ∧ ∀ j,j < vs.length → BSl W (atV vs j) (atP ((Gn std byI σ l).2.map Eo) j)
 | [],_,h,_=>by rw [show _=[] from h];exact ⟨rfl,fun j hj=>by simp at hj⟩
 | a :: l,_,⟨v,m,e,hv,hm⟩,hok=>by
  subst e
  unfold Gn at hok ⊢
  have hB:=fun h=>bytes_of hr hv h
  have hL:=fun h=>parts_of hr hm h
  generalize B6 std byI σ a=b at hok hB ⊢
  generalize Gn std byI σ l=q at hok hL ⊢
  obtain ⟨ok,b⟩:=b
  obtain ⟨ok',q⟩:=q
  simp only [Bool.and_eq_true] at hok hB hL ⊢
  obtain ⟨h1,h2⟩:=hL hok.2
  refine ⟨by simp [h1],fun j hj=>?_⟩
  cases j with
  | zero=>exact (hB hok.1).1
  | succ j =>
   have:=h2 j (by simpa using hj)
   simpa [atV,atP] using this
theorem list_of {ρ:Ren} {σ:AH} {W:World} (hr:HR ρ σ W) {s:AV} {v:Value} (hv:VR ρ s v) (hok:(My std byI σ s).1=true):∃ vs,PSl W v vs ((My std byI σ s).2.map Eo):=by
 unfold My at hok ⊢
 generalize hrow:Br std false 1 σ s=row at hok ⊢
 obtain ⟨ok,n,r⟩:=row
 simp only at hok ⊢
 cases r with
 | ints k l=>cases hok
 | cells l =>
  simp only at hok ⊢
  have hp:=fun vs (h:VRs ρ l vs)=>parts_of hr h
  generalize hpa:Gn std byI σ l=q at hok hp ⊢
  obtain ⟨ok',m⟩:=q
  simp only [Bool.and_eq_true] at hok hp ⊢
  obtain ⟨⟨hok,hok'⟩,hsu⟩:=hok
  cases s
  case nilsl =>
   simp only [VR] at hv
   simp only [Br,Prod.mk.injEq,Row.cells.injEq] at hrow
   obtain ⟨_,_,rfl⟩:=hrow
   cases hpa
   subst hv
   exact ⟨[],⟨rfl,.inl ⟨rfl,rfl⟩,fun j hj=>by simp at hj⟩⟩
  case sl b o n' k e z =>
   obtain ⟨c,d,o',k',hb,rfl,ho,hnk,hk,_,_⟩:=(vr_sl hv).resolve_right (fun h=>by obtain ⟨_,rfl,rfl,_⟩:=h;cases hsu)
   have hc:=(hr.dom _ _ _ hb).2.1
   simp only [Br] at hrow
   cases hob:σ.get b with
   | none=>rw [hob] at hrow;cases hrow;cases hok
   | some ob =>
    rw [hob] at hrow
    cases ob with
    | map m=>cases hrow;cases hok
    | hid=>cases hrow;cases hok
    | ints ik m e2 t=>simp at hrow
    | dead =>
     simp only [Prod.mk.injEq,Row.cells.injEq] at hrow
     obtain ⟨h1,_,rfl⟩:=hrow
     cases hpa
     rw [← h1,Bool.and_eq_true,Nat.beq_eq] at hok
     obtain rfl:=hok.2
     exact ⟨[],⟨rfl,.inr ⟨c,o',k',rfl,Nat.zero_le _,hc,fun j hj=>by simp at hj⟩,fun j hj=>by simp at hj⟩⟩
    | cells q e2 t =>
     simp only [Prod.mk.injEq,Row.cells.injEq] at hrow
     obtain ⟨h1,_,h2⟩:=hrow
     rw [← h1] at hok
     simp only [Bool.and_eq_true,Nat.ble_eq,Nat.mul_one] at hok h2
     by_cases hn:n'=0
     ·subst hn
      rw [List.take_zero] at h2
      subst h2
      cases hpa
      exact ⟨[],⟨rfl,.inr ⟨c,o',k',rfl,Nat.zero_le _,hc,fun j hj=>by simp at hj⟩,fun j hj=>by simp at hj⟩⟩
     have ho:=ho (by omega)
     subst ho
     have hll:l.length=n':=by rw [← h2,List.length_take,List.length_drop];omega
     have hex:∀ j,j < n' → ∃ u,W.cell? ⟨c,o + d.1 + j,none⟩=some u ∧ ∀ a,l[j]?=some a → VR ρ a u:=fun j hj=>by
      have hq:o + j < q.length:=by omega
      obtain ⟨u,hu,hur⟩:=hr.load (i:=o + j) (a:=q[o + j]) hb hob (by simp only [AObj.at];exact List.getElem?_eq_getElem hq)
      refine ⟨u,by rw [show o + d.1 + j=o + j + d.1 by omega];exact hu,fun a ha=>?_⟩
      rw [← h2,List.getElem?_take,if_pos hj,List.getElem?_drop,List.getElem?_eq_getElem hq] at ha
      cases ha;exact hur
     obtain ⟨vs,hvl,hvs⟩:∃ vs:List Value,vs.length=n' ∧ ∀ j,j < n' → W.cell? ⟨c,o + d.1 + j,none⟩=some (atV vs j) ∧ ∀ a,l[j]?=some a → VR ρ a (atV vs j):=by
      refine ⟨(List.range n').map fun j=>(W.cell? ⟨c,o + d.1 + j,none⟩).getD undef,by simp,fun j hj=>?_⟩
      obtain ⟨u,hu,hua⟩:=hex j hj
      have:atV ((List.range n').map fun j=>(W.cell? ⟨c,o + d.1 + j,none⟩).getD undef) j=u:=atV_get (by simp [hj,hu])
      rw [this];exact ⟨hu,hua⟩
     have hV:VRs ρ l vs:=VRs.of l vs (by rw [hvl,hll]) fun j a ha=>by
      have hj:j < n':=by rw [← hll];exact (List.getElem?_eq_some_iff.1 ha).1
      refine ⟨atV vs j,?_,(hvs j hj).2 a ha⟩
      unfold atV
      rw [List.getD_eq_getElem?_getD,List.getElem?_eq_getElem (by omega)];rfl
     obtain ⟨p1,p2⟩:=hp vs hV hok'
     have hpl:(m.map Eo).length=n':=by rw [← p1,hvl]
     exact ⟨vs,⟨p1,.inr ⟨c,o + d.1,k',by rw [hpl],by rw [hpl];omega,hc,fun j hj=>(hvs j (by rw [hpl] at hj;exact hj)).1⟩,fun j hj=>p2 j (by rw [hpl] at hj;rw [hvl];exact hj)⟩⟩
  all_goals (simp only [Br,Prod.mk.injEq] at hrow;obtain ⟨h1,_⟩:=hrow;rw [← h1] at hok;cases hok)
end Go.Proofs.YtfdfdagbeeeomaaDoor.V2
namespace Go.Proofs.YtfdfdagbeeeomaaDoor.V2
open Go
open Go.RowKit
noncomputable def Ft (σ:AH) (g:Nat) (t:List Int → Bool):Bool:=match σ.get g with
 | some ob=>match ob with
  | .ints k l _ _=>match k with
   | .u32=>t l
   | _=>false
  | _=>false
 | none=>false
theorem glob_of {ρ:Ren} {σ:AH} {W:World} (hr:HR ρ σ W) {g n:Nat} {T:List UInt32} {t:List Int → Bool} (ht:∀ l,t l=true → l=wI T) (hn:T.length=n) (hg:∃ s,ρ g=some (g,(0,s))) (h:Ft σ g t=true):∀ i,i < n → W.cell? ⟨g,i,none⟩=some (.int .u32 (N32 (at32 T i))):=by
 unfold Ft at h
 split at h
 case h_2=>cases h
 rename_i ob hob
 split at h
 case h_2=>cases h
 rename_i k l e tl
 split at h
 case h_2=>cases h
 have hl:=ht _ h
 subst hl
 obtain ⟨s,hs⟩:=hg
 intro i hi
 have hi2:i < (wI T).length:=by rw [Lp,hn];exact hi
 obtain ⟨u,hu,hur⟩:=hr.load (i:=i) (a:=.int .u32 (wI T)[i]) hs hob (by simp only [AObj.at];rw [List.getElem?_eq_getElem hi2];rfl)
 simp only [VR] at hur
 subst hur
 have hu:W.cell? ⟨g,i,none⟩=_:=hu
 rw [hu]
 have:=wI_getD T i
 rw [List.getD_eq_getElem?_getD,List.getElem?_eq_getElem hi2] at this
 rw [← this];rfl
def isS (l:List Int):Bool:=decide (l=wI S0)
def isK (l:List Int):Bool:=decide (l=wI KK)
def hmI (k l:List Int):List Int:=bI (hmB (Eo k) (Eo l))
theorem K9 (ps:List (List Int)):(ps.map Eo).flatten=Eo ps.flatten:=by
 unfold Eo
 induction ps with
 | nil=>rfl
 | cons p ps ih=>rw [List.map_cons,List.flatten_cons,List.flatten_cons,List.map_append,ih]
theorem vr_bytes {ρ:Ren} (l:List UInt8):VR ρ (.ints .u8 (bI l)) (.agg (c8 l)):=by
 unfold VR bI c8 c8l
 rw [List.map_map];rfl
theorem vrs_two {ρ:Ren} {a b:AV} {vs:List Value} (h:VRs ρ [a,b] vs):∃ v u,vs=[v,u] ∧ VR ρ a v ∧ VR ρ b u:=by
 obtain ⟨v,m,rfl,hv,u,m',rfl,hu,hm⟩:=h
 have hm:m'=[]:=hm
 subst hm;exact ⟨v,u,rfl,hv,hu⟩
end Go.Proofs.YtfdfdagbeeeomaaDoor.V2
namespace Go.Proofs.YtfdfdagbeeeomaaDoor.V2
open Go
open Go.RowKit
noncomputable def hmA (args:List AV) (σ:AH):Out:=match args with
 | [k,s]=>match B6 std byI σ k with
  | (ok1,kl)=>match My std byI σ s with
   | (ok,ps)=>(ok1 && ok && Nat.ble kl.length 10000000000 && Nat.ble ps.length 1000000 && Nat.ble ps.flatten.length 10000000000 && Ft σ 2 isS && Ft σ 3 isK,.ints .u8 (hmI kl ps.flatten),σ)
 | _=>bad σ
noncomputable def hmF (g:FuncId → List AV → AH → Out) (f:FuncId) (args:List AV) (σ:AH):Out:=bif Nat.beq f 68 then hmA args σ else g f args σ
theorem hmF_ok {Y:List Yl} {g:FuncId → List AV → AH → Out} (hg:FnOk Tryd.prog 4 g Y):FnOk Tryd.prog 4 (hmF g) Y:=by
 have isS':∀ l,isS l=true → l=wI S0:=fun l h=>by simpa [isS] using h
 have isK':∀ l,isK l=true → l=wI KK:=fun l h=>by simpa [isK] using h
 intro f args σ h
 unfold hmF at h ⊢
 cases h14:Nat.beq f 68
 case false=>rw [h14] at h;rw [cond_false] at h ⊢;exact hg f args σ h
 rw [h14] at h
 have e:=Nat.eq_of_beq_eq_true h14
 subst e
 simp only [cond_true] at h ⊢
 unfold hmA at h ⊢
 split at h
 case h_2=>cases h
 rename_i k s
 refine ⟨⟨_,Tryd.func68,by kernel_rfl,by kernel_rfl⟩,fun ρ W vs _ hG hr hvs=>?_⟩
 obtain ⟨u,v,rfl,hu,hv⟩:=vrs_two hvs
 have hB:=fun h=>bytes_of hr hu h
 have hL:=fun h=>list_of hr hv h
 dsimp only at h ⊢
 generalize B6 std byI σ k=q1 at h hB ⊢
 generalize My std byI σ s=q at h hL ⊢
 obtain ⟨ok1,kl⟩:=q1
 obtain ⟨ok,ps⟩:=q
 simp only [Bool.and_eq_true,Nat.ble_eq] at h hB hL ⊢
 obtain ⟨⟨⟨⟨⟨⟨h0,h1⟩,h2⟩,h2'⟩,h3⟩,h4⟩,h5⟩:=h
 obtain ⟨us,hP⟩:=hL h1
 obtain ⟨s3,hs3⟩:=hG 3 (by decide)
 refine (hmac_any u v (Eo kl) us _ W (hB h0).1 (by rw [En];exact h2) hP (by rw [List.length_map];omega) (by rw [K9,En];omega) (glob_of hr isK' rfl (hG 3 (by decide)) h5) (glob_of hr isS' rfl (hG 2 (by decide)) h4) (hr.dom _ _ _ hs3).2.1).mono fun e W' ⟨e1,e2⟩=>?_
 subst e1
 rw [K9]
 exact ⟨_,ρ,rfl,hr.below e2,Stp.below (Nat.le_refl _) e2,vr_bytes _⟩
theorem hmA_mem (args:List AV) (σ:AH):(hmA args σ).2.2=σ:=by
 unfold hmA
 split
 ·rfl
 ·rfl
noncomputable def hmQ (l:List FV) (σ:FH) (k:KV):FR:=slV ((hmA (αL l) (αH σ)).1,(hmA (αL l) (αH σ)).2.1) fun v=>k v σ
theorem hmQ_sm (l:List FV) (σ:FH) (k:KV):Sm (hmQ l σ k) k (hmA (αL l) (αH σ)):=by
 have e:hmA (αL l) (αH σ)=((hmA (αL l) (αH σ)).1,(hmA (αL l) (αH σ)).2.1,αH σ):=by
  have:=hmA_mem (αL l) (αH σ)
  generalize hmA (αL l) (αH σ)=r at this
  obtain ⟨a,b,c⟩:=r
  cases this;rfl
 unfold hmQ
 rw [e]
 exact Sm.ofv (Dj _ _)
end Go.Proofs.YtfdfdagbeeeomaaDoor.V2
namespace Go.Proofs.YtfdfdagbeeeomaaDoor
open Go.RowKit
def TC:List UInt32:=[0,498536548,997073096,651767980,1994146192,1802195444,1303535960,1342533948,3988292384,4027552580,3604390888,3412177804,2607071920,2262029012,2685067896,3183342108]
def halfW (n:UInt32):UInt32:=sror n 4 ^^^ TC.getD (n &&& 15).toNat 0
def stepW (n:UInt32) (c:UInt8):UInt32:=halfW (halfW (n ^^^ c.toUInt32))
def crcW (bs:List UInt8):UInt32:=bs.foldl stepW 4294967295
def TabC (w:World):Prop:=∀ i,i < 16 → w.cell? ⟨1,i,none⟩=some (.int .u32 (N32 (TC.getD i 0)))
attribute [local go_sem] D1 E5 Du
theorem and15 (n:UInt32):(n &&& 15).toNat < 16:=by
 have:(n &&& 15).toNat=n.toNat &&& 15:=rfl
 rw [this]
 exact Nat.lt_of_le_of_lt Nat.and_le_right (by omega)
set_option maxHeartbeats 400000 in
theorem half_any (n:UInt32) (w:World) (hT:TabC w):Calls Tryd.prog 76 #[.int .u32 (N32 n)] w fun e w'=>e=.returned (.int .u32 (N32 (halfW n))) ∧ w'=w:=by
 have hs:N32 n / 16=N32 (sror n 4):=sror_eq n 4
 have h15:(15:Int)=N32 15:=rfl
 have hlt:=and15 n
 have hcell:w.cell? ⟨1,(N32 (n &&& 15)).toNat,none⟩=some (.int .u32 (N32 (TC.getD (n &&& 15).toNat 0))):=hT (n &&& 15).toNat hlt
 have hb:0 ≤ N32 (n &&& 15) ∧ N32 (n &&& 15) < 16:=by
  have:N32 (n &&& 15)=((n &&& 15).toNat:Int):=rfl
  omega
 go_enter Tryd.func76,Tryd.ntmps76
 go_wp2
 go_ret
 exact ⟨rfl,rfl⟩
theorem u8_u32 (c:UInt8):IntKind.u32.wrap (N8 c)=N32 c.toUInt32:=by
 have h:=c.toNat_lt
 have e:N8 c=((c.toNat:Nat):Int):=rfl
 rw [e,wrap_u32,Nat.mod_eq_of_lt (by omega)]
 unfold N32
 rw [UInt8.toNat_toUInt32]
theorem crc_step (n:UInt32) (bs:List UInt8) (k:Nat) (h:k < bs.length):(bs.take (k + 1)).foldl stepW n=stepW ((bs.take k).foldl stepW n) (at8 bs k):=by
 rw [List.take_succ_eq_append_getElem h,List.foldl_append]
 simp [at8,List.getD_eq_getElem?_getD,h]
def CrcR (bs:List UInt8) (n _c i:Value):Prop:=∃ k:Nat,k ≤ bs.length ∧ i=.int .i64 k ∧ n=.int .u32 (N32 ((bs.take k).foldl stepW 4294967295))
set_option maxHeartbeats 1000000 in
theorem crc_some (b off c:Nat) (bs:List UInt8) (w:World) (hT:TabC w) (hcell:∀ j,j < bs.length → w.cell? ⟨b,off + j,none⟩=some (.int .u8 (N8 (at8 bs j)))) (hl:bs.length ≤ 1000000000) :
  Calls Tryd.prog 67 #[.slice (some ⟨b,off,none⟩) bs.length c] w fun e w'=>e=.returned (.int .u32 (N32 (~~~ crcW bs))) ∧ w'=w:=by
 have HC:=Lib.hid hcell
 clear hcell
 go_enter Tryd.func67,Tryd.ntmps67
 go_wp2
 go_loop [3,5,8] (CrcR bs) (fun _ _ i=>bs.length - (intOf i).toNat)
 case atStart=>exact ⟨0,by omega,rfl,rfl⟩
 case round =>
  obtain ⟨k,hk,rfl,rfl⟩:=hrel
  by_cases hlt:k < bs.length
  ·have d1:decide ((k:Int) < (bs.length:Int))=true:=decide_eq_true (by omega)
   have g1:w.cell? ⟨b,off + k,none⟩=some (.int .u8 (N8 (at8 bs k))):=HC.out k hlt
   have hu:=u8_u32 (at8 bs k)
   have HS:=Lib.hid (crc_step 4294967295 bs k hlt)
   go_wp2_with (go_at_call 76;refine (half_any _ _ hT).mono ?_;rintro e w' ⟨rfl,hw⟩;rw [hw];clear hw w')
   go_round
   case rel=>exact ⟨k + 1,by omega,by go_num,by rw [HS.out];rfl⟩
   case measure=>simp [intOf];omega
  ·have d1:decide ((k:Int) < (bs.length:Int))=false:=decide_eq_false (by omega)
   obtain rfl:k=bs.length:=by omega
   go_wp2
   go_ret
   exact ⟨ret_int (Gi _),rfl⟩
set_option maxHeartbeats 1000000 in
theorem crc_none (a:Option Addr) (w:World):Calls Tryd.prog 67 #[.slice a 0 0] w fun e w'=>e=.returned (.int .u32 (N32 (~~~ crcW []))) ∧ w'=w:=by
 go_enter Tryd.func67,Tryd.ntmps67
 go_wp2
 go_loop [3,5,8] (fun n _ i=>n=.int .u32 (N32 4294967295) ∧ i=.int .i64 0) (fun _ _ _=>0)
 case atStart=>exact ⟨rfl,rfl⟩
 case round =>
  obtain ⟨rfl,rfl⟩:=hrel
  go_wp2
  go_ret
  exact ⟨ret_int (Gi _),rfl⟩
theorem crc_any (v:Value) (bs:List UInt8) (w:World) (hT:TabC w) (h:BSl w v bs) (hl:bs.length ≤ 1000000000) :
  Calls Tryd.prog 67 #[v] w fun e w'=>e=.returned (.int .u32 (N32 (~~~ crcW bs))) ∧ w'=w:=by
 rcases h with ⟨rfl,rfl⟩ | ⟨b,off,c,rfl,_,_,hc⟩ | ⟨a,rfl,rfl⟩
 ·exact crc_none none w
 ·exact crc_some b off c bs w hT hc hl
 ·exact crc_none (some a) w
end Go.Proofs.YtfdfdagbeeeomaaDoor
namespace Go.Proofs.YtfdfdagbeeeomaaDoor.V2
open Go
open Go.RowKit
def isTC (l:List Int):Bool:=decide (l=wI TC)
noncomputable def crA (args:List AV) (σ:AH):Out:=match args with
 | [s]=>((B6 std byI σ s).1 && Ft σ 1 isTC && Nat.ble (B6 std byI σ s).2.length 1000000000,.int .u32 (N32 (~~~ crcW (Eo (B6 std byI σ s).2))),σ)
 | _=>bad σ
noncomputable def crF (g:FuncId → List AV → AH → Out) (f:FuncId) (args:List AV) (σ:AH):Out:=bif Nat.beq f 67 then crA args σ else g f args σ
theorem crF_ok {Y:List Yl} {g:FuncId → List AV → AH → Out} (hg:FnOk Tryd.prog 4 g Y):FnOk Tryd.prog 4 (crF g) Y:=by
 intro f args σ h
 unfold crF at h ⊢
 cases hf:Nat.beq f 67
 case false=>rw [hf] at h;rw [cond_false] at h ⊢;exact hg f args σ h
 rw [hf] at h
 simp only [cond_true] at h ⊢
 have e:=Nat.eq_of_beq_eq_true hf
 subst e
 refine ⟨⟨_,Tryd.func67,by kernel_rfl,by kernel_rfl⟩,fun ρ W vs _ hG hr hvs=>?_⟩
 unfold crA at h ⊢
 split at h
 case h_2=>cases h
 rename_i s
 obtain ⟨v,mm,rfl,hv,hmm⟩:=hvs
 have hmm:mm=[]:=hmm
 subst hmm
 simp only [Bool.and_eq_true,Nat.ble_eq] at h
 obtain ⟨⟨h1,h2⟩,h3⟩:=h
 have hB:=(bytes_of hr hv h1).1
 have hlen:(Eo (B6 std byI σ s).2).length ≤ 1000000000:=by unfold Eo;rw [List.length_map];exact h3
 have hT:TabC W:=glob_of hr (fun l h=>by simpa [isTC] using h) rfl (hG 1 (by decide)) h2
 refine (crc_any v _ W hT hB hlen).mono ?_
 rintro e W' ⟨rfl,hw⟩
 subst hw
 exact ⟨_,ρ,rfl,hr,.refl (Nat.le_refl _),by unfold VR;rfl⟩
noncomputable section
def tcN:Nat:=9937593612760466100516450665319420528403982636753068485404800763335476026940182181175496972418787619281442302519629725716261212251300561153615832085954560
def hfN (y:Nat):Nat:=Nat.xor (Nat.shiftRight y 4) (Nat.land (Nat.shiftRight tcN (Nat.shiftLeft (Nat.land y 15) 5)) 4294967295)
theorem tc_at:∀ i,i < 16 → Nat.land (Nat.shiftRight tcN (Nat.shiftLeft i 5)) 4294967295=(TC.getD i 0).toNat:=by
 intro i hi
 match i,hi with
 | 0,_=>rfl
 | 1,_=>rfl
 | 2,_=>rfl
 | 3,_=>rfl
 | 4,_=>rfl
 | 5,_=>rfl
 | 6,_=>rfl
 | 7,_=>rfl
 | 8,_=>rfl
 | 9,_=>rfl
 | 10,_=>rfl
 | 11,_=>rfl
 | 12,_=>rfl
 | 13,_=>rfl
 | 14,_=>rfl
 | 15,_=>rfl
 | n + 16,h=>exact absurd h (by omega)
theorem hfN_eq (n:UInt32):hfN n.toNat=(halfW n).toNat:=by
 unfold hfN halfW
 have e1:Nat.land n.toNat 15=(n &&& 15).toNat:=rfl
 rw [e1,tc_at _ (and15 n),UInt32.toNat_xor]
 congr 1
 unfold sror
 rw [UInt32.toNat_ofNat']
 have h1:n.toNat / 2 ^ 4 < 2 ^ 32:=Nat.lt_of_le_of_lt (Nat.div_le_self _ _) n.toNat_lt
 rw [Nat.mod_eq_of_lt h1]
 exact Nat.shiftRight_eq_div_pow _ _
def crcK (n:Nat) (k:Nat → FR):Nat → Nat → FR:=Nat.rec (motive:=fun _=>Nat → Nat → FR) (fun _ x=>k x)
 (fun _ ih c x=>fN (Nat.div c 256) fun c'=>fN (hfN (Nat.xor x (Nat.mod c 256))) fun y=>fN (hfN y) fun y=>ih c' y) n
theorem crcK_eq:∀ (n:Nat) (k:Nat → FR) (c:Nat) (x:UInt32),crcK n k c x.toNat=k ((D0 n c).foldl stepW x).toNat
 | 0,_,_,_=>rfl
 | n + 1,k,c,x=>by
  show (fN (Nat.div c 256) fun c'=>fN (hfN (Nat.xor x.toNat (Nat.mod c 256))) fun y=>fN (hfN y) fun y=>crcK n k c' y)=_
  rw [Aj,Aj,Aj]
  have e:Nat.xor x.toNat (Nat.mod c 256)=(x ^^^ (UInt8.ofNat (c % 256)).toUInt32).toNat:=by
   rw [UInt32.toNat_xor,UInt8.toNat_toUInt32,UInt8.toNat_ofNat']
   show x.toNat ^^^ (c % 256)=_
   rw [Nat.mod_mod]
  rw [e,hfN_eq,hfN_eq]
  exact crcK_eq n k (c / 256) _
theorem unpN_add:∀ (a b c:Nat),D0 (a + b) c=D0 a c ++ D0 b (c / 256 ^ a)
 | 0,b,c=>by rw [Nat.zero_add,Nat.pow_zero,Nat.div_one];rfl
 | a + 1,b,c=>by
  rw [Nat.succ_add]
  show UInt8.ofNat (c % 256) :: D0 (a + b) (c / 256)=UInt8.ofNat (c % 256) :: (D0 a (c / 256) ++ D0 b (c / 256 ^ (a + 1)))
  rw [unpN_add a b,Nat.div_div_eq_div_mul,Nat.pow_succ,Nat.mul_comm 256]
theorem unpN_mod (a c:Nat):D0 a (c % 256 ^ a)=D0 a c:=by
 refine ext_unp (Bu a c) fun i hi=>?_
 rw [F8 a c i hi,Gd c a i hi]
def crcG (q:Nat) (k:Nat → Nat → FR):Nat → Nat → FR:=Nat.rec (motive:=fun _=>Nat → Nat → FR) k
 (fun _ ih c x=>fN (Nat.land c 115792089237316195423570985008687907853269984665640564039457584007913129639935) fun d=>fN (Nat.shiftRight c 256) fun c'=>crcK 32 (fun y=>ih c' y) d x) q
theorem crcG_eq:∀ (q r:Nat) (k:Nat → FR) (c:Nat) (x:UInt32),crcG q (fun c x=>crcK r k c x) c x.toNat=k ((D0 (32 * q + r) c).foldl stepW x).toNat
 | 0,r,k,c,x=>by
  show crcK r k c x.toNat=_
  rw [crcK_eq,Nat.mul_zero,Nat.zero_add]
 | q + 1,r,k,c,x=>by
  show (fN (Nat.land c 115792089237316195423570985008687907853269984665640564039457584007913129639935) fun d=>fN (Nat.shiftRight c 256) fun c'=>crcK 32 (fun y=>crcG q (fun c x=>crcK r k c x) c' y) d x.toNat)=_
  rw [Aj,Aj]
  have e1:Nat.land c 115792089237316195423570985008687907853269984665640564039457584007913129639935=c % 256 ^ 32:=by
   have:=Nat.and_two_pow_sub_one_eq_mod c 256
   rw [show (2:Nat) ^ 256=256 ^ 32 by rw [show (256:Nat)=2 ^ 8 by rfl,← Nat.pow_mul]] at this
   exact this
  have e2:Nat.shiftRight c 256=c / 256 ^ 32:=by
   have:=Nat.shiftRight_eq_div_pow c 256
   rw [show (2:Nat) ^ 256=256 ^ 32 by rw [show (256:Nat)=2 ^ 8 by rfl,← Nat.pow_mul]] at this
   exact this
  rw [e1,e2,crcK_eq 32 (fun y=>crcG q (fun c x=>crcK r k c x) (c / 256 ^ 32) y)]
  show crcG q (fun c x=>crcK r k c x) (c / 256 ^ 32) _=_
  rw [crcG_eq q r k,unpN_mod,← List.foldl_append,← unpN_add,show 32 + (32 * q + r)=32 * (q + 1) + r by omega]
def crB (c:Nat) (σ:FH) (k:KV):FR:=fN (bl c) fun n=>gB (Nat.ble n 1000000000) (crcG (Nat.div n 32) (fun c x=>crcK (Nat.mod n 32) (fun x=>fN (Nat.xor 4294967295 x) fun x=>k (.n .u32 x) σ) c x) c 4294967295)
def crQ (l:List FV) (σ:FH) (k:KV):FR:=k1L l fun x=>gB (Ft (αH σ) 1 isTC) (L4 false 1 σ x fun _ R=>kR (fun c=>crB c σ k) (fun l=>List.rec (motive:=fun _=>FR) (crB 1 σ k) (fun _ _ _=>.bad) l) (fun _ _=>.bad) R)
theorem not32 (x:UInt32):Nat.xor 4294967295 x.toNat=(~~~ x).toNat:=by
 have h:(4294967295:UInt32) ^^^ x= ~~~ x:=by
  apply UInt32.toBitVec_inj.1
  simp [← BitVec.allOnes_xor]
 rw [← h,UInt32.toNat_xor];rfl
theorem crB_ok {c:Nat} {σ:FH} {k:KV} (h:crB c σ k ≠ .bad):Nat.ble (unp c).length 1000000000=true ∧ crB c σ k=k (.n .u32 (~~~ crcW (unp c)).toNat) σ:=by
 unfold crB at h ⊢
 rw [Aj] at h ⊢
 rw [gB_eq] at h ⊢
 cases hb:Nat.ble (bl c) 1000000000 <;> rw [hb] at h
 ·exact absurd rfl h
 refine ⟨by rw [Bz];exact hb,?_⟩
 rw [cond_true]
 have:=crcG_eq (Nat.div (bl c) 32) (Nat.mod (bl c) 32) (fun x=>fN (Nat.xor 4294967295 x) fun x=>k (.n .u32 x) σ) c 4294967295
 have e:(4294967295:UInt32).toNat=4294967295:=rfl
 rw [e] at this
 have hd:32 * Nat.div (bl c) 32 + Nat.mod (bl c) 32=bl c:=Nat.div_add_mod (bl c) 32
 rw [hd] at this
 rw [this,Aj,not32]
 rfl
theorem toBs_unpI (c:Nat):Eo (A5 c)=unp c:=by
 unfold Eo A5
 rw [List.map_map]
 conv=>rhs;rw [← List.map_id (unp c)]
 exact List.map_congr_left fun b _=>by simp
theorem byI_unpI (c:Nat):byI (A5 c)=true:=by
 unfold byI A5
 rw [List.all_map,List.all_eq_true]
 intro b _
 have:=b.toNat_lt
 simp;omega
theorem crQ_sm (l:List FV) (σ:FH) (k:KV):Sm (crQ l σ k) k (crA (αL l) (αH σ)):=by
 intro h
 unfold crQ at h ⊢
 obtain ⟨x,rfl,h1⟩:=Dg h
 rw [h1] at h ⊢
 rw [gB_eq] at h ⊢
 cases hg:Ft (αH σ) 1 isTC <;> rw [hg] at h
 ·exact absurd rfl h
 rw [cond_true] at h ⊢
 obtain ⟨m,R,h2,h3⟩:=Fi h
 rw [h3] at h ⊢
 have fin:∀ (c:Nat) (L:List Int),rowB (αR R)=some L → L=A5 c → crB c σ k ≠ .bad → ∃ v σ',crA (αL [x]) (αH σ)=(true,αV v,αH σ') ∧ crB c σ k=k v σ':=fun c L e1 e2 hc=>by
  obtain ⟨g1,g2⟩:=crB_ok hc
  refine ⟨_,σ,?_,g2⟩
  have hbA:B6 std byI (αH σ) (αV x)=(true,A5 c):=by
   unfold B6
   rw [h2]
   simp only [e1]
   rw [e2,byI_unpI];rfl
  show ((B6 std byI (αH σ) (αV x)).1 && Ft (αH σ) 1 isTC && Nat.ble (B6 std byI (αH σ) (αV x)).2.length 1000000000,AV.int .u32 (N32 (~~~ crcW (Eo (B6 std byI (αH σ) (αV x)).2))),αH σ)=_
  rw [hbA,hg,toBs_unpI]
  have hl:(A5 c).length=(unp c).length:=by unfold A5;rw [List.length_map]
  simp only [hl,g1]
  rfl
 cases R with
 | bs c=>exact fin c _ rfl rfl h
 | cells l =>
  cases l with
  | nil=>exact fin 1 [] rfl rfl h
  | cons _ _=>exact absurd rfl h
 | ints k l=>exact absurd rfl h
end
end Go.Proofs.YtfdfdagbeeeomaaDoor.V2
namespace Go.Proofs.YtfdfdagbeeeomaaDoor.V2.S
open Go
set_option maxRecDepth 100000
set_option linter.unusedVariables false
def mayL:List FV:=[.o .fn,.fn (.func 120) [] [],.fn (.func 120) [] [],.fn (.func 121) [] [],.fn (.func 122) [] [],.fn (.func 120) [] []]
structure Gl (m:T FObj):Prop where
 f:∃ e t,Am m 0 (.cells mayL e t)
 c:∃ l e t,Am m 1 (.ints .u32 l e t) ∧ isTC l=true
 s:∃ l e t,Am m 2 (.ints .u32 l e t) ∧ isS l=true
 k:∃ l e t,Am m 3 (.ints .u32 l e t) ∧ isK l=true
theorem Gl.kq {xs:List Nat} {n:Nat} {m m':T FObj} (h:Gl m) (k:Kq xs n m m') (hn:4 ≤ n) (hx:∀ x ∈ xs,4 ≤ x):Gl m':=by
 obtain ⟨⟨e0,t0,h0⟩,⟨l1,e1,t1,h1,g1⟩,⟨l2,e2,t2,h2,g2⟩,⟨l3,e3,t3,h3,g3⟩⟩:=h
 have w:∀ i,i < 4 → ∀ x ∈ xs,i ≠ x:=fun i hi x hx'=>by have:=hx x hx';omega
 exact ⟨⟨e0,t0,k _ _ (by omega) (w 0 (by omega)) h0⟩,⟨l1,e1,t1,k _ _ (by omega) (w 1 (by omega)) h1,g1⟩,⟨l2,e2,t2,k _ _ (by omega) (w 2 (by omega)) h2,g2⟩,⟨l3,e3,t3,k _ _ (by omega) (w 3 (by omega)) h3,g3⟩⟩
theorem Gl.kp {n:Nat} {m m':T FObj} (h:Gl m) (k:Kp n m m') (hn:4 ≤ n):Gl m':=h.kq (Kq.of k []) hn (fun x hx=>absurd hx List.not_mem_nil)
theorem globM {n g:Nat} {m:T FObj} {l:List Int} {e:TypeId} {t:Tl} {f:List Int → Bool} (h:Am m g (.ints .u32 l e t)) (hf:f l=true):Ft (αH ⟨n,m⟩) g f=true:=by
 unfold Ft
 rw [αH_get,show (FH.mk n m).mem.get g=some _ from h]
 exact hf
theorem Lt (l:Bs):A5 (Ac l)=bI l:=by
 unfold A5 bI;rw [Dl];rfl
theorem byI_bI (l:Bs):byI (bI l)=true:=by rw [← Lt];exact byI_unpI _
theorem bytA {n N:Nat} {m:T FObj} {v:FV} {x:Bs} (h:Sl m N v x):B6 std byI (αH ⟨n,m⟩) (αV v)=(true,bI x):=by
 rcases h with ⟨rfl,rfl⟩ | ⟨b,o,L,K,fl,l,el,tl,h1,rfl,h3,h4,h6,rfl⟩
 ·rfl
 ·have e:Br std false 1 (αH ⟨n,m⟩) (αV (.sl b o L K fl 1))=(true,L,.ints .u8 (bI ((l.drop o).take L))):=by
   show (match (αH ⟨n,m⟩).get b with
    | some ob=>match ob with
     | .ints ik l _ _=>(!false && Nat.beq 1 1 && std.leN (std.addN o (std.mulN L 1)) (std.len l),L,Row.ints ik (std.part l o (std.mulN L 1)))
     | .cells l _ _=>(!false && Nat.beq 1 1 && Nat.ble (o + L * 1) l.length && l.all AV.one,L,.cells ((l.drop o).take (L * 1)))
     | .dead=>(!false && Nat.beq L 0,0,.cells [])
     | .map _=>(false,0,.cells [])
     | .hid=>(false,0,.cells [])
    | none=>(false,0,.cells []))=_
   rw [αH_get,show (FH.mk n m).mem.get b=some _ from h3]
   show (!false && Nat.beq 1 1 && std.leN (std.addN o (std.mulN L 1)) (std.len (A5 (Ac l))),L,Row.ints .u8 (std.part (A5 (Ac l)) o (std.mulN L 1)))=_
   rw [Lt]
   have e1:std.leN (std.addN o (std.mulN L 1)) (std.len (bI l))=true:=by
    show Nat.ble (o + L * 1) (bI l).length=true
    exact A4 (by unfold bI;rw [List.length_map];omega)
   have e2:std.part (bI l) o (std.mulN L 1)=bI ((l.drop o).take L):=by
    show ((bI l).drop o).take (L * 1)=_
    unfold bI;rw [Nat.mul_one,List.map_take,List.map_drop]
   rw [e1,e2];rfl
  unfold B6
  rw [e]
  show (true && byI (bI _),bI _)=_
  rw [byI_bI];rfl
theorem packI_bI (l:Bs):G6 (bI l)=some (Ac l):=by
 unfold bI
 induction l with
 | nil=>rfl
 | cons b l ih =>
  have hb:=b.toNat_lt
  show (bif Nat.blt b.toNat 256 then _ else _)=_
  rw [show Nat.blt b.toNat 256=true by rw [Nat.blt_eq];exact hb,cond_true,ih];rfl
def HmacS (H:HF):Prop:=∀ {n N pb:Nat} {m:T FObj} {kv dv:FV} {K D:Bs} {e:TypeId} {t:Tl},Gl m → Sl m N kv K → Am m pb (.cells [dv] e t) → Sl m N dv D → K.length ≤ 900000 → D.length ≤ 900000 → Ms H [kv,.sl pb 0 1 1 true 1] n m (.bs (Ac (hmB K D)))
theorem hm_s:HmacS hmQ:=fun {n N pb m kv dv K D e t} hG hk hp hd hK hD k P hf=>by
 have h1:B6 std byI (αH ⟨n,m⟩) (αV kv)=(true,bI K):=bytA hk
 have h2:B6 std byI (αH ⟨n,m⟩) (αV dv)=(true,bI D):=bytA hd
 obtain ⟨⟨_,_,_⟩,⟨l1,e1,t1,g1,i1⟩,⟨l2,e2,t2,g2,i2⟩,⟨l3,e3,t3,g3,i3⟩⟩:=hG
 have hone:AV.one (αV dv)=true:=by rcases hd with ⟨rfl,_⟩ | ⟨_,_,_,_,_,_,_,_,_,rfl,_⟩ <;> rfl
 have e:Br std false 1 (αH ⟨n,m⟩) (αV (.sl pb 0 1 1 true 1))=(true,1,.cells [αV dv]):=by
  show (match (αH ⟨n,m⟩).get pb with
    | some ob=>match ob with
     | .ints ik l _ _=>(!false && Nat.beq 1 1 && std.leN (std.addN 0 (std.mulN 1 1)) (std.len l),1,Row.ints ik (std.part l 0 (std.mulN 1 1)))
     | .cells l _ _=>(!false && Nat.beq 1 1 && Nat.ble (0 + 1 * 1) l.length && l.all AV.one,1,.cells ((l.drop 0).take (1 * 1)))
     | .dead=>(!false && Nat.beq 1 0,0,.cells [])
     | .map _=>(false,0,.cells [])
     | .hid=>(false,0,.cells [])
    | none=>(false,0,.cells []))=_
  rw [αH_get,show (FH.mk n m).mem.get pb=some _ from hp]
  show (!false && Nat.beq 1 1 && Nat.ble (0 + 1 * 1) 1 && (AV.one (αV dv) && true),1,Row.cells [αV dv])=_
  rw [hone];rfl
 have h3:My std byI (αH ⟨n,m⟩) (αV (.sl pb 0 1 1 true 1))=(true,[bI D]):=by
  unfold My
  rw [e]
  show ((match Gn std byI (αH ⟨n,m⟩) [αV dv] with
   | (ok',m)=>(true && ok' && true,m)):Bool × List (List Int))=_
  unfold Gn
  rw [h2];rfl
 have h4:hmA (αL [kv,.sl pb 0 1 1 true 1]) (αH ⟨n,m⟩)=(true,.ints .u8 (bI (hmB K D)),αH ⟨n,m⟩):=by
  show ((match B6 std byI (αH ⟨n,m⟩) (αV kv) with
  | (ok1,kl)=>match My std byI (αH ⟨n,m⟩) (αV (.sl pb 0 1 1 true 1)) with
   | (ok,ps)=>(ok1 && ok && Nat.ble kl.length 10000000000 && Nat.ble ps.length 1000000 && Nat.ble ps.flatten.length 10000000000 && Ft (αH ⟨n,m⟩) 2 isS && Ft (αH ⟨n,m⟩) 3 isK,AV.ints .u8 (hmI kl ps.flatten),αH ⟨n,m⟩)):Out)=_
  rw [h1,h3]
  show ((true && true && Nat.ble (bI K).length 10000000000 && Nat.ble 1 1000000 && Nat.ble ([bI D].flatten).length 10000000000 && Ft (αH ⟨n,m⟩) 2 isS && Ft (αH ⟨n,m⟩) 3 isK,AV.ints .u8 (hmI (bI K) [bI D].flatten),αH ⟨n,m⟩):Out)=_
  rw [globM g2 i2,globM g3 i3,show [bI D].flatten=bI D by simp]
  have a1:(bI K).length=K.length:=by unfold bI;rw [List.length_map]
  have a2:(bI D).length=D.length:=by unfold bI;rw [List.length_map]
  have a3:hmI (bI K) (bI D)=bI (hmB K D):=by unfold hmI;rw [toBs_bI,toBs_bI]
  rw [a1,a2,a3,A4 (show K.length ≤ 10000000000 by omega),A4 (show D.length ≤ 10000000000 by omega)];rfl
 show slV ((hmA (αL [kv,.sl pb 0 1 1 true 1]) (αH ⟨n,m⟩)).1,(hmA (αL [kv,.sl pb 0 1 1 true 1]) (αH ⟨n,m⟩)).2.1) (fun v=>k v ⟨n,m⟩)=P
 rw [h4]
 show fV (βV (.ints .u8 (bI (hmB K D)))) (fun v=>k v ⟨n,m⟩)=P
 rw [Fu,show βV (.ints .u8 (bI (hmB K D)))=.bs (Ac (hmB K D)) by simp only [βV,packI_bI]]
 exact hf
def crcN (l:Bs):Nat:=(~~~ crcW l).toNat
def CrcS (H:HF):Prop:=∀ {n N:Nat} {m:T FObj} {v:FV} {x:Bs},Gl m → Sl m N v x → x.length ≤ 900000 → Ms H [v] n m (.n .u32 (crcN x))
theorem crcN_lt (l:Bs):crcN l < 4294967296:=UInt32.toNat_lt _
theorem crB_val {x:Bs} {σ:FH} {k:KV} (hx:x.length ≤ 900000):crB (Ac x) σ k=k (.n .u32 (crcN x)) σ:=by
 unfold crB
 rw [Aj,gB_eq,Ck,A4 (show x.length ≤ 1000000000 by omega),cond_true]
 have:=crcG_eq (Nat.div x.length 32) (Nat.mod x.length 32) (fun x=>fN (Nat.xor 4294967295 x) fun x=>k (.n .u32 x) σ) (Ac x) 4294967295
 have e:(4294967295:UInt32).toNat=4294967295:=rfl
 rw [e] at this
 have hd:32 * Nat.div x.length 32 + Nat.mod x.length 32=x.length:=Nat.div_add_mod x.length 32
 rw [hd] at this
 rw [this,Aj,not32]
 have h2:D0 x.length (Ac x)=x:=by
  have:=Dl x
  unfold unp at this
  rwa [Ck] at this
 rw [h2];rfl
theorem crc_s:CrcS crQ:=fun {n N m v x} hG hv hx k P hf=>by
 obtain ⟨⟨_,_,_⟩,⟨l1,e1,t1,g1,i1⟩,_,_⟩:=hG
 show gB (Ft (αH ⟨n,m⟩) 1 isTC) (L4 false 1 ⟨n,m⟩ v fun _ R=>kR (fun c=>crB c ⟨n,m⟩ k) (fun l=>List.rec (motive:=fun _=>FR) (crB 1 ⟨n,m⟩ k) (fun _ _ _=>.bad) l) (fun _ _=>.bad) R)=P
 rw [globM g1 i1,gB_eq,cond_true]
 rcases hv with ⟨rfl,rfl⟩ | ⟨b,o,L,K,fl,l,el,tl,h1,rfl,h3,h4,h6,rfl⟩
 ·show crB (Ac []) ⟨n,m⟩ k=P
  rw [crB_val hx];exact hf
 ·rw [rowQs,rowSb h3 h4]
  show crB (Ac _) ⟨n,m⟩ k=P
  rw [crB_val hx];exact hf
structure Cy where
 hm:Bs → Bs → Bs
 cr:Bs → Nat
 h32:∀ k d,(hm k d).length=32
 c32:∀ x,cr x < 4294967296
def HmacY (Y:Cy) (H:HF):Prop:=∀ {n N pb:Nat} {m:T FObj} {kv dv:FV} {K D:Bs} {e:TypeId} {t:Tl},Gl m → Sl m N kv K → Am m pb (.cells [dv] e t) → Sl m N dv D → K.length ≤ 900000 → D.length ≤ 900000 → Ms H [kv,.sl pb 0 1 1 true 1] n m (.bs (Ac (Y.hm K D)))
def CrcY (Y:Cy) (H:HF):Prop:=∀ {n N:Nat} {m:T FObj} {v:FV} {x:Bs},Gl m → Sl m N v x → x.length ≤ 900000 → Ms H [v] n m (.n .u32 (Y.cr x))
/-! Arrays of 32 bytes. -/
structure L32 (x:Bs):Prop where
 h:x.length=32
theorem L32.z:L32 (List.replicate 32 0):=⟨List.length_replicate⟩
theorem zero32:(115792089237316195423570985008687907853269984665640564039457584007913129639936:Nat)=Ac (List.replicate 32 0):=by decide
theorem bp32 {x:Bs} (hx:x.length=32):At (Ac x) 0 32=Ac x:=by
 rw [bpartP (by omega),List.drop_zero,List.take_of_length_le (by omega)]
theorem Ie {x:Bs} {r P:FR} (hx:L32 x) (h:r=P):(Bool.rec .bad r (Nat.ble (Nat.add 0 32) (bl (Ac x))):FR)=P:=by
 rw [Ck,hx.h];exact h
theorem fnP {x:Bs} {f:Nat → FR} {P:FR} (hx:L32 x) (h:f (Ac x)=P):fN (At (Ac x) 0 32) f=P:=by
 rw [Aj,bp32 hx.h];exact h
theorem bapp_nil (a:Bs):Bx (Ac a) (Ac [])=Ac a:=by rw [bappP,List.append_nil]
section
variable {O:Oz} (hO:O=zO) {P:FR} {c:FV → FR} {k:KV} {n:Nat} {m:T FObj}
include hO
theorem al32 {e:TypeId} (hn:n < 1000000) (h:k (.p n 0) ⟨n + 1,mp m n (.bs (Ac (List.replicate 32 0)) e .exact)⟩=P):O.al (.bs 115792089237316195423570985008687907853269984665640564039457584007913129639936 e .exact) ⟨n,m⟩ k=P:=by
 rw [zero32];exact alO hO hn h
theorem ln32 {b:Nat} {x:Bs} {e:TypeId} {t:Tl} (ha:Am m b (.bs (Ac x) e t)) (hx:L32 x) (h:c (.bs (Ac x))=P):O.ln 32 (.p b 0) ⟨n,m⟩ c=P:=by
 subst hO
 show (gM ⟨n,m⟩ b fun ob=>FObj.rec (motive:=fun _=>FR) .bad
 (fun l _ _=>Bo 0 l fun l=>Be 32 l fun l=>A9 l 0 fun m=>Bool.rec .bad (agF l c) (Nat.beq m 32 && Nat.ble 1 32))
 (fun s _ _=>Bool.rec .bad (fN (At s 0 32) fun m=>c (.bs m)) (Nat.ble (Nat.add 0 32) (bl s)))
 (fun k l e t=>slV ((αO (.ints k l e t)).readOk std 0 32,(αO (.ints k l e t)).read std 0 32) c) (fun _=>.bad) .bad ob)=P
 rw [Eu ha]
 exact Ie hx (fnP hx h)
theorem st32 {b:Nat} {x y:Bs} {e:TypeId} {t:Tl} (ha:Am m b (.bs (Ac y) e t)) (hy:L32 y) (hx:L32 x) (ht:∀ r,gW t r=r) (h:k (.tup []) ⟨n,mp m b (.bs (Ac x) e t)⟩=P):O.st 32 (.p b 0) (.bs (Ac x)) ⟨n,m⟩ k=P:=by
 subst hO
 obtain ⟨hx⟩:=hx
 obtain ⟨hy⟩:=hy
 show (gM ⟨n,m⟩ b fun ob=>woF ob 32 0 (.bs (Ac x)) fun ob=>pM ⟨n,m⟩ b ob fun σ=>k (.tup []) σ)=P
 rw [Eu ha]
 show gW t (gT (Nat.beq (bl (Ac x)) 32) (gT (Nat.ble (Nat.add 0 (bl (Ac x))) (bl (Ac y))) (fN (Bx (At (Ac y) 0 0) (Bx (Ac x) (At (Ac y) (Nat.add 0 (bl (Ac x))) (Nat.sub (bl (Ac y)) (Nat.add 0 (bl (Ac x))))))) fun s'=>pM ⟨n,m⟩ b (.bs s' e t) fun σ=>k (.tup []) σ)))=P
 rw [ht,Ck,Ck,hx,hy,Aj]
 show gT (Nat.beq 32 32) (gT (Nat.ble 32 32) (pM ⟨n,m⟩ b (.bs (Bx (At (Ac y) 0 0) (Bx (Ac x) (At (Ac y) 32 0))) e t) fun σ=>k (.tup []) σ))=P
 rw [gTt (b:=Nat.beq 32 32) rfl,gTt (b:=Nat.ble 32 32) rfl,bpartP (by omega),bpartP (by omega),List.take_zero,List.take_zero,bapp_nil,bappP,List.nil_append,pM_mp];exact h
theorem bxB {e:TypeId} {x:Bs} (hx:x ≠ []) (hn:n < 1000000) (h:k (.p n 0) ⟨n + 1,mp m n (.bs (Ac x) e .exact)⟩=P):O.bx e (.bs (Ac x)) ⟨n,m⟩ k=P:=by
 subst hO
 show gT (Nat.ble 1 (bl (Ac x))) (nM ⟨n,m⟩ (.bs (Ac x) e .exact) fun b σ=>k (.p b 0) σ)=P
 have:=List.length_pos_iff.2 hx
 rw [Ck,gTt (A4 (show 1 ≤ x.length by omega)),Bg hn];exact h
theorem bsL {e:TypeId} {v:FV} {N:Nat} {x:Bs} {m0:T FObj} (hv:Sl m0 N v x) (hn:n < 1000000) (h:k (.sl n 0 1 1 true 1) ⟨n + 1,mp m n (.cells [v] e .exact)⟩=P):O.bs e 1 1 [v] ⟨n,m⟩ k=P:=by
 subst hO
 rcases hv with ⟨rfl,_⟩ | ⟨_,_,_,_,_,_,_,_,_,rfl,_⟩
 ·show (nM ⟨n,m⟩ (.cells [.o .sl] e .exact) fun b σ=>k (.sl b 0 1 1 true 1) σ)=P
  rw [Bg hn];exact h
 ·show (nM ⟨n,m⟩ (.cells [.sl _ _ _ _ _ 1] e .exact) fun b σ=>k (.sl b 0 1 1 true 1) σ)=P
  rw [Bg hn];exact h
end
theorem Sl.own32 {m:T FObj} {N b:Nat} {x:Bs} {fl:Bool} {el:TypeId} {tl:Tl} (h:Am m b (.bs (Ac x) el tl)) (hb:b < N) (hx:L32 x):Sl m N (.sl b 0 32 32 fl 1) x:=.inr ⟨b,0,32,32,fl,x,el,tl,hb,rfl,h,by have:=hx.h;omega,by omega,by have:=hx.h;rw [List.drop_zero,List.take_of_length_le (by omega)]⟩
theorem hmB_len (k d:Bs):(hmB k d).length=32:=by
 unfold hmB hmS;exact Dw _
theorem L32.hm (Y:Cy) (k d:Bs):L32 (Y.hm k d):=⟨Y.h32 k d⟩
def Yr:Cy:=⟨hmB,crcN,hmB_len,crcN_lt⟩
theorem Yr_hm:Yr.hm=hmB:=by simp only [Yr]
theorem Yr_cr:Yr.cr=crcN:=by simp only [Yr]
theorem hm_y:HmacY Yr hmQ:=by
 have h:=@hm_s
 unfold HmacS at h
 unfold HmacY
 rw [Yr_hm];exact @h
theorem crc_y:CrcY Yr crQ:=by
 have h:=@crc_s
 unfold CrcS at h
 unfold CrcY
 rw [Yr_cr];exact @h
end Go.Proofs.YtfdfdagbeeeomaaDoor.V2.S
namespace Go.Proofs.YtfdfdagbeeeomaaDoor.V2.S
open Go
set_option maxRecDepth 100000
set_option linter.unusedVariables false
def Pts (m:T FObj) (N:Nat):List FV → List Bs → Prop
 | [],[]=>True
 | v :: vs,p :: ps=>Sl m N v p ∧ Pts m N vs ps
 | _,_=>False
theorem Pts.kp {m m':T FObj} {N:Nat} (k:Kp N m m'):∀ {vs:List FV} {ps:List Bs},Pts m N vs ps → Pts m' N vs ps
 | [],[],_=>trivial
 | _ :: _,_ :: _,h=>⟨h.1.kp k,Pts.kp k h.2⟩
 | [],_ :: _,h=>h.elim
 | _ :: _,[],h=>h.elim
theorem Pts.len {m:T FObj} {N:Nat}:∀ {vs:List FV} {ps:List Bs},Pts m N vs ps → vs.length=ps.length
 | [],[],_=>rfl
 | _ :: _,_ :: _,h=>by rw [List.length_cons,List.length_cons,Pts.len h.2]
 | [],_ :: _,h=>h.elim
 | _ :: _,[],h=>h.elim
theorem Pts.at {m:T FObj} {N:Nat}:∀ {vs:List FV} {ps:List Bs} {i:Nat},Pts m N vs ps → i < vs.length → ∃ v p,vs[i]?=some v ∧ ps[i]?=some p ∧ Sl m N v p
 | _ :: _,_ :: _,0,h,_=>⟨_,_,rfl,rfl,h.1⟩
 | _ :: _,_ :: _,i + 1,h,hi=>by
  obtain ⟨v,p,h1,h2,h3⟩:=Pts.at (i:=i) h.2 (by simpa using hi)
  exact ⟨v,p,by simpa using h1,by simpa using h2,h3⟩
 | [],_,_,_,hi=>absurd hi (Nat.not_lt_zero _)
 | _ :: _,[],_,h,_=>h.elim
def Es (p:Bs):Bs:=Ak p.length ++ p
def Ec (l:Bs) (ps:List Bs):Bs:=D3 l ++ ps.flatMap Es
section
variable (Y:Cy)
def C9 (K l:Bs) (ps:List Bs):Bs:=Y.hm K (Ec l ps)
def Dr (k d:Bs):Nat:=beV ((Y.hm k d).take 8)
def Lo (K:Bs) (w s e c v:Nat):Bs:=C9 Y K [119,97,121] [[UInt8.ofNat w],Ak s,Ak e,Ae c,Ae v]
def Fs (K:Bs):Bs:=C9 Y K [104,101,108,108,111] []
def Bf (K:Bs) (s e:Nat):Nat:=Dr Y (C9 Y K [116,111,107,101,110] []) (Ak s ++ Ak e)
theorem L32.der (K l:Bs) (ps:List Bs):L32 (C9 Y K l ps):=⟨Y.h32 _ _⟩
theorem E6 (k d:Bs):Dr Y k d < 18446744073709551616:=by
 have h1:=beV_lt ((Y.hm k d).take 8)
 have h2:((Y.hm k d).take 8).length=8:=by rw [List.length_take,Y.h32];rfl
 rw [h2] at h1
 have h3:(256:Nat) ^ 8=18446744073709551616:=by decide
 unfold Dr;omega
end
theorem partsB_take {l:Bs} {ps:List Bs} {i:Nat} {p:Bs} (h:ps[i]?=some p):(D3 l ++ (ps.take i).flatMap Es) ++ Ak p.length ++ p=D3 l ++ (ps.take (i + 1)).flatMap Es:=by
 rw [List.take_add_one,h,List.flatMap_append]
 show _=_ ++ (_ ++ [p].flatMap Es)
 rw [List.flatMap_singleton]
 unfold Es
 rw [List.append_assoc,List.append_assoc]
theorem flat_take_le (ps:List Bs) (i:Nat):((ps.take i).flatMap Es).length ≤ (ps.flatMap Es).length:=by
 have:ps.flatMap Es=(ps.take i).flatMap Es ++ (ps.drop i).flatMap Es:=by rw [← List.flatMap_append,List.take_append_drop]
 rw [this,List.length_append];omega
def RingAt (m:T FObj) (N rb:Nat) (K:Bs):Prop:=rb < N ∧ ∃ v,Am m rb (.cells [v] 122 .exact) ∧ Sl m N v K ∧ 0 < K.length ∧ K.length ≤ 64
theorem RingAt.kp {m m':T FObj} {N rb:Nat} {K:Bs} (h:RingAt m N rb K) (k:Kp N m m'):RingAt m' N rb K:=by
 obtain ⟨h1,v,h2,h3,h4⟩:=h
 exact ⟨h1,v,k _ _ h1 h2,h3.kp k,h4⟩
theorem RingAt.up {m:T FObj} {N N' rb:Nat} {K:Bs} (h:RingAt m N rb K) (k:N ≤ N'):RingAt m N' rb K:=by
 obtain ⟨h1,v,h2,h3,h4⟩:=h
 exact ⟨by omega,v,h2,h3.up k,h4⟩
end Go.Proofs.YtfdfdagbeeeomaaDoor.V2.S
namespace Go.Proofs.YtfdfdagbeeeomaaDoor.V2.S
open Go
set_option maxRecDepth 100000
set_option maxHeartbeats 4000000
set_option linter.unusedVariables false
attribute [local irreducible] fN fO nM gM pM Phi.fn mp bl At Bx Ce Ac C9 Dr
def MayS (H:HF):Prop:=∀ {n N:Nat} {m:T FObj} {v:FV} {K:Bs},Sl m N v K → 0 < K.length → K.length ≤ 64 → Ms H [v] n m (.b true)
theorem may_s {O:Oz} (hO:O=zO) (Φ:Phi):MayS (p57 O Φ):=fun {n N m v K} hv h0 h6 k P hf=>by
 rcases hv with ⟨rfl,rfl⟩ | ⟨b,o,L,K,fl,l,el,tl,g1,rfl,g2,g3,g4,rfl⟩
 ·exact absurd h0 (Nat.lt_irrefl _)
 ·rw [Hn g3] at h0 h6
  conv=>lhs;whnf
  refine lvS hO ?_
  conv=>lhs;whnf
  refine gtT hO h0 ?_
  conv=>lhs;whnf
  refine lvS hO ?_
  conv=>lhs;whnf
  refine leT hO h6 ?_
  conv=>lhs;whnf
  exact hf
def NewG (H:HF):Prop:=∀ {n:Nat} {m:T FObj} {v:FV} {K:Bs},Sl m n v K → 0 < K.length → K.length ≤ 64 → Dc 3 [] H [v] n m (fun r n' m'=>∃ rb,r=.tup [.p rb 0,.n .i64 0] ∧ n ≤ rb ∧ RingAt m' n' rb K)
theorem newg_s {O:Oz} (hO:O=zO) (Φ:Phi) (HM:MayS (Phi.fn Φ 57)) (HC:F0 (Phi.fn Φ 29)):NewG (p45 O Φ):=fun {n m v K} hv h0 h6 k P hn hf=>by
 have hK:K ≠ []:=List.length_pos_iff.1 h0
 conv=>lhs;whnf
 (refine HM hv h0 h6 _ _ ?_)
 conv=>lhs;whnf
 (refine HC hv (fun h=>absurd h hK) (by omega) _ _ (by omega) (fun v1 n1 m1 h1 g1 k1 q1=>?_);have k1p:=Kq.kp k1;obtain ⟨b1,rfl,c1,c2,c3⟩:=q1.ne hK)
 conv=>lhs;whnf
 refine ubu hO ?_
 conv=>lhs;whnf
 refine bxA hO (by omega) (by rfl) ?_
 conv=>lhs;whnf
 exact hf _ _ _ (by omega) (by omega) (by exact Kq.ml (Kq.dp k1p)) ⟨n1,rfl,by omega,by omega,_,(by exact asm),Sl.own (by exact an c3) (by omega) (Nat.le_refl _),h0,h6⟩
def DeriveS (Y:Cy) (H:HF):Prop:=∀ {n:Nat} {m:T FObj} {kv pv:FV} {K l:Bs} {vs:List FV} {ps:List Bs},Gl m → 4 ≤ n → Sl m n kv K → 0 < K.length → K.length ≤ 64 → l.length ≤ 1000 → Pts m n vs ps → (pv=.o .sl ∧ ps=[] ∨ ∃ pb e t,pb < n ∧ pv=.sl pb 0 vs.length vs.length true 1 ∧ Am m pb (.cells vs e t)) → ps.length ≤ 5 → (∀ p ∈ ps,p.length ≤ 1000) → (∀ p ∈ ps,p ≠ []) → Ret 60 H [kv,.s (Ac l),pv] n m (.tup [.bs (Ac (C9 Y K l ps)),.n .i64 0])
theorem parts_len {ps:List Bs} (h:∀ p ∈ ps,p.length ≤ 1000):(ps.flatMap Es).length ≤ 1004 * ps.length:=by
 induction ps with
 | nil=>exact Nat.le_refl _
 | cons p ps ih =>
  have h1:=ih (fun q hq=>h q (List.mem_cons_of_mem _ hq))
  have h2:=h p List.mem_cons_self
  rw [List.flatMap_cons,List.length_append,List.length_cons]
  have:(Es p).length=4 + p.length:=by unfold Es;rw [List.length_append,Ai]
  omega
theorem derive_s {O:Oz} {Y:Cy} (hO:O=zO) (Φ:Phi) (HM:MayS (Phi.fn Φ 57)) (HT:LayT (Phi.fn Φ 75)) (H4:Hf (Phi.fn Φ 39) .u32 4 4294967296 4 Ak) (HB:Ll (Phi.fn Φ 26)) (HD:It (Phi.fn Φ 27)) (HH:HmacY Y (Phi.fn Φ 68)):DeriveS Y (p74 O Φ):=fun {n m kv pv K l vs ps} hG hn4 hk h0 h6 hl hp hpv h5 hps hpe k P hn hf=>by
 have hder:=L32.der Y K l ps
 have hpl:=parts_len hps
 have hvl:=hp.len
 have htl:=Bj l
 have hpb:(Ec l ps).length=(D3 l).length + (ps.flatMap Es).length:=List.length_append
 rcases hpv with ⟨rfl,rfl⟩ | ⟨pb,e0,t0,hpb2,rfl,hpa⟩
 ·conv=>lhs;whnf
  ((refine al32 hO (by omega) ?_))
  conv=>lhs;whnf
  (refine HM (hk.kp (by exact Kq.kp (Kq.ml kr))) h0 h6 _ _ ?_)
  conv=>lhs;whnf
  (refine lsS hO ?_;simp only [List.length_cons,List.length_nil,Nat.zero_add])
  conv=>lhs;whnf
  refine gtF hO (by omega) ?_
  conv=>lhs;whnf
  refine alO hO (by omega) ?_
  conv=>lhs;whnf
  (refine HT (bs:=[]) (s:=l) (WrA.new (by omega) (by exact asm)) (by omega) (by rw [List.length_nil];omega) _ _ (by omega) (fun v1 n1 m1 h1 g1 k1 q1=>?_);obtain ⟨rfl,w1⟩:=q1)
  conv=>lhs;whnf
  refine lvN hO ?_
  conv=>lhs;whnf
  (refine lpI hO (fun t e n' m'=>n'=n1 ∧ m'=m1 ∧ e=eof [(6,.p n 0),(7,.n .i64 0),(26,.n .i64 0)]) (by rintro t e n' m' ⟨rfl,_,_⟩;omega) ?_ _ 0 _ _ _ (by omega) ⟨rfl,rfl,rfl⟩;intro t e n' m' ih hI hih;obtain ⟨rfl,rfl,rfl⟩:=hI;have w2:WrA m' n' (n + 1) (Ec l []):=w1.to (by unfold Ec;rw [List.flatMap_nil,List.append_nil];rfl))
  conv=>lhs;whnf
  refine ltF hO (by omega) ?_
  conv=>lhs;whnf
  (refine HD w2 (by unfold Ec;intro h;exact toldB_ne l (List.append_eq_nil_iff.1 h).1) (by rw [hpb];rw [List.flatMap_nil,List.length_nil];omega) _ _ (by omega) (fun v3 n3 m3 h3 g3 k3 q3=>?_);obtain ⟨b3,rfl,d1,d2,d3,d4⟩:=q3)
  conv=>lhs;whnf
  refine ubs hO ?_
  conv=>lhs;whnf
  refine fe ?_
  conv=>lhs;whnf
  refine (Bg (by omega)).trans ?_
  conv=>lhs;whnf
  (refine HH (N:=n3) (K:=K) (D:=Ec l []) (hG.kp (n:=n) (by exact Kq.kp (Kq.ml (Kq.tp (Kq.tp (Kq.ml (Kq.ml kr)) k1) k3))) hn4) ((hk.kp (by exact Kq.kp (Kq.ml (Kq.tp (Kq.tp (Kq.ml (Kq.ml kr)) k1) k3)))).up (by omega)) (by exact asm) (Sl.own (by exact an d3) d2 (Nat.le_refl _)) (by omega) (by rw [hpb];rw [List.flatMap_nil,List.length_nil];omega) _ _ ?_;have hder2:=L32.hm Y K (Ec l []))
  have A15:Am m3 n _:=ka k3 (ka k1 (an asm))
  conv=>lhs;whnf
  refine st32 hO (by exact an A15) (by first | assumption | exact L32.z) (by assumption) (fun _=>rfl) ?_
  conv=>lhs;whnf
  refine Aq (by exact asm) ?_
  conv=>lhs;whnf
  ((refine Ie (by assumption) ?_))
  conv=>lhs;whnf
  ((refine fnP (by assumption) ?_))
  conv=>lhs;whnf
  (rw [show C9 Y K l []=Y.hm K (Ec l []) by unfold C9;rfl] at hf;exact hf _ _ (by omega) (by omega) (by exact Kq.kp (Kq.ml (Kq.ml (Kq.tp (Kq.tp (Kq.ml (Kq.ml kr)) k1) k3)))))
 ·conv=>lhs;whnf
  ((refine al32 hO (by omega) ?_))
  conv=>lhs;whnf
  (refine HM (hk.kp (by exact Kq.kp (Kq.ml kr))) h0 h6 _ _ ?_)
  conv=>lhs;whnf
  (refine lsS hO ?_;simp only [List.length_cons,List.length_nil,Nat.zero_add])
  conv=>lhs;whnf
  refine gtF hO (by omega) ?_
  conv=>lhs;whnf
  refine alO hO (by omega) ?_
  conv=>lhs;whnf
  (refine HT (bs:=[]) (s:=l) (WrA.new (by omega) (by exact asm)) (by omega) (by rw [List.length_nil];omega) _ _ (by omega) (fun v1 n1 m1 h1 g1 k1 q1=>?_);obtain ⟨rfl,w1⟩:=q1)
  conv=>lhs;whnf
  refine lvS hO ?_
  conv=>lhs;whnf
  (refine lpI hO (fun t e n' m'=>∃ i,i ≤ ps.length ∧ t=ps.length - i ∧ n1 ≤ n' ∧ n' ≤ n1 + 5 * i ∧ Kp n m m' ∧ Am m' n (.bs (Ac (List.replicate 32 0)) 37 .exact) ∧ WrA m' n' (n + 1) (D3 l ++ (ps.take i).flatMap Es) ∧ e=eof [(6,.p n 0),(7,.n .i64 0),(26,.n .i64 i)]) (by rintro t e n' m' ⟨i,_,_,_,_⟩;omega) ?_ _ ps.length _ _ _ (by omega) ⟨0,by omega,by omega,Nat.le_refl _,by omega,(by exact Kq.kp (Kq.tp (Kq.ml (Kq.ml kr)) k1)),(by exact ka k1 (an asm)),w1.to (by rw [List.take_zero,List.flatMap_nil,List.append_nil];rfl),rfl⟩;intro t e n' m' ih hI hih;obtain ⟨i,hi,rfl,hn1,hn2,hk1,haz,hw,rfl⟩:=hI;rcases Nat.lt_or_ge i ps.length with hlt | hge;obtain ⟨v,p,hvi,hpi,hs⟩:=hp.at (i:=i) (by omega);have hpp:=hps p (List.mem_of_getElem? hpi);have hfl:=flat_take_le ps i;have hs':=hs.kp (N:=n) hk1;have hne:=hpe p (List.mem_of_getElem? hpi);have htk:=partsB_take (l:=l) hpi;rcases hs' with ⟨_,he⟩ | ⟨b,o,L,K',fl,l',el,tl,g1',rfl,g2',g3',g4',he⟩;exact absurd he hne;have hs':Sl m' n (.sl b o L K' fl 1) p:=.inr ⟨b,o,L,K',fl,l',el,tl,g1',rfl,g2',g3',g4',he⟩;have hdl:p.length=L:=(by rw [he,Hn g3']);rw [hdl] at htk;have hlm:L % 4294967296=L:=Nat.mod_eq_of_lt (by omega);have hl0:(D3 l ++ (ps.take i).flatMap Es).length ≤ 9000:=(by rw [List.length_append];omega);have hl4:(D3 l ++ (ps.take i).flatMap Es ++ Ak L).length ≤ 9004:=(by rw [List.length_append,Ai];omega);rotate_left;obtain rfl:i=ps.length:=(by omega);have w2:WrA m' n' (n + 1) (Ec l ps):=hw.to (by rw [List.take_length];rfl);rotate_left)
  ·conv=>lhs;whnf
   refine ltT hO (by omega) ?_
   conv=>lhs;whnf
   refine ix01 hO (by omega) ?_
   conv=>lhs;whnf
   refine ldC hO (by exact ka hk1 hpa) hvi ?_
   conv=>lhs;whnf
   refine lvS hO ?_
   conv=>lhs;whnf
   ((refine cv32 hO ?_))
   conv=>lhs;whnf
   (rw [hlm];refine H4 (a:=L) hw (by omega) (by omega) _ _ (by omega) (fun v4 n4 m4 h4 g4 k4 q4=>?_);obtain ⟨rfl,w4⟩:=q4)
   conv=>lhs;whnf
   (refine HB w4 ((hs'.kp (by exact Kq.kp (Kq.dp k4))).up (by omega)) (fun h=>absurd h hne) (by omega) _ _ (by omega) (fun v5 n5 m5 h5 g5 k5 q5=>?_);obtain ⟨rfl,w5⟩:=q5)
   conv=>lhs;whnf
   refine adI hO (by omega) ?_
   conv=>lhs;whnf
   exact hih (ps.length - (i + 1)) _ _ _ (by omega) ⟨i + 1,by omega,by omega,by omega,by omega,(by exact Kq.kp (Kq.tp (Kq.tp (Kq.dp hk1) k4) k5)),(by exact ka k5 (ka k4 haz)),w5.to htk,rfl⟩
  ·conv=>lhs;whnf
   refine ltF hO (by omega) ?_
   conv=>lhs;whnf
   (refine HD w2 (by unfold Ec;intro h;exact toldB_ne l (List.append_eq_nil_iff.1 h).1) (by omega) _ _ (by omega) (fun v3 n3 m3 h3 g3 k3 q3=>?_);obtain ⟨b3,rfl,d1,d2,d3,d4⟩:=q3)
   conv=>lhs;whnf
   refine ubs hO ?_
   conv=>lhs;whnf
   refine fe ?_
   conv=>lhs;whnf
   refine (Bg (by omega)).trans ?_
   conv=>lhs;whnf
   (refine HH (N:=n3) (K:=K) (D:=Ec l ps) (hG.kp (n:=n) (by exact Kq.kp (Kq.ml (Kq.tp (Kq.dp hk1) k3))) hn4) ((hk.kp (by exact Kq.kp (Kq.ml (Kq.tp (Kq.dp hk1) k3)))).up (by omega)) (by exact asm) (Sl.own (by exact an d3) d2 (Nat.le_refl _)) (by omega) (by omega) _ _ ?_;have hder2:=L32.hm Y K (Ec l ps))
   conv=>lhs;whnf
   refine st32 hO (by exact an (ka k3 haz)) (by first | assumption | exact L32.z) (by assumption) (fun _=>rfl) ?_
   conv=>lhs;whnf
   refine Aq (by exact asm) ?_
   conv=>lhs;whnf
   ((refine Ie (by assumption) ?_))
   conv=>lhs;whnf
   ((refine fnP (by assumption) ?_))
   conv=>lhs;whnf
   (rw [show C9 Y K l ps=Y.hm K (Ec l ps) by unfold C9;rfl] at hf;exact hf _ _ (by omega) (by omega) (by exact Kq.kp (Kq.ml (Kq.ml (Kq.tp (Kq.dp hk1) k3)))))
end Go.Proofs.YtfdfdagbeeeomaaDoor.V2.S
namespace Go.Proofs.YtfdfdagbeeeomaaDoor.V2.S
open Go
set_option maxRecDepth 100000
set_option maxHeartbeats 4000000
set_option linter.unusedVariables false
attribute [local irreducible] fN fO nM gM pM Phi.fn mp bl At Bx Ce Ac C9 Dr
def KeyS (Y:Cy) (H:HF):Prop:=∀ {n rb:Nat} {m:T FObj} {pv:FV} {K l:Bs} {vs:List FV} {ps:List Bs},Gl m → 4 ≤ n → RingAt m n rb K → l.length ≤ 1000 → Pts m n vs ps → (pv=.o .sl ∧ ps=[] ∨ ∃ pb e t,pb < n ∧ pv=.sl pb 0 vs.length vs.length true 1 ∧ Am m pb (.cells vs e t)) → ps.length ≤ 5 → (∀ p ∈ ps,p.length ≤ 1000) → (∀ p ∈ ps,p ≠ []) → Ret 70 H [.p rb 0,.s (Ac l),pv] n m (.bs (Ac (C9 Y K l ps)))
theorem Pts.up {m:T FObj} {N N':Nat} (k:N ≤ N'):∀ {vs:List FV} {ps:List Bs},Pts m N vs ps → Pts m N' vs ps
 | [],[],_=>trivial
 | _ :: _,_ :: _,h=>⟨h.1.up k,Pts.up k h.2⟩
 | [],_ :: _,h=>h.elim
 | _ :: _,[],h=>h.elim
theorem key_s {O:Oz} {Y:Cy} (hO:O=zO) (Φ:Phi) (HD:DeriveS Y (Phi.fn Φ 74)):KeyS Y (p58 O Φ):=fun {n rb m pv K l vs ps} hG hn4 hR hl hp hpv h5 hps hpe k P hn hf=>by
 have hder:=L32.der Y K l ps
 obtain ⟨hrb,v,ha,hv,h0,h6⟩:=hR
 conv=>lhs;whnf
 ((refine al32 hO (by omega) ?_))
 conv=>lhs;whnf
 refine fa0 hO ?_
 conv=>lhs;whnf
 refine ldC hO (by exact an ha) (by rfl) ?_
 conv=>lhs;whnf
 (refine HD (hG.kp (n:=n) (show Kp n m _ from (by exact Kq.kp (Kq.ml kr))) hn4) (by omega) ((hv.kp (show Kp n m _ from (by exact Kq.kp (Kq.ml kr)))).up (by omega)) h0 h6 hl ((hp.kp (show Kp n m _ from (by exact Kq.kp (Kq.ml kr)))).up (by omega)) (by rcases hpv with h | ⟨pb,e0,t0,z1,z2,z3⟩;exact .inl h;exact .inr ⟨pb,e0,t0,by omega,z2,(by exact an z3)⟩) h5 hps hpe _ _ (by omega) (fun n1 m1 h1 g1 k1=>?_))
 conv=>lhs;whnf
 ((refine al32 hO (by omega) ?_))
 conv=>lhs;whnf
 refine st32 hO (by exact asm) (by first | assumption | exact L32.z) (by assumption) (fun _=>rfl) ?_
 conv=>lhs;whnf
 refine ln32 hO (by exact asm) (by assumption) ?_
 conv=>lhs;whnf
 refine st32 hO (by exact an (an (ka k1 asm))) (by first | assumption | exact L32.z) (by assumption) (fun _=>rfl) ?_
 conv=>lhs;whnf
 refine Aq (by exact asm) ?_
 conv=>lhs;whnf
 ((refine Ie (by assumption) ?_))
 conv=>lhs;whnf
 ((refine fnP (by assumption) ?_))
 conv=>lhs;whnf
 exact hf _ _ (by omega) (by omega) (by exact Kq.kp (Kq.ml (Kq.ml (Kq.ml (Kq.tp (Kq.ml kr) k1)))))
def HelloS (Y:Cy) (H:HF):Prop:=∀ {n rb:Nat} {m:T FObj} {K:Bs},Gl m → 4 ≤ n → RingAt m n rb K → Ret 80 H [.p rb 0] n m (.bs (Ac (Fs Y K)))
theorem hello_s {O:Oz} {Y:Cy} (hO:O=zO) (Φ:Phi) (HK:KeyS Y (Phi.fn Φ 58)):HelloS Y (p48 O Φ):=fun {n rb m K} hG hn4 hR k P hn hf=>by
 have hder:L32 (Fs Y K):=L32.der Y K _ []
 have hpn:∀ p ∈ ([]:List Bs),p.length ≤ 1000:=fun p hp=>absurd hp List.not_mem_nil
 have hpe:∀ p ∈ ([]:List Bs),p ≠ []:=fun p hp=>absurd hp List.not_mem_nil
 conv=>lhs;whnf
 ((refine al32 hO (by omega) ?_))
 conv=>lhs;whnf
 (refine HK (vs:=[]) (ps:=[]) (hG.kp (n:=n) (by exact Kq.kp (Kq.ml kr)) hn4) (by omega) ((hR.kp (by exact Kq.kp (Kq.ml kr))).up (by omega)) (by decide) trivial (.inl ⟨rfl,rfl⟩) (by decide) hpn hpe _ _ (by omega) (fun n1 m1 h1 g1 k1=>?_);rw [show C9 Y K [104,101,108,108,111] []=Fs Y K by unfold Fs;rfl])
 conv=>lhs;whnf
 refine st32 hO (by exact ka k1 asm) (by first | assumption | exact L32.z) (by assumption) (fun _=>rfl) ?_
 conv=>lhs;whnf
 refine Aq (by exact asm) ?_
 conv=>lhs;whnf
 ((refine Ie (by assumption) ?_))
 conv=>lhs;whnf
 ((refine fnP (by assumption) ?_))
 conv=>lhs;whnf
 exact hf _ _ (by omega) (by omega) (by exact Kq.kp (Kq.ml (Kq.tp (Kq.ml kr) k1)))
def TagS (Y:Cy) (H:HF):Prop:=∀ {n:Nat} {m:T FObj} {key D:Bs} {dv:FV},Gl m → 4 ≤ n → L32 key → Sl m n dv D → D.length ≤ 900000 → Ret 20 H [.bs (Ac key),dv] n m (.n .u64 (Dr Y key D))
theorem tag_s {O:Oz} {Y:Cy} (hO:O=zO) (Φ:Phi) (HH:HmacY Y (Phi.fn Φ 68)) (HN:NewR (Phi.fn Φ 32)) (HE:EightG (Phi.fn Φ 33)):TagS Y (p49 O Φ):=fun {n m key D dv} hG hn4 h32 hd hD k P hn hf=>by
 have hke:key ≠ []:=fun h=>by have:=h32.h;rw [h] at this;cases this
 have hm32:=L32.hm Y key D
 have hme:Y.hm key D ≠ []:=fun h=>by have:=hm32.h;rw [h] at this;cases this
 have hml:=hm32.h
 have htl:((Y.hm key D).take 8).length=8:=by rw [List.length_take,hml];rfl
 have htd:(Y.hm key D).take 8 ++ (Y.hm key D).drop 8=Y.hm key D:=List.take_append_drop 8 _
 conv=>lhs;whnf
 refine bxB hO (by assumption) (by omega) ?_
 conv=>lhs;whnf
 refine Aq (by exact asm) ?_
 conv=>lhs;whnf
 ((refine Ie (by assumption) ?_))
 conv=>lhs;whnf
 refine fe ?_
 conv=>lhs;whnf
 refine fe ?_
 conv=>lhs;whnf
 refine fe ?_
 conv=>lhs;whnf
 ((refine bsL hO (N:=n) (x:=D) hd (by omega) ?_))
 conv=>lhs;whnf
 (refine HH (N:=n + 2) (K:=key) (D:=D) (hG.kp (n:=n) (by exact Kq.kp (Kq.ml (Kq.ml kr))) hn4) (Sl.own32 (by exact an asm) (by omega) h32) (by exact asm) ((hd.kp (by exact Kq.kp (Kq.ml (Kq.ml kr)))).up (by omega)) (by rw [h32.h];decide) hD _ _ ?_)
 conv=>lhs;whnf
 ((refine al32 hO (by omega) ?_))
 conv=>lhs;whnf
 refine st32 hO (by exact asm) (by first | assumption | exact L32.z) (by assumption) (fun _=>rfl) ?_
 conv=>lhs;whnf
 refine Aq (by exact asm) ?_
 conv=>lhs;whnf
 ((refine Ie (by assumption) ?_))
 conv=>lhs;whnf
 refine fe ?_
 conv=>lhs;whnf
 refine fe ?_
 conv=>lhs;whnf
 refine fe ?_
 conv=>lhs;whnf
 (refine HN (x:=Y.hm key D) (Sl.own32 (by exact asm) (by omega) hm32) (fun h=>absurd h hme) (by omega) _ _ (by omega) (fun v1 n1 m1 h1 g1 k1 q1=>?_);obtain ⟨rb,rfl,c1,r1⟩:=q1;have k1p:=Kq.kp k1)
 conv=>lhs;whnf
 (refine HE (p:=(Y.hm key D).take 8) (y:=(Y.hm key D).drop 8) (r1.to htd.symm) htl (by rw [htd];omega) _ _ (by omega) (fun v2 n2 m2 h2 g2 k2 q2=>?_);obtain ⟨rfl,r2⟩:=q2;have k2p:Kp n m1 m2:=Kq.low k2 (by omega) (fun x hx=>by rw [List.mem_singleton.1 hx];omega);rw [show beV ((Y.hm key D).take 8)=Dr Y key D by unfold Dr;rfl])
 conv=>lhs;whnf
 exact hf _ _ (by omega) (by omega) (by exact Kq.kp (Kq.tp (Kq.tp (Kq.ml (Kq.ml (Kq.ml (Kq.ml kr)))) k1p) k2p))
end Go.Proofs.YtfdfdagbeeeomaaDoor.V2.S
namespace Go.Proofs.YtfdfdagbeeeomaaDoor.V2.S
open Go
set_option maxRecDepth 100000
set_option maxHeartbeats 4000000
set_option linter.unusedVariables false
attribute [local irreducible] fN fO nM gM pM Phi.fn mp bl At Bx Ce Ac C9 Dr
def TokenS (Y:Cy) (H:HF):Prop:=∀ {n rb s e:Nat} {m:T FObj} {K:Bs},Gl m → 4 ≤ n → RingAt m n rb K → s < 4294967296 → e < 4294967296 → Ret 110 H [.p rb 0,.n .u32 s,.n .u32 e] n m (.n .u64 (Bf Y K s e))
theorem token_s {O:Oz} {Y:Cy} (hO:O=zO) (Φ:Phi) (HM:MayS (Phi.fn Φ 57)) (H4:Hf (Phi.fn Φ 39) .u32 4 4294967296 4 Ak) (HD:It (Phi.fn Φ 27)) (HK:KeyS Y (Phi.fn Φ 58)) (HT:TagS Y (Phi.fn Φ 49)):TokenS Y (p38 O Φ):=fun {n rb s e m K} hG hn4 hR hs he k P hn hf=>by
 have hder:=L32.der Y K [116,111,107,101,110] []
 have hpn:∀ p ∈ ([]:List Bs),p.length ≤ 1000:=fun p hp=>absurd hp List.not_mem_nil
 have hpe:∀ p ∈ ([]:List Bs),p ≠ []:=fun p hp=>absurd hp List.not_mem_nil
 have hl4:(Ak s).length=4:=Ai s
 have hl8:(Ak s ++ Ak e).length=8:=by rw [List.length_append,Ai,Ai]
 have hne:Ak s ++ Ak e ≠ []:=fun h=>by rw [h] at hl8;cases hl8
 have hR0:=hR
 obtain ⟨hrb,v,ha,hv,h0,h6⟩:=hR
 conv=>lhs;whnf
 refine fa0 hO ?_
 conv=>lhs;whnf
 refine ldC hO ha (by rfl) ?_
 conv=>lhs;whnf
 (refine HM hv h0 h6 _ _ ?_)
 conv=>lhs;whnf
 refine alO hO (by omega) ?_
 conv=>lhs;whnf
 (refine H4 (bs:=[]) (a:=s) (WrA.new (by omega) (by exact asm)) hs (by decide) _ _ (by omega) (fun v1 n1 m1 h1 g1 k1 q1=>?_);obtain ⟨rfl,w1⟩:=q1;have w1:=w1.to (List.nil_append _))
 conv=>lhs;whnf
 (refine H4 (bs:=Ak s) (a:=e) w1 he (by omega) _ _ (by omega) (fun v2 n2 m2 h2 g2 k2 q2=>?_);obtain ⟨rfl,w2⟩:=q2)
 conv=>lhs;whnf
 (refine HD w2 hne (by omega) _ _ (by omega) (fun v3 n3 m3 h3 g3 k3 q3=>?_);obtain ⟨b3,rfl,d1,d2,d3,d4⟩:=q3;have k0:Kp n m m3:=(by exact Kq.kp (Kq.tp (Kq.tp (Kq.tp (Kq.ml kr) k1) k2) k3)))
 conv=>lhs;whnf
 (refine HK (vs:=[]) (ps:=[]) (hG.kp k0 hn4) (by omega) ((hR0.kp k0).up (by omega)) (by decide) trivial (.inl ⟨rfl,rfl⟩) (by decide) hpn hpe _ _ (by omega) (fun n4 m4 h4 g4 k4=>?_))
 conv=>lhs;whnf
 (refine HT (D:=Ak s ++ Ak e) (hG.kp (n:=n) (by exact Kq.kp (Kq.tp (Kq.dp k0) k4)) hn4) (by omega) hder (Sl.own (by exact ka k4 d3) (by omega) (Nat.le_refl _)) (by omega) _ _ (by omega) (fun n5 m5 h5 g5 k5=>?_);rw [show Dr Y (C9 Y K [116,111,107,101,110] []) (Ak s ++ Ak e)=Bf Y K s e by unfold Bf;rfl])
 conv=>lhs;whnf
 exact hf _ _ (by omega) (by omega) (by exact Kq.kp (Kq.tp (Kq.tp (Kq.dp k0) k4) k5))
def LayC (H:HF) (K:IntKind) (w:Nat) (f:Nat → Bs):Prop:=∀ {wb b n a:Nat} {m:T FObj} {e:TypeId} {t:Tl},WrA m n wb [] → Am m b (.ints K [Int.ofNat a] e t) → a < w → RetN 8 wb H [.p wb 0,.p b 0] n m (fun r n' m'=>WrA m' n' wb (f a))
theorem lay4_s {O:Oz} (hO:O=zO) (Φ:Phi) (H4:Hf (Phi.fn Φ 39) .u32 4 4294967296 4 Ak):LayC (p61 O Φ) .u32 4294967296 Ak ∧ LayC (p62 O Φ) .u32 4294967296 Ak:=by
 refine ⟨fun {wb b n a m e t} hW ha hl k P hn hf=>?_,fun {wb b n a m e t} hW ha hl k P hn hf=>?_⟩
 ·have hwb:=hW.1
  conv=>lhs;whnf
  refine ldI hO ha (by rfl) ?_
  conv=>lhs;whnf
  (refine H4 (bs:=[]) (a:=a) hW hl (by simp) _ _ (by omega) (fun v1 n1 m1 h1 g1 k1 q1=>?_);obtain ⟨rfl,w1⟩:=q1)
  conv=>lhs;whnf
  exact hf _ _ _ h1 (by omega) (by exact Kq.kp (Kq.dp k1)) (w1.to (List.nil_append _))
 ·have hwb:=hW.1
  conv=>lhs;whnf
  refine ldI hO ha (by rfl) ?_
  conv=>lhs;whnf
  (refine H4 (bs:=[]) (a:=a) hW hl (by simp) _ _ (by omega) (fun v1 n1 m1 h1 g1 k1 q1=>?_);obtain ⟨rfl,w1⟩:=q1)
  conv=>lhs;whnf
  exact hf _ _ _ h1 (by omega) (by exact Kq.kp (Kq.dp k1)) (w1.to (List.nil_append _))
theorem lay8_s {O:Oz} (hO:O=zO) (Φ:Phi) (H4:Hf (Phi.fn Φ 25) .u64 8 18446744073709551616 8 Ae):LayC (p63 O Φ) .u64 18446744073709551616 Ae ∧ LayC (p64 O Φ) .u64 18446744073709551616 Ae:=by
 refine ⟨fun {wb b n a m e t} hW ha hl k P hn hf=>?_,fun {wb b n a m e t} hW ha hl k P hn hf=>?_⟩
 ·have hwb:=hW.1
  conv=>lhs;whnf
  refine ldI hO ha (by rfl) ?_
  conv=>lhs;whnf
  (refine H4 (bs:=[]) (a:=a) hW hl (by simp) _ _ hn (fun v1 n1 m1 h1 g1 k1 q1=>?_);obtain ⟨rfl,w1⟩:=q1)
  conv=>lhs;whnf
  exact hf _ _ _ h1 g1 (by exact Kq.kp (Kq.dp k1)) (w1.to (List.nil_append _))
 ·have hwb:=hW.1
  conv=>lhs;whnf
  refine ldI hO ha (by rfl) ?_
  conv=>lhs;whnf
  (refine H4 (bs:=[]) (a:=a) hW hl (by simp) _ _ hn (fun v1 n1 m1 h1 g1 k1 q1=>?_);obtain ⟨rfl,w1⟩:=q1)
  conv=>lhs;whnf
  exact hf _ _ _ h1 g1 (by exact Kq.kp (Kq.dp k1)) (w1.to (List.nil_append _))
def Lk (H:HF) (f:Nat) (K:IntKind) (w:Nat) (B:Nat → Bs):Prop:=∀ {b n a:Nat} {m:T FObj} {e:TypeId} {t:Tl},Am m b (.ints K [Int.ofNat a] e t) → b < n → a < w → Dc 12 [] H [.fn (.func f) [] [.p b 0]] n m (fun r n' m'=>∃ b',r=.sl b' 0 (B a).length (B a).length false 1 ∧ n ≤ b' ∧ b' < n' ∧ Am m' b' (.bs (Ac (B a)) 5 .more))
theorem part_s {O:Oz} (hO:O=zO) (Φ:Phi) {f:Nat} {K:IntKind} {w:Nat} {B:Nat → Bs} (HC:LayC (Phi.fn Φ f) K w B) (HD:It (Phi.fn Φ 27)) (hB:∀ a,B a ≠ []) (hBl:∀ a,(B a).length ≤ 1000):Lk (p60 O Φ) f K w B:=fun {b n a m e t} ha hb hw k P hn hf=>by
 have h1:=hBl a
 conv=>lhs;whnf
 refine alO hO (by omega) ?_
 conv=>lhs;whnf
 (refine HC (a:=a) (WrA.new (by omega) (by exact asm)) (by exact an ha) hw _ _ (by omega) (fun v1 n1 m1 h1 g1 k1 w1=>?_))
 conv=>lhs;whnf
 (refine HD w1 (hB a) (by omega) _ _ (by omega) (fun v2 n2 m2 h2 g2 k2 q2=>?_);obtain ⟨b2,rfl,d1,d2,d3,d4⟩:=q2)
 conv=>lhs;whnf
 exact hf _ _ _ (by omega) (by omega) (by exact Kq.tp (Kq.tp (Kq.ml kr) k1) k2) ⟨b2,rfl,by omega,by omega,d3⟩
def WayS (Y:Cy) (H:HF):Prop:=∀ {n rb w s e c v:Nat} {m:T FObj} {K:Bs},Gl m → 4 ≤ n → RingAt m n rb K → w < 2 → s < 4294967296 → e < 4294967296 → c < 18446744073709551616 → v < 18446744073709551616 → Ret 140 H [.p rb 0,.n .i64 w,.n .u32 s,.n .u32 e,.n .u64 c,.n .u64 v] n m (.bs (Ac (Lo Y K w s e c v)))
theorem way_s {O:Oz} {Y:Cy} (hO:O=zO) (Φ:Phi) (H1:Lk (Phi.fn Φ 60) 61 .u32 4294967296 Ak) (H2:Lk (Phi.fn Φ 60) 62 .u32 4294967296 Ak) (H3:Lk (Phi.fn Φ 60) 63 .u64 18446744073709551616 Ae) (H4:Lk (Phi.fn Φ 60) 64 .u64 18446744073709551616 Ae) (HK:KeyS Y (Phi.fn Φ 58)):WayS Y (p41 O Φ):=fun {n rb w s e c v m K} hG hn4 hR hw hs he hc hv k P hn hf=>by
 have hder:L32 (Lo Y K w s e c v):=L32.der Y K _ _
 have hpl:∀ p ∈ ([[UInt8.ofNat w],Ak s,Ak e,Ae c,Ae v]:List Bs),p.length ≤ 1000:=by
  intro p hp
  simp only [List.mem_cons,List.not_mem_nil,or_false] at hp
  rcases hp with rfl | rfl | rfl | rfl | rfl
  ·rw [List.length_singleton];decide
  ·rw [Ai];decide
  ·rw [Ai];decide
  ·rw [Ad];decide
  ·rw [Ad];decide
 have hpe:∀ p ∈ ([[UInt8.ofNat w],Ak s,Ak e,Ae c,Ae v]:List Bs),p ≠ []:=by
  intro p hp
  simp only [List.mem_cons,List.not_mem_nil,or_false] at hp
  rcases hp with rfl | rfl | rfl | rfl | rfl
  ·exact List.cons_ne_nil _ _
  ·exact K8 _
  ·exact K8 _
  ·exact Ef _
  ·exact Ef _
 conv=>lhs;whnf
 refine bxI hO (by omega) ?_
 conv=>lhs;whnf
 refine bxI hO (by omega) ?_
 conv=>lhs;whnf
 refine bxI hO (by omega) ?_
 conv=>lhs;whnf
 refine bxI hO (by omega) ?_
 conv=>lhs;whnf
 ((refine al32 hO (by omega) ?_))
 conv=>lhs;whnf
 refine neB hO (fun h6=>?_) (fun h6=>?_)
 ·conv=>lhs;whnf
  refine neF hO (by omega) ?_
  conv=>lhs;whnf
  ((refine cvU (w:=255) hO (by omega) (by kernel_rfl) ?_))
  conv=>lhs;whnf
  ((refine bs1 hO (by omega) (by omega) ?_))
  conv=>lhs;whnf
  (refine H1 (a:=s) (by exact an (an (an (an (an asm))))) (by omega) hs _ _ (by omega) (fun v1 n1 m1 h1 g1 k1 q1=>?_);obtain ⟨b1,rfl,c1,c2,c3⟩:=q1;have k1p:=Kq.kp k1)
  conv=>lhs;whnf
  (refine H2 (a:=e) (by exact ka k1p (an (an (an (an asm))))) (by omega) he _ _ (by omega) (fun v2 n2 m2 h2 g2 k2 q2=>?_);obtain ⟨b2,rfl,d1,d2,d3⟩:=q2;have k2p:=Kq.kp k2)
  conv=>lhs;whnf
  (refine H3 (a:=c) (by exact ka k2p (ka k1p (an (an (an asm))))) (by omega) hc _ _ (by omega) (fun v3 n3 m3 h3 g3 k3 q3=>?_);obtain ⟨b3,rfl,e1,e2,e3⟩:=q3;have k3p:=Kq.kp k3)
  conv=>lhs;whnf
  (refine H4 (a:=v) (by exact ka k3p (ka k2p (ka k1p (an (an asm))))) (by omega) hv _ _ (by omega) (fun v4 n4 m4 h4 g4 k4 q4=>?_);obtain ⟨b4,rfl,f1,f2,f3⟩:=q4;have k4p:=Kq.kp k4)
  conv=>lhs;whnf
  refine ubs hO ?_
  conv=>lhs;whnf
  refine fe ?_
  conv=>lhs;whnf
  refine fe ?_
  conv=>lhs;whnf
  refine fe ?_
  conv=>lhs;whnf
  refine fe ?_
  conv=>lhs;whnf
  refine fe ?_
  conv=>lhs;whnf
  refine (Bg (by omega)).trans ?_
  conv=>lhs;whnf
  (refine HK (vs:=[.sl (n + 1 + 1 + 1 + 1 + 1) 0 1 1 true 1,.sl b1 0 (Ak s).length (Ak s).length false 1,.sl b2 0 (Ak e).length (Ak e).length false 1,.sl b3 0 (Ae c).length (Ae c).length false 1,.sl b4 0 (Ae v).length (Ae v).length false 1]) (ps:=[[UInt8.ofNat w],Ak s,Ak e,Ae c,Ae v]) (hG.kp (n:=n) (by exact Kq.kp (Kq.ml (Kq.tp (Kq.tp (Kq.tp (Kq.tp (Kq.ml (Kq.ml (Kq.ml (Kq.ml (Kq.ml (Kq.ml kr)))))) k1p) k2p) k3p) k4p))) hn4) (by omega) ((hR.kp (m':=_) (by exact Kq.kp (Kq.ml (Kq.tp (Kq.tp (Kq.tp (Kq.tp (Kq.ml (Kq.ml (Kq.ml (Kq.ml (Kq.ml (Kq.ml kr)))))) k1p) k2p) k3p) k4p)))).up (by omega)) (by decide) ⟨Sl.own (x:=[UInt8.ofNat w]) (by exact an (ka k4p (ka k3p (ka k2p (ka k1p asm))))) (by omega) (Nat.le_refl 1),Sl.own (by exact an (ka k4p (ka k3p (ka k2p c3)))) (by omega) (Nat.le_refl _),Sl.own (by exact an (ka k4p (ka k3p d3))) (by omega) (Nat.le_refl _),Sl.own (by exact an (ka k4p e3)) (by omega) (Nat.le_refl _),Sl.own (by exact an f3) (by omega) (Nat.le_refl _),trivial⟩ (.inr ⟨n4,_,_,by omega,rfl,(by exact asm)⟩) (Nat.le_refl 5) hpl hpe _ _ (by omega) (fun n6 m6 h6 g6 k6=>?_);rw [show C9 Y K [119,97,121] [[UInt8.ofNat w],Ak s,Ak e,Ae c,Ae v]=Lo Y K w s e c v by unfold Lo;rfl])
  have A22:Am m6 (n + 1 + 1 + 1 + 1) _:=ka k6 (an (ka k4p (ka k3p (ka k2p (ka k1p (an asm))))))
  conv=>lhs;whnf
  refine st32 hO A22 (by first | assumption | exact L32.z) (by assumption) (fun _=>rfl) ?_
  conv=>lhs;whnf
  refine Aq (by exact asm) ?_
  conv=>lhs;whnf
  ((refine Ie (by assumption) ?_))
  conv=>lhs;whnf
  ((refine fnP (by assumption) ?_))
  conv=>lhs;whnf
  exact hf _ _ (by omega) (by omega) (by exact Kq.kp (Kq.ml (Kq.tp (Kq.ml (Kq.tp (Kq.tp (Kq.tp (Kq.tp (Kq.ml (Kq.ml (Kq.ml (Kq.ml (Kq.ml (Kq.ml kr)))))) k1p) k2p) k3p) k4p)) k6)))
 ·conv=>lhs;whnf
  ((refine cvU (w:=255) hO (by omega) (by kernel_rfl) ?_))
  conv=>lhs;whnf
  ((refine bs1 hO (by omega) (by omega) ?_))
  conv=>lhs;whnf
  (refine H1 (a:=s) (by exact an (an (an (an (an asm))))) (by omega) hs _ _ (by omega) (fun v1 n1 m1 h1 g1 k1 q1=>?_);obtain ⟨b1,rfl,c1,c2,c3⟩:=q1;have k1p:=Kq.kp k1)
  conv=>lhs;whnf
  (refine H2 (a:=e) (by exact ka k1p (an (an (an (an asm))))) (by omega) he _ _ (by omega) (fun v2 n2 m2 h2 g2 k2 q2=>?_);obtain ⟨b2,rfl,d1,d2,d3⟩:=q2;have k2p:=Kq.kp k2)
  conv=>lhs;whnf
  (refine H3 (a:=c) (by exact ka k2p (ka k1p (an (an (an asm))))) (by omega) hc _ _ (by omega) (fun v3 n3 m3 h3 g3 k3 q3=>?_);obtain ⟨b3,rfl,e1,e2,e3⟩:=q3;have k3p:=Kq.kp k3)
  conv=>lhs;whnf
  (refine H4 (a:=v) (by exact ka k3p (ka k2p (ka k1p (an (an asm))))) (by omega) hv _ _ (by omega) (fun v4 n4 m4 h4 g4 k4 q4=>?_);obtain ⟨b4,rfl,f1,f2,f3⟩:=q4;have k4p:=Kq.kp k4)
  conv=>lhs;whnf
  refine ubs hO ?_
  conv=>lhs;whnf
  refine fe ?_
  conv=>lhs;whnf
  refine fe ?_
  conv=>lhs;whnf
  refine fe ?_
  conv=>lhs;whnf
  refine fe ?_
  conv=>lhs;whnf
  refine fe ?_
  conv=>lhs;whnf
  refine (Bg (by omega)).trans ?_
  conv=>lhs;whnf
  (refine HK (vs:=[.sl (n + 1 + 1 + 1 + 1 + 1) 0 1 1 true 1,.sl b1 0 (Ak s).length (Ak s).length false 1,.sl b2 0 (Ak e).length (Ak e).length false 1,.sl b3 0 (Ae c).length (Ae c).length false 1,.sl b4 0 (Ae v).length (Ae v).length false 1]) (ps:=[[UInt8.ofNat w],Ak s,Ak e,Ae c,Ae v]) (hG.kp (n:=n) (by exact Kq.kp (Kq.ml (Kq.tp (Kq.tp (Kq.tp (Kq.tp (Kq.ml (Kq.ml (Kq.ml (Kq.ml (Kq.ml (Kq.ml kr)))))) k1p) k2p) k3p) k4p))) hn4) (by omega) ((hR.kp (m':=_) (by exact Kq.kp (Kq.ml (Kq.tp (Kq.tp (Kq.tp (Kq.tp (Kq.ml (Kq.ml (Kq.ml (Kq.ml (Kq.ml (Kq.ml kr)))))) k1p) k2p) k3p) k4p)))).up (by omega)) (by decide) ⟨Sl.own (x:=[UInt8.ofNat w]) (by exact an (ka k4p (ka k3p (ka k2p (ka k1p asm))))) (by omega) (Nat.le_refl 1),Sl.own (by exact an (ka k4p (ka k3p (ka k2p c3)))) (by omega) (Nat.le_refl _),Sl.own (by exact an (ka k4p (ka k3p d3))) (by omega) (Nat.le_refl _),Sl.own (by exact an (ka k4p e3)) (by omega) (Nat.le_refl _),Sl.own (by exact an f3) (by omega) (Nat.le_refl _),trivial⟩ (.inr ⟨n4,_,_,by omega,rfl,(by exact asm)⟩) (Nat.le_refl 5) hpl hpe _ _ (by omega) (fun n6 m6 h6 g6 k6=>?_);rw [show C9 Y K [119,97,121] [[UInt8.ofNat w],Ak s,Ak e,Ae c,Ae v]=Lo Y K w s e c v by unfold Lo;rfl])
  have A41:Am m6 (n + 1 + 1 + 1 + 1) _:=ka k6 (an (ka k4p (ka k3p (ka k2p (ka k1p (an asm))))))
  conv=>lhs;whnf
  refine st32 hO A41 (by first | assumption | exact L32.z) (by assumption) (fun _=>rfl) ?_
  conv=>lhs;whnf
  refine Aq (by exact asm) ?_
  conv=>lhs;whnf
  ((refine Ie (by assumption) ?_))
  conv=>lhs;whnf
  ((refine fnP (by assumption) ?_))
  conv=>lhs;whnf
  exact hf _ _ (by omega) (by omega) (by exact Kq.kp (Kq.ml (Kq.tp (Kq.ml (Kq.tp (Kq.tp (Kq.tp (Kq.tp (Kq.ml (Kq.ml (Kq.ml (Kq.ml (Kq.ml (Kq.ml kr)))))) k1p) k2p) k3p) k4p)) k6)))
end Go.Proofs.YtfdfdagbeeeomaaDoor.V2.S
namespace Go.Proofs.YtfdfdagbeeeomaaDoor.V2.S
open Go
set_option maxRecDepth 100000
set_option linter.unusedVariables false
theorem lpU {O:Oz} (hO:O=zO) {cd:Cd} {Φ:Phi} {F N n:Nat} {m:T FObj} {kn kr:K2} {ke:Nat → K2} {e:E} {P:FR} (hN:N ≤ n) (h:cd Φ N (fun e σ=>O.lp F cd Φ N kn kr ke e σ) kr ke e ⟨n,m⟩=P):O.lp (F + 1) cd Φ N kn kr ke e ⟨n,m⟩=P:=by
 subst hO
 show gT (Nat.ble N n) (cd Φ N (fun e σ=>zO.lp F cd Φ N kn kr ke e σ) kr ke e ⟨n,m⟩)=P
 rw [gTt (A4 hN)];exact h
def frC (k s e b L:Nat):List FV:=[.n .u8 k,.n .u32 s,.n .u32 e,.n .u32 0,.n .u32 0,.n .u32 0,.sl b 0 L L false 1]
def frV (k s e b L:Nat):FV:=.agg (frC k s e b L)
def sgB (k s e:Nat) (p:Bs):Bs:=[UInt8.ofNat k] ++ Ak s ++ Ak e ++ Ak 0 ++ Ak 0 ++ Ak 0 ++ D3 p
theorem F9 (k s e:Nat) (p:Bs):(sgB k s e p).length=23 + p.length:=by
 unfold sgB
 simp only [List.length_append,Ai,Bj,List.length_singleton];omega
theorem sgB_ne (k s e:Nat) (p:Bs):sgB k s e p ≠ []:=fun h=>by have:=F9 k s e p;rw [h] at this;simp at this;omega
def Je (k s e:Nat) (p:Bs) (t:Nat):Bs:=sgB k s e p ++ Ae t
def Ke (Y:Cy) (k s e:Nat) (p:Bs) (t:Nat):Bs:=Je k s e p t ++ Ak (Y.cr (Je k s e p t))
theorem G5 (k s e:Nat) (p:Bs) (t:Nat):(Je k s e p t).length=31 + p.length:=by
 unfold Je;rw [List.length_append,F9,Ad];omega
theorem He (Y:Cy) (k s e:Nat) (p:Bs) (t:Nat):(Ke Y k s e p t).length=35 + p.length:=by
 unfold Ke;rw [List.length_append,G5,Ai];omega
theorem encB_split (Y:Cy) (k s e:Nat) (p:Bs) (t:Nat):Ke Y k s e p t=UInt8.ofNat k :: (Ak s ++ (Ak e ++ (Ak 0 ++ (Ak 0 ++ (Ak 0 ++ (D3 p ++ (Ae t ++ (Ak (Y.cr (Je k s e p t)) ++ [])))))))):=by
 unfold Ke
 conv=>lhs;lhs;unfold Je sgB
 simp only [List.append_assoc,List.append_nil,List.singleton_append,List.cons_append,List.nil_append]
section
variable {O:Oz} (hO:O=zO) {P:FR} {c:FV → FR} {K:KV} {n:Nat} {m:T FObj} {k s e b L:Nat}
include hO
theorem bxFr {e':TypeId} (hn:n < 1000000) (h:K (.p n 0) ⟨n + 1,mp m n (.cells (frC k s e b L) e' .exact)⟩=P):O.bx e' (frV k s e b L) ⟨n,m⟩ K=P:=bxA hO hn rfl h
theorem H0 {b':Nat} {e':TypeId} {t:Tl} (ha:Am m b' (.cells (frC k s e b L) e' t)) (h:c (frV k s e b L)=P):O.ln 7 (.p b' 0) ⟨n,m⟩ c=P:=lnA hO ha rfl rfl rfl h
end
theorem RdB.mp {m:T FObj} {N rb c:Nat} {x:Bs} {l:List FV} {e:TypeId} {t:Tl} {o:FObj} (h:RdB m N rb x) (ha:Am m c (.cells l e t)) (hc:c ≠ rb) (hm:c < 1000000):RdB (mp m c o) N rb x:=by
 obtain ⟨h1,v,h2,h3⟩:=h
 refine ⟨h1,v,Ir hm (fun e=>hc e.symm) h2,?_⟩
 rcases h3 with h | ⟨b,o',L,K,fl,l',el,tl,g1,g2,g3,g4,g6,g5⟩
 ·exact .inl h
 ·refine .inr ⟨b,o',L,K,fl,l',el,tl,g1,g2,Ir hm ?_ g3,g4,g6,g5⟩
  rintro rfl
  unfold Am at g3 ha
  rw [g3] at ha;cases ha
theorem pre_take {l:Bs} {o L:Nat} {a b:Bs} (h:a ++ b=(l.drop o).take L) (hb:b.length=4) (hl:o + L ≤ l.length):a=(l.drop o).take (L - 4):=by
 have hL:=congrArg List.length h
 rw [List.length_append,Hn hl] at hL
 have:=congrArg (List.take a.length) h
 rw [List.take_left',List.take_take,show min a.length L=L - 4 by omega] at this
 ·exact this
 ·rfl
end Go.Proofs.YtfdfdagbeeeomaaDoor.V2.S
namespace Go.Proofs.YtfdfdagbeeeomaaDoor.V2.S
open Go
set_option maxRecDepth 100000
set_option maxHeartbeats 4000000
set_option linter.unusedVariables false
attribute [local irreducible] fN fO nM gM pM Phi.fn mp bl At Bx Ce Ac C9 Dr
def BareS (H:HF):Prop:=∀ {n k s e b L:Nat} {m:T FObj},Ret 1 H [frV k s e b L] n m (.b true)
theorem bare_s {O:Oz} (hO:O=zO) (Φ:Phi):BareS (p120 O Φ):=fun {n k s e b L m} K P hn hf=>by
 conv=>lhs;whnf
 refine bxFr hO (by omega) ?_
 conv=>lhs;whnf
 refine fa0 hO ?_
 conv=>lhs;whnf
 refine ldC hO (by exact asm) (by rfl) ?_
 conv=>lhs;whnf
 refine eqT hO (by omega) ?_
 conv=>lhs;whnf
 refine fa0 hO ?_
 conv=>lhs;whnf
 refine ldC hO (by exact asm) (by rfl) ?_
 conv=>lhs;whnf
 refine eqT hO (by omega) ?_
 conv=>lhs;whnf
 refine fa0 hO ?_
 conv=>lhs;whnf
 refine ldC hO (by exact asm) (by rfl) ?_
 conv=>lhs;whnf
 refine eqT hO (by omega) ?_
 conv=>lhs;whnf
 exact hf _ _ (by omega) (by omega) (by exact Kq.kp (Kq.ml kr))
def MayF (H:HF):Prop:=∀ {n k s e b L:Nat} {m:T FObj},Gl m → 4 ≤ n → (k=1 ∨ k=2 ∨ k=5) → L ≤ 256 → Ret 2 H [frV k s e b L] n m (.b true)
theorem mayf_s {O:Oz} (hO:O=zO) (Φ:Phi) (HB:BareS (Phi.fn Φ 120)):MayF (p65 O Φ):=fun {n k s e b L m} hG hn4 hk hL K P hn hf=>by
 obtain ⟨e0,t0,hg⟩:=hG.f
 rcases hk with rfl | rfl | rfl
 ·conv=>lhs;whnf
  refine bxFr hO (by omega) ?_
  conv=>lhs;whnf
  refine fa0 hO ?_
  conv=>lhs;whnf
  refine ldC hO (by exact asm) (by rfl) ?_
  conv=>lhs;whnf
  refine geT hO (by omega) ?_
  conv=>lhs;whnf
  refine fa0 hO ?_
  conv=>lhs;whnf
  refine ldC hO (by exact asm) (by rfl) ?_
  conv=>lhs;whnf
  refine leT hO (by omega) ?_
  conv=>lhs;whnf
  refine fa0 hO ?_
  conv=>lhs;whnf
  refine ldC hO (by exact asm) (by rfl) ?_
  conv=>lhs;whnf
  refine lvS hO ?_
  conv=>lhs;whnf
  refine leT hO hL ?_
  conv=>lhs;whnf
  refine fa0 hO ?_
  conv=>lhs;whnf
  refine ldC hO (by exact asm) (by rfl) ?_
  conv=>lhs;whnf
  refine uia hO ?_
  conv=>lhs;whnf
  refine fe ?_
  conv=>lhs;whnf
  refine ldC hO (by exact an hg) (by rfl) ?_
  conv=>lhs;whnf
  refine H0 hO (by exact asm) ?_
  conv=>lhs;whnf
  refine HB _ _ (by omega) (fun n1 m1 h1 g1 k1=>?_)
  conv=>lhs;whnf
  exact hf _ _ (by omega) (by omega) (by exact Kq.kp (Kq.tp (Kq.ml kr) k1))
 ·conv=>lhs;whnf
  refine bxFr hO (by omega) ?_
  conv=>lhs;whnf
  refine fa0 hO ?_
  conv=>lhs;whnf
  refine ldC hO (by exact asm) (by rfl) ?_
  conv=>lhs;whnf
  refine geT hO (by omega) ?_
  conv=>lhs;whnf
  refine fa0 hO ?_
  conv=>lhs;whnf
  refine ldC hO (by exact asm) (by rfl) ?_
  conv=>lhs;whnf
  refine leT hO (by omega) ?_
  conv=>lhs;whnf
  refine fa0 hO ?_
  conv=>lhs;whnf
  refine ldC hO (by exact asm) (by rfl) ?_
  conv=>lhs;whnf
  refine lvS hO ?_
  conv=>lhs;whnf
  refine leT hO hL ?_
  conv=>lhs;whnf
  refine fa0 hO ?_
  conv=>lhs;whnf
  refine ldC hO (by exact asm) (by rfl) ?_
  conv=>lhs;whnf
  refine uia hO ?_
  conv=>lhs;whnf
  refine fe ?_
  conv=>lhs;whnf
  refine ldC hO (by exact an hg) (by rfl) ?_
  conv=>lhs;whnf
  refine H0 hO (by exact asm) ?_
  conv=>lhs;whnf
  refine HB _ _ (by omega) (fun n1 m1 h1 g1 k1=>?_)
  conv=>lhs;whnf
  exact hf _ _ (by omega) (by omega) (by exact Kq.kp (Kq.tp (Kq.ml kr) k1))
 ·conv=>lhs;whnf
  refine bxFr hO (by omega) ?_
  conv=>lhs;whnf
  refine fa0 hO ?_
  conv=>lhs;whnf
  refine ldC hO (by exact asm) (by rfl) ?_
  conv=>lhs;whnf
  refine geT hO (by omega) ?_
  conv=>lhs;whnf
  refine fa0 hO ?_
  conv=>lhs;whnf
  refine ldC hO (by exact asm) (by rfl) ?_
  conv=>lhs;whnf
  refine leT hO (by omega) ?_
  conv=>lhs;whnf
  refine fa0 hO ?_
  conv=>lhs;whnf
  refine ldC hO (by exact asm) (by rfl) ?_
  conv=>lhs;whnf
  refine lvS hO ?_
  conv=>lhs;whnf
  refine leT hO hL ?_
  conv=>lhs;whnf
  refine fa0 hO ?_
  conv=>lhs;whnf
  refine ldC hO (by exact asm) (by rfl) ?_
  conv=>lhs;whnf
  refine uia hO ?_
  conv=>lhs;whnf
  refine fe ?_
  conv=>lhs;whnf
  refine ldC hO (by exact an hg) (by rfl) ?_
  conv=>lhs;whnf
  refine H0 hO (by exact asm) ?_
  conv=>lhs;whnf
  refine HB _ _ (by omega) (fun n1 m1 h1 g1 k1=>?_)
  conv=>lhs;whnf
  exact hf _ _ (by omega) (by omega) (by exact Kq.kp (Kq.tp (Kq.ml kr) k1))
def LayF (H:HF):Prop:=∀ {n k s e b L:Nat} {m:T FObj} {p:Bs} {tl:Tl},4 ≤ n → k < 256 → s < 4294967296 → e < 4294967296 → Am m b (.bs (Ac p) 5 tl) → b < n → L=p.length → L ≤ 256 → Dc 50 [] H [frV k s e b L] n m (fun r n' m'=>∃ wb,r=.p wb 0 ∧ n ≤ wb ∧ WrA m' n' wb (sgB k s e p))
theorem layf_s {O:Oz} (hO:O=zO) (Φ:Phi) (HB:Ll (Phi.fn Φ 26)) (H4:Hf (Phi.fn Φ 39) .u32 4 4294967296 4 Ak) (HT:LayT (Phi.fn Φ 75)):LayF (p66 O Φ):=fun {n k s e b L m p tl} hn4 hk hs he hb hbn hLp hL K P hn hf=>by
 conv=>lhs;whnf
 refine bxFr hO (by omega) ?_
 conv=>lhs;whnf
 refine alO hO (by omega) ?_
 conv=>lhs;whnf
 refine fa0 hO ?_
 conv=>lhs;whnf
 refine ldC hO (by exact an asm) (by rfl) ?_
 conv=>lhs;whnf
 ((refine bs1 hO hk (by omega) ?_))
 conv=>lhs;whnf
 (refine HB (bs:=[]) (x:=[UInt8.ofNat k]) (WrA.new (by omega) (by exact an asm)) (Sl.own (x:=[UInt8.ofNat k]) (by exact asm) (by omega) (Nat.le_refl 1)) (fun h=>absurd h (List.cons_ne_nil _ _)) (by simp only [List.length_nil,List.length_singleton];omega) _ _ (by omega) (fun v1 n1 m1 h1 g1 k1 q1=>?_);obtain ⟨rfl,w1⟩:=q1)
 conv=>lhs;whnf
 refine fa0 hO ?_
 conv=>lhs;whnf
 refine ldC hO (by exact ka k1 (an (an asm))) (by rfl) ?_
 conv=>lhs;whnf
 refine fa0 hO ?_
 conv=>lhs;whnf
 refine ldC hO (by exact ka k1 (an (an asm))) (by rfl) ?_
 conv=>lhs;whnf
 refine fa0 hO ?_
 conv=>lhs;whnf
 refine ldC hO (by exact ka k1 (an (an asm))) (by rfl) ?_
 conv=>lhs;whnf
 refine fa0 hO ?_
 conv=>lhs;whnf
 refine ldC hO (by exact ka k1 (an (an asm))) (by rfl) ?_
 conv=>lhs;whnf
 refine fa0 hO ?_
 conv=>lhs;whnf
 refine ldC hO (by exact ka k1 (an (an asm))) (by rfl) ?_
 conv=>lhs;whnf
 refine ubu hO ?_
 conv=>lhs;whnf
 refine fe ?_
 conv=>lhs;whnf
 refine fe ?_
 conv=>lhs;whnf
 refine fe ?_
 conv=>lhs;whnf
 refine fe ?_
 conv=>lhs;whnf
 refine fe ?_
 conv=>lhs;whnf
 ((refine lpU hO (by omega) ?_))
 conv=>lhs;whnf
 refine ltT hO (by omega) ?_
 conv=>lhs;whnf
 refine upq hO ?_
 conv=>lhs;whnf
 refine fe ?_
 conv=>lhs;whnf
 (refine H4 w1 hs (by first | decide | (simp only [List.length_append,Ai,List.length_nil,List.length_singleton];omega)) _ _ (by omega) (fun v2 n2 m2 h2 g2 k2 q2=>?_);obtain ⟨rfl,w2⟩:=q2)
 conv=>lhs;whnf
 refine adI hO (by omega) ?_
 conv=>lhs;whnf
 ((refine lpU hO (by omega) ?_))
 conv=>lhs;whnf
 refine ltT hO (by omega) ?_
 conv=>lhs;whnf
 refine upq hO ?_
 conv=>lhs;whnf
 refine fe ?_
 conv=>lhs;whnf
 (refine H4 w2 he (by first | decide | (simp only [List.length_append,Ai,List.length_nil,List.length_singleton];omega)) _ _ (by omega) (fun v3 n3 m3 h3 g3 k3 q3=>?_);obtain ⟨rfl,w3⟩:=q3)
 conv=>lhs;whnf
 refine adI hO (by omega) ?_
 conv=>lhs;whnf
 ((refine lpU hO (by omega) ?_))
 conv=>lhs;whnf
 refine ltT hO (by omega) ?_
 conv=>lhs;whnf
 refine upq hO ?_
 conv=>lhs;whnf
 refine fe ?_
 conv=>lhs;whnf
 (refine H4 w3 (by omega) (by first | decide | (simp only [List.length_append,Ai,List.length_nil,List.length_singleton];omega)) _ _ (by omega) (fun v4 n4 m4 h4 g4 k4 q4=>?_);obtain ⟨rfl,w4⟩:=q4)
 conv=>lhs;whnf
 refine adI hO (by omega) ?_
 conv=>lhs;whnf
 ((refine lpU hO (by omega) ?_))
 conv=>lhs;whnf
 refine ltT hO (by omega) ?_
 conv=>lhs;whnf
 refine upq hO ?_
 conv=>lhs;whnf
 refine fe ?_
 conv=>lhs;whnf
 (refine H4 w4 (by omega) (by first | decide | (simp only [List.length_append,Ai,List.length_nil,List.length_singleton];omega)) _ _ (by omega) (fun v5 n5 m5 h5 g5 k5 q5=>?_);obtain ⟨rfl,w5⟩:=q5)
 conv=>lhs;whnf
 refine adI hO (by omega) ?_
 conv=>lhs;whnf
 ((refine lpU hO (by omega) ?_))
 conv=>lhs;whnf
 refine ltT hO (by omega) ?_
 conv=>lhs;whnf
 refine upq hO ?_
 conv=>lhs;whnf
 refine fe ?_
 conv=>lhs;whnf
 (refine H4 w5 (by omega) (by first | decide | (simp only [List.length_append,Ai,List.length_nil,List.length_singleton];omega)) _ _ (by omega) (fun v6 n6 m6 h6 g6 k6 q6=>?_);obtain ⟨rfl,w6⟩:=q6)
 conv=>lhs;whnf
 refine adI hO (by omega) ?_
 conv=>lhs;whnf
 ((refine lpU hO (by omega) ?_))
 conv=>lhs;whnf
 refine ltF hO (by omega) ?_
 conv=>lhs;whnf
 refine fa0 hO ?_
 have A56:Am m6 n _:=ka k6 (ka k5 (ka k4 (ka k3 (ka k2 (ka k1 (an (an asm)))))))
 conv=>lhs;whnf
 refine ldC hO A56 (by rfl) ?_
 conv=>lhs;whnf
 ((refine bSP hO (by exact ka k6 (ka k5 (ka k4 (ka k3 (ka k2 (ka k1 (an (an (an hb))))))))) (by omega) ?_;rw [tk0 hLp]))
 conv=>lhs;whnf
 (refine HT (s:=p) w6 (by omega) (by simp only [List.length_append,Ai,List.length_nil,List.length_singleton];omega) _ _ (by omega) (fun v7 n7 m7 h7 g7 k7 q7=>?_);obtain ⟨rfl,w7⟩:=q7)
 conv=>lhs;whnf
 exact hf _ _ _ (by omega) (by omega) (by exact Kq.tp (Kq.tp (Kq.tp (Kq.tp (Kq.tp (Kq.tp (Kq.tp (Kq.ml (Kq.ml (Kq.ml kr))) k1) k2) k3) k4) k5) k6) k7) ⟨_,rfl,by omega,w7.to (by unfold sgB;simp only [List.append_assoc,List.nil_append])⟩
end Go.Proofs.YtfdfdagbeeeomaaDoor.V2.S
namespace Go.Proofs.YtfdfdagbeeeomaaDoor.V2.S
open Go
set_option maxRecDepth 100000
set_option maxHeartbeats 4000000
set_option linter.unusedVariables false
attribute [local irreducible] fN fO nM gM pM Phi.fn mp bl At Bx Ce Ac C9 Dr
def SignS (H:HF):Prop:=∀ {n k s e b L:Nat} {m:T FObj} {p:Bs} {tl:Tl},Gl m → 4 ≤ n → (k=1 ∨ k=2 ∨ k=5) → s < 4294967296 → e < 4294967296 → Am m b (.bs (Ac p) 5 tl) → b < n → L=p.length → L ≤ 256 → Dc 60 [] H [frV k s e b L] n m (fun r n' m'=>∃ b',r=.sl b' 0 (sgB k s e p).length (sgB k s e p).length false 1 ∧ n ≤ b' ∧ b' < n' ∧ Am m' b' (.bs (Ac (sgB k s e p)) 5 .more))
theorem sign_s {O:Oz} (hO:O=zO) (Φ:Phi) (HM:MayF (Phi.fn Φ 65)) (HL:LayF (Phi.fn Φ 66)) (HD:It (Phi.fn Φ 27)):SignS (p50 O Φ):=fun {n k s e b L m p tl} hG hn4 hk hs he hb hbn hLp hL K P hn hf=>by
 have hne:=sgB_ne k s e p
 conv=>lhs;whnf
 refine bxFr hO (by omega) ?_
 conv=>lhs;whnf
 refine H0 hO (by exact asm) ?_
 conv=>lhs;whnf
 (refine HM (hG.kp (n:=n) (by exact Kq.kp (Kq.ml kr)) hn4) (by omega) hk hL _ _ (by omega) (fun n1 m1 h1 g1 k1=>?_))
 conv=>lhs;whnf
 refine H0 hO (by exact ka k1 asm) ?_
 conv=>lhs;whnf
 (refine HL (by omega) (by omega) hs he (tl:=tl) (by exact ka k1 (an hb)) (by omega) hLp hL _ _ (by omega) (fun v2 n2 m2 h2 g2 k2 q2=>?_);obtain ⟨wb,rfl,c1,w2⟩:=q2;have k2p:=Kq.kp k2)
 conv=>lhs;whnf
 (refine HD w2 hne (by first | (rw [F9];omega) | (rw [G5];omega) | (rw [He];omega)) _ _ (by omega) (fun v3 n3 m3 h3 g3 k3 q3=>?_);obtain ⟨b3,rfl,d3,e3,f3,w3⟩:=q3)
 conv=>lhs;whnf
 exact hf _ _ _ (by omega) (by omega) (by exact Kq.tp (Kq.tp (Kq.tp (Kq.ml kr) k1) k2p) k3) ⟨b3,rfl,by omega,by omega,f3⟩
def EncS (Y:Cy) (H:HF):Prop:=∀ {n k s e b L tg:Nat} {m:T FObj} {p:Bs} {tl:Tl},Gl m → 4 ≤ n → (k=1 ∨ k=2 ∨ k=5) → s < 4294967296 → e < 4294967296 → tg < 18446744073709551616 → Am m b (.bs (Ac p) 5 tl) → b < n → L=p.length → L ≤ 256 → Dc 80 [] H [frV k s e b L,.n .u64 tg] n m (fun r n' m'=>∃ b',r=.tup [.sl b' 0 (Ke Y k s e p tg).length (Ke Y k s e p tg).length false 1,.n .i64 0] ∧ n ≤ b' ∧ b' < n' ∧ Am m' b' (.bs (Ac (Ke Y k s e p tg)) 5 .more))
theorem enc_s {O:Oz} {Y:Cy} (hO:O=zO) (Φ:Phi) (HM:MayF (Phi.fn Φ 65)) (HL:LayF (Phi.fn Φ 66)) (H8:Hf (Phi.fn Φ 25) .u64 8 18446744073709551616 8 Ae) (HD:It (Phi.fn Φ 27)) (HC:CrcY Y (Phi.fn Φ 67)) (H4:Hf (Phi.fn Φ 39) .u32 4 4294967296 4 Ak):EncS Y (p47 O Φ):=fun {n k s e b L tg m p tl} hG hn4 hk hs he htg hb hbn hLp hL K P hn hf=>by
 have hsl:=F9 k s e p
 have hpl:=G5 k s e p tg
 have hpn:Je k s e p tg ≠ []:=fun h=>by rw [h] at hpl;simp at hpl;omega
 have hen:Ke Y k s e p tg ≠ []:=fun h=>by have:=He Y k s e p tg;rw [h] at this;simp at this;omega
 have hcr:=Y.c32 (Je k s e p tg)
 conv=>lhs;whnf
 refine bxFr hO (by omega) ?_
 conv=>lhs;whnf
 refine H0 hO (by exact asm) ?_
 conv=>lhs;whnf
 (refine HM (hG.kp (n:=n) (by exact Kq.kp (Kq.ml kr)) hn4) (by omega) hk hL _ _ (by omega) (fun n1 m1 h1 g1 k1=>?_))
 conv=>lhs;whnf
 refine H0 hO (by exact ka k1 asm) ?_
 conv=>lhs;whnf
 (refine HL (by omega) (by omega) hs he (tl:=tl) (by exact ka k1 (an hb)) (by omega) hLp hL _ _ (by omega) (fun v2 n2 m2 h2 g2 k2 q2=>?_);obtain ⟨wb,rfl,c1,w2⟩:=q2;have k2p:=Kq.kp k2)
 conv=>lhs;whnf
 (refine H8 w2 htg (by omega) _ _ (by omega) (fun v3 n3 m3 h3 g3 k3 q3=>?_);obtain ⟨rfl,w3⟩:=q3;have w3:WrA m3 n3 wb (Je k s e p tg):=w3.to (by unfold Je;rfl))
 conv=>lhs;whnf
 (refine HD w3 hpn (by first | (rw [F9];omega) | (rw [G5];omega) | (rw [He];omega)) _ _ (by omega) (fun v4 n4 m4 h4 g4 k4 q4=>?_);obtain ⟨b4,rfl,d4,e4,f4,w4⟩:=q4)
 conv=>lhs;whnf
 refine neF hO (by omega) ?_
 conv=>lhs;whnf
 (refine HC (N:=n4) (x:=Je k s e p tg) (hG.kp (n:=n) (by exact Kq.kp (Kq.tp (Kq.tp (Kq.tp (Kq.tp (Kq.ml kr) k1) k2p) k3) k4)) hn4) (Sl.own f4 e4 (Nat.le_refl _)) (by omega) _ _ ?_)
 conv=>lhs;whnf
 (refine H4 w4 hcr (by omega) _ _ (by omega) (fun v5 n5 m5 h5 g5 k5 q5=>?_);obtain ⟨rfl,w5⟩:=q5;have w5:WrA m5 n5 wb (Ke Y k s e p tg):=w5.to (by unfold Ke;rfl))
 conv=>lhs;whnf
 (refine HD w5 hen (by first | (rw [F9];omega) | (rw [G5];omega) | (rw [He];omega)) _ _ (by omega) (fun v6 n6 m6 h6 g6 k6 q6=>?_);obtain ⟨b6,rfl,d6,e6,f6,w6⟩:=q6)
 conv=>lhs;whnf
 exact hf _ _ _ (by omega) (by omega) (by exact Kq.tp (Kq.tp (Kq.tp (Kq.tp (Kq.tp (Kq.tp (Kq.ml kr) k1) k2p) k3) k4) k5) k6) ⟨b6,rfl,by omega,by omega,f6⟩
end Go.Proofs.YtfdfdagbeeeomaaDoor.V2.S
namespace Go.Proofs.YtfdfdagbeeeomaaDoor.V2.S
open Go
set_option maxRecDepth 100000
set_option maxHeartbeats 4000000
set_option linter.unusedVariables false
attribute [local irreducible] fN fO nM gM pM Phi.fn mp bl At Bx Ce Ac C9 Dr
def DecS (Y:Cy) (H:HF):Prop:=∀ {n k s e tg:Nat} {m:T FObj} {v:FV} {p:Bs},Gl m → 4 ≤ n → (k=1 ∨ k=2 ∨ k=5) → s < 4294967296 → e < 4294967296 → tg < 18446744073709551616 → p ≠ [] → p.length ≤ 256 → Sl m n v (Ke Y k s e p tg) → Dc 60 [] H [v] n m (fun r n' m'=>∃ b',r=.tup [frV k s e b' p.length,.n .u64 tg,.n .i64 0] ∧ n ≤ b' ∧ b' < n' ∧ Am m' b' (.bs (Ac p) 5 .more))
theorem dec_s {O:Oz} {Y:Cy} (hO:O=zO) (Φ:Phi) (HN:NewR (Phi.fn Φ 32)) (HB:ByR (Phi.fn Φ 54)) (H4:FourR (Phi.fn Φ 42)) (HT:TextR (Phi.fn Φ 69)) (HCl:F0 (Phi.fn Φ 29)) (H8:Hs (Phi.fn Φ 33)) (HE:ErrR (Phi.fn Φ 34)) (HL:M9 (Phi.fn Φ 43)) (HC:CrcY Y (Phi.fn Φ 67)) (HM:MayF (Phi.fn Φ 65)):DecS Y (p51 O Φ):=fun {n k s e tg m v p} hG hn4 hk hs he htg hp hpl hv K P hn hf=>by
 have hel:=He Y k s e p tg
 have hen:Ke Y k s e p tg ≠ []:=fun h=>by rw [h] at hel;simp at hel;omega
 have hes:=encB_split Y k s e p tg
 have hcr:=Y.c32 (Je k s e p tg)
 have hk2:k < 256:=by omega
 have htl:(D3 p).length=2 + p.length:=Bj p
 rcases hv with ⟨_,h⟩ | ⟨vb,o,L,K',fl,l,el,tl,ga,rfl,gb,gc,gd,ge⟩
 ·exact absurd h hen
 have hL:L=35 + p.length:=by rw [← hel,ge,Hn gc]
 have hpre:Je k s e p tg=(l.drop o).take (L - 4):=pre_take (b:=Ak (Y.cr (Je k s e p tg))) ge (Ai _) gc
 conv=>lhs;whnf
 refine alO hO (by omega) ?_
 conv=>lhs;whnf
 (refine HN (x:=Ke Y k s e p tg) (.inr ⟨vb,o,L,K',fl,l,el,tl,by omega,rfl,(by exact an gb),gc,gd,ge⟩) (fun h=>absurd h hen) (by omega) _ _ (by omega) (fun v1 n1 m1 h1 g1 k1 q1=>?_);obtain ⟨rb,rfl,c1,r1⟩:=q1;have k1p:=Kq.kp k1;have r1:=r1.to hes;have z1:=r1.1)
 conv=>lhs;whnf
 (refine HB (a:=k) r1 hk2 (by rw [← hes];omega) _ _ (by omega) (fun v2 n2 m2 h2 g2 k2 q2=>?_);obtain ⟨rfl,r2⟩:=q2;have k2p:Kp n _ _:=Kq.low k2 (by omega) (fun x hx=>by rw [List.mem_singleton.1 hx];omega))
 conv=>lhs;whnf
 refine ubu hO ?_
 conv=>lhs;whnf
 refine alO hO (by omega) ?_
 conv=>lhs;whnf
 refine ust hO ?_
 conv=>lhs;whnf
 refine Aq (by exact asm) ?_
 conv=>lhs;whnf
 refine fe ?_
 conv=>lhs;whnf
 refine fe ?_
 conv=>lhs;whnf
 refine fe ?_
 conv=>lhs;whnf
 refine fe ?_
 conv=>lhs;whnf
 refine fe ?_
 conv=>lhs;whnf
 refine fe ?_
 conv=>lhs;whnf
 refine fe ?_
 conv=>lhs;whnf
 refine fe ?_
 conv=>lhs;whnf
 refine fe ?_
 conv=>lhs;whnf
 refine fe ?_
 conv=>lhs;whnf
 refine fe ?_
 conv=>lhs;whnf
 refine fe ?_
 conv=>lhs;whnf
 refine fe ?_
 conv=>lhs;whnf
 refine fe ?_
 conv=>lhs;whnf
 refine pM_mp.trans ?_
 conv=>lhs;whnf
 refine fa0 hO ?_
 conv=>lhs;whnf
 refine fa0 hO ?_
 conv=>lhs;whnf
 refine fa0 hO ?_
 conv=>lhs;whnf
 refine fa0 hO ?_
 conv=>lhs;whnf
 refine fa0 hO ?_
 conv=>lhs;whnf
 refine ubu hO ?_
 conv=>lhs;whnf
 ((refine lpU hO (by omega) ?_))
 conv=>lhs;whnf
 refine ltT hO (by omega) ?_
 conv=>lhs;whnf
 refine upq hO ?_
 conv=>lhs;whnf
 refine fe ?_
 conv=>lhs;whnf
 refine fe ?_
 conv=>lhs;whnf
 (refine H4 (a:=s) (by first | exact r2 | exact (r2.kp (by exact Kq.kp (Kq.ml (Kq.ml kr)))).up (by omega)) hs (by simp only [List.length_append,Ai,Ad,htl,List.length_nil];omega) _ _ (by omega) (fun v3 n3 m3 h3 g3 k3 q3=>?_);obtain ⟨rfl,r3⟩:=q3;have k3p:Kp n _ _:=Kq.low k3 (by omega) (fun x hx=>by rw [List.mem_singleton.1 hx];omega))
 conv=>lhs;whnf
 refine stC hO (by exact Kq.a1 k3 asm) (by kernel_rfl) (fun _ _ _=>rfl) (fun _=>rfl) ?_
 conv=>lhs;whnf
 refine adI hO (by omega) ?_
 conv=>lhs;whnf
 ((refine lpU hO (by omega) ?_))
 conv=>lhs;whnf
 refine ltT hO (by omega) ?_
 conv=>lhs;whnf
 refine upq hO ?_
 conv=>lhs;whnf
 refine fe ?_
 conv=>lhs;whnf
 refine fe ?_
 conv=>lhs;whnf
 (refine H4 (a:=e) (by first | exact r3 | exact RdB.mp r3 (by exact Kq.a1 k3 asm) (by omega) (by omega)) he (by simp only [List.length_append,Ai,Ad,htl,List.length_nil];omega) _ _ (by omega) (fun v4 n4 m4 h4 g4 k4 q4=>?_);obtain ⟨rfl,r4⟩:=q4;have k4p:Kp n _ _:=Kq.low k4 (by omega) (fun x hx=>by rw [List.mem_singleton.1 hx];omega))
 conv=>lhs;whnf
 refine stC hO (by exact Kq.a1 k4 asm) (by kernel_rfl) (fun _ _ _=>rfl) (fun _=>rfl) ?_
 conv=>lhs;whnf
 refine adI hO (by omega) ?_
 conv=>lhs;whnf
 ((refine lpU hO (by omega) ?_))
 conv=>lhs;whnf
 refine ltT hO (by omega) ?_
 conv=>lhs;whnf
 refine upq hO ?_
 conv=>lhs;whnf
 refine fe ?_
 conv=>lhs;whnf
 refine fe ?_
 conv=>lhs;whnf
 (refine H4 (a:=0) (by first | exact r4 | exact RdB.mp r4 (by exact Kq.a1 k4 asm) (by omega) (by omega)) (by omega) (by simp only [List.length_append,Ai,Ad,htl,List.length_nil];omega) _ _ (by omega) (fun v5 n5 m5 h5 g5 k5 q5=>?_);obtain ⟨rfl,r5⟩:=q5;have k5p:Kp n _ _:=Kq.low k5 (by omega) (fun x hx=>by rw [List.mem_singleton.1 hx];omega))
 conv=>lhs;whnf
 refine stC hO (by exact Kq.a1 k5 asm) (by kernel_rfl) (fun _ _ _=>rfl) (fun _=>rfl) ?_
 conv=>lhs;whnf
 refine adI hO (by omega) ?_
 conv=>lhs;whnf
 ((refine lpU hO (by omega) ?_))
 conv=>lhs;whnf
 refine ltT hO (by omega) ?_
 conv=>lhs;whnf
 refine upq hO ?_
 conv=>lhs;whnf
 refine fe ?_
 conv=>lhs;whnf
 refine fe ?_
 conv=>lhs;whnf
 (refine H4 (a:=0) (by first | exact r5 | exact RdB.mp r5 (by exact Kq.a1 k5 asm) (by omega) (by omega)) (by omega) (by simp only [List.length_append,Ai,Ad,htl,List.length_nil];omega) _ _ (by omega) (fun v6 n6 m6 h6 g6 k6 q6=>?_);obtain ⟨rfl,r6⟩:=q6;have k6p:Kp n _ _:=Kq.low k6 (by omega) (fun x hx=>by rw [List.mem_singleton.1 hx];omega))
 conv=>lhs;whnf
 refine stC hO (by exact Kq.a1 k6 asm) (by kernel_rfl) (fun _ _ _=>rfl) (fun _=>rfl) ?_
 conv=>lhs;whnf
 refine adI hO (by omega) ?_
 conv=>lhs;whnf
 ((refine lpU hO (by omega) ?_))
 conv=>lhs;whnf
 refine ltT hO (by omega) ?_
 conv=>lhs;whnf
 refine upq hO ?_
 conv=>lhs;whnf
 refine fe ?_
 conv=>lhs;whnf
 refine fe ?_
 conv=>lhs;whnf
 (refine H4 (a:=0) (by first | exact r6 | exact RdB.mp r6 (by exact Kq.a1 k6 asm) (by omega) (by omega)) (by omega) (by simp only [List.length_append,Ai,Ad,htl,List.length_nil];omega) _ _ (by omega) (fun v7 n7 m7 h7 g7 k7 q7=>?_);obtain ⟨rfl,r7⟩:=q7;have k7p:Kp n _ _:=Kq.low k7 (by omega) (fun x hx=>by rw [List.mem_singleton.1 hx];omega))
 conv=>lhs;whnf
 refine stC hO (by exact Kq.a1 k7 asm) (by kernel_rfl) (fun _ _ _=>rfl) (fun _=>rfl) ?_
 conv=>lhs;whnf
 refine adI hO (by omega) ?_
 conv=>lhs;whnf
 ((refine lpU hO (by omega) ?_))
 conv=>lhs;whnf
 refine ltF hO (by omega) ?_
 conv=>lhs;whnf
 (refine HT (s:=p) (by first | exact r7 | exact RdB.mp r7 (by exact Kq.a1 k7 asm) (by omega) (by omega)) hp (by omega) (by simp only [List.length_append,Ai,Ad,htl,List.length_nil];omega) _ _ (by omega) (fun v8 n8 m8 h8 g8 k8 q8=>?_);obtain ⟨rfl,r8⟩:=q8;have k8p:Kp n _ _:=Kq.low k8 (by omega) (fun x hx=>by rw [List.mem_singleton.1 hx];omega))
 conv=>lhs;whnf
 refine sBS hO (by omega) ?_
 conv=>lhs;whnf
 (refine HCl (x:=p) (Sl.own (by exact asm) (by omega) (Nat.le_refl _)) (fun h=>absurd h hp) (by omega) _ _ (by omega) (fun v12 n12 m12 h12 g12 k12 q12=>?_);have k12p:=Kq.kp k12;obtain ⟨b12,rfl,c12,d12,e12⟩:=q12.ne hp;have r8:=(RdB.kp r8 (m':=m12) (by exact Kq.kp (Kq.tp (Kq.ml kr) k12p))).up (N':=n12) (by omega))
 conv=>lhs;whnf
 refine fa0 hO ?_
 have A75:Am m12 n2 _:=ka k12p (an (Kq.a1 k8 asm))
 conv=>lhs;whnf
 refine stC hO A75 (by kernel_rfl) (fun _ _ _=>rfl) (fun _=>rfl) ?_
 conv=>lhs;whnf
 (refine H8 (a:=tg) (by first | exact r8 | exact RdB.mp r8 A75 (by omega) (by omega)) htg (by simp only [List.length_append,Ai,Ad,List.length_nil];omega) _ _ (by omega) (fun v10 n10 m10 h10 g10 k10 q10=>?_);obtain ⟨rfl,r10⟩:=q10;have k10p:Kp n _ _:=Kq.low k10 (by omega) (fun x hx=>by rw [List.mem_singleton.1 hx];omega))
 conv=>lhs;whnf
 (refine H4 (a:=Y.cr (Je k s e p tg)) (y:=[]) (by exact r10) hcr (by simp only [List.length_append,Ai,List.length_nil];omega) _ _ (by omega) (fun v11 n11 m11 h11 g11 k11 q11=>?_);obtain ⟨rfl,r11⟩:=q11;have k11p:Kp n _ _:=Kq.low k11 (by omega) (fun x hx=>by rw [List.mem_singleton.1 hx];omega))
 conv=>lhs;whnf
 refine HE r11 _ _ ?_
 conv=>lhs;whnf
 refine neF hO (by omega) ?_
 conv=>lhs;whnf
 (refine HL r11 _ _ ?_;rw [List.length_nil])
 conv=>lhs;whnf
 refine gtF hO (by omega) ?_
 conv=>lhs;whnf
 refine lvS hO ?_
 conv=>lhs;whnf
 refine sbI hO (by omega) (by omega) ?_
 conv=>lhs;whnf
 refine svH hO (by omega) ?_
 conv=>lhs;whnf
 (refine HC (N:=n11) (x:=Je k s e p tg) (hG.kq (xs:=[]) (n:=n) (by exact Kq.tp (Kq.tp (Kq.ml (Kq.tp (Kq.ml (Kq.tp (Kq.ml (Kq.tp (Kq.ml (Kq.tp (Kq.ml (Kq.tp (Kq.ml (Kq.tp (Kq.ml (Kq.tp (Kq.ml (Kq.ml (Kq.tp (Kq.tp (Kq.ml kr) k1p) k2p))) k3p)) k4p)) k5p)) k6p)) k7p)) k8p)) k12p)) k10p) k11p) hn4 (fun x hx=>absurd hx List.not_mem_nil)) (.inr ⟨vb,o,L - 4,K',fl,l,el,tl,by omega,rfl,(by exact ka k11p (ka k10p (an (ka k12p (an (ka k8p (an (ka k7p (an (ka k6p (an (ka k5p (an (ka k4p (an (ka k3p (an (an (ka k2p (ka k1p (an gb))))))))))))))))))))),by omega,by omega,hpre⟩) (by rw [G5];omega) _ _ ?_)
 conv=>lhs;whnf
 refine neF hO (by omega) ?_
 have A87:Am m11 n2 _:=Kq.a1 k11 (Kq.a1 k10 asm)
 conv=>lhs;whnf
 refine H0 hO A87 ?_
 conv=>lhs;whnf
 (refine HM (hG.kq (xs:=[]) (n:=n) (by exact Kq.tp (Kq.tp (Kq.ml (Kq.tp (Kq.ml (Kq.tp (Kq.ml (Kq.tp (Kq.ml (Kq.tp (Kq.ml (Kq.tp (Kq.ml (Kq.tp (Kq.ml (Kq.tp (Kq.ml (Kq.ml (Kq.tp (Kq.tp (Kq.ml kr) k1p) k2p))) k3p)) k4p)) k5p)) k6p)) k7p)) k8p)) k12p)) k10p) k11p) hn4 (fun x hx=>absurd hx List.not_mem_nil)) (by omega) hk hpl _ _ (by omega) (fun n13 m13 h13 g13 k13=>?_))
 conv=>lhs;whnf
 refine H0 hO (by exact ka k13 A87) ?_
 have A90:Am m13 n _:=ka k13 (Kq.a1 k11 (Kq.a1 k10 (an (ka k12p (an (Kq.a1 k8 (an (Kq.a1 k7 (an (Kq.a1 k6 (an (Kq.a1 k5 (an (Kq.a1 k4 (an (Kq.a1 k3 (an (an (Kq.a1 k2 (ka k1p asm))))))))))))))))))))
 conv=>lhs;whnf
 refine ust hO ?_
 conv=>lhs;whnf
 refine Aq A90 ?_
 conv=>lhs;whnf
 refine fe ?_
 conv=>lhs;whnf
 refine fe ?_
 conv=>lhs;whnf
 refine fe ?_
 conv=>lhs;whnf
 refine fe ?_
 conv=>lhs;whnf
 refine fe ?_
 conv=>lhs;whnf
 refine fe ?_
 conv=>lhs;whnf
 refine fe ?_
 conv=>lhs;whnf
 refine fe ?_
 conv=>lhs;whnf
 refine fe ?_
 conv=>lhs;whnf
 refine fe ?_
 conv=>lhs;whnf
 refine fe ?_
 conv=>lhs;whnf
 refine fe ?_
 conv=>lhs;whnf
 refine fe ?_
 conv=>lhs;whnf
 refine fe ?_
 conv=>lhs;whnf
 refine pM_mp.trans ?_
 conv=>lhs;whnf
 refine Aq (by exact asm) ?_
 conv=>lhs;whnf
 refine fe ?_
 conv=>lhs;whnf
 refine fe ?_
 conv=>lhs;whnf
 refine fe ?_
 conv=>lhs;whnf
 refine fe ?_
 conv=>lhs;whnf
 refine fe ?_
 conv=>lhs;whnf
 refine fe ?_
 conv=>lhs;whnf
 refine fe ?_
 conv=>lhs;whnf
 exact hf _ _ _ (by omega) (by omega) (by exact Kq.ml (Kq.tp (Kq.tp (Kq.tp (Kq.ml (Kq.tp (Kq.ml (Kq.tp (Kq.ml (Kq.tp (Kq.ml (Kq.tp (Kq.ml (Kq.tp (Kq.ml (Kq.tp (Kq.ml (Kq.tp (Kq.ml (Kq.ml (Kq.tp (Kq.tp (Kq.ml kr) k1p) k2p))) k3p)) k4p)) k5p)) k6p)) k7p)) k8p)) k12p)) k10p) k11p) k13)) ⟨b12,rfl,by omega,by omega,(by exact an (ka k13 (Kq.a1 k11 (Kq.a1 k10 (an e12)))))⟩
end Go.Proofs.YtfdfdagbeeeomaaDoor.V2.S
namespace Go.Proofs.YtfdfdagbeeeomaaDoor.V2.S
open Go
set_option maxRecDepth 100000
set_option maxHeartbeats 4000000
set_option linter.unusedVariables false
attribute [local irreducible] fN fO nM gM pM Phi.fn mp bl At Bx Ce Ac C9 Dr
def Kinds (m:T FObj) (N kb L k:Nat):Prop:=kb < N ∧ ((L=1 ∧ k=1 ∧ Am m kb (.bs (Ac [UInt8.ofNat 1]) 5 .exact)) ∨ (L=2 ∧ (k=2 ∨ k=5) ∧ Am m kb (.bs (Ac [UInt8.ofNat 2,UInt8.ofNat 5]) 5 .exact)))
theorem Kinds.kp {m m':T FObj} {N N' kb L k:Nat} (h:Kinds m N kb L k) (q:Kp N m m') (hN:N ≤ N'):Kinds m' N' kb L k:=by
 obtain ⟨h1,⟨h2,h3,h4⟩ | ⟨h2,h3,h4⟩⟩:=h
 ·exact ⟨by omega,.inl ⟨h2,h3,q _ _ h1 h4⟩⟩
 ·exact ⟨by omega,.inr ⟨h2,h3,q _ _ h1 h4⟩⟩
def IdxK (H:HF):Prop:=∀ {n kb L k:Nat} {m:T FObj},Kinds m n kb L k → ∀ (c:KV) (P:FR),(∀ i,c (.n .i64 i) ⟨n,m⟩=P) → H [.sl kb 0 L L true 1,.n .u8 k] ⟨n,m⟩ c=P
theorem idxk_s {O:Oz} (hO:O=zO) (Φ:Phi):IdxK (p70 O Φ):=fun {n kb L k m} hK c P hf=>by
 have e0:bt [UInt8.ofNat 1] 0=1:=rfl
 have e1:bt [UInt8.ofNat 2,UInt8.ofNat 5] 0=2:=rfl
 have e2:bt [UInt8.ofNat 2,UInt8.ofNat 5] 1=5:=rfl
 have e3:bt [UInt8.ofNat 2,UInt8.ofNat 5] (0 + 1)=5:=rfl
 have l1:([UInt8.ofNat 1]:Bs).length=1:=rfl
 have l2:([UInt8.ofNat 2,UInt8.ofNat 5]:Bs).length=2:=rfl
 obtain ⟨hk,⟨rfl,rfl,ha⟩ | ⟨rfl,rfl | rfl,ha⟩⟩:=hK
 ·conv=>lhs;whnf
  refine lvS hO ?_
  conv=>lhs;whnf
  ((refine lpU hO (by omega) ?_))
  conv=>lhs;whnf
  refine ltT hO (by omega) ?_
  conv=>lhs;whnf
  refine ix01 hO (by omega) ?_
  conv=>lhs;whnf
  refine ldB hO ha (by omega) ?_
  conv=>lhs;whnf
  refine eqT hO (by omega) ?_
  conv=>lhs;whnf
  exact hf _
 ·conv=>lhs;whnf
  refine lvS hO ?_
  conv=>lhs;whnf
  ((refine lpU hO (by omega) ?_))
  conv=>lhs;whnf
  refine ltT hO (by omega) ?_
  conv=>lhs;whnf
  refine ix01 hO (by omega) ?_
  conv=>lhs;whnf
  refine ldB hO ha (by omega) ?_
  conv=>lhs;whnf
  refine eqT hO (by omega) ?_
  conv=>lhs;whnf
  exact hf _
 ·conv=>lhs;whnf
  refine lvS hO ?_
  conv=>lhs;whnf
  ((refine lpU hO (by omega) ?_))
  conv=>lhs;whnf
  refine ltT hO (by omega) ?_
  conv=>lhs;whnf
  refine ix01 hO (by omega) ?_
  conv=>lhs;whnf
  refine ldB hO ha (by omega) ?_
  conv=>lhs;whnf
  refine eqF hO (by omega) ?_
  conv=>lhs;whnf
  refine adI hO (by omega) ?_
  conv=>lhs;whnf
  ((refine lpU hO (by omega) ?_))
  conv=>lhs;whnf
  refine ltT hO (by omega) ?_
  conv=>lhs;whnf
  refine ix01 hO (by omega) ?_
  conv=>lhs;whnf
  refine ldB hO ha (by omega) ?_
  conv=>lhs;whnf
  refine eqT hO (by omega) ?_
  conv=>lhs;whnf
  exact hf _
def ContK (H:HF):Prop:=∀ {n kb L k:Nat} {m:T FObj},Kinds m n kb L k → Ms H [.sl kb 0 L L true 1,.n .u8 k] n m (.b true)
theorem contk_s {O:Oz} (hO:O=zO) (Φ:Phi) (H:IdxK (Phi.fn Φ 70)):ContK (p52 O Φ):=fun {n kb L k m} hK c P hf=>by
 conv=>lhs;whnf
 refine H hK _ _ (fun i=>?_)
 conv=>lhs;whnf
 refine geT hO (by omega) ?_
 conv=>lhs;whnf
 exact hf
def dgB (Y:Cy) (K:Bs) (k s e:Nat) (p:Bs):Bs:=Ke Y k s e p (Dr Y (Fs Y K) (sgB k s e p))
theorem Lb (Y:Cy) (K:Bs) (k s e:Nat) (p:Bs):(dgB Y K k s e p).length=35 + p.length:=He _ _ _ _ _ _
def SealS (Y:Cy) (H:HF):Prop:=∀ {n rb k s e b L:Nat} {m:T FObj} {K p:Bs} {tl:Tl},Gl m → 4 ≤ n → RingAt m n rb K → (k=1 ∨ k=2 ∨ k=5) → s < 4294967296 → e < 4294967296 → Am m b (.bs (Ac p) 5 tl) → b < n → L=p.length → L ≤ 256 → Dc 300 [] H [.p rb 0,frV k s e b L] n m (fun r n' m'=>∃ b',r=.sl b' 0 (dgB Y K k s e p).length (dgB Y K k s e p).length false 1 ∧ n ≤ b' ∧ b' < n' ∧ Am m' b' (.bs (Ac (dgB Y K k s e p)) 5 .more))
theorem seal_s {O:Oz} {Y:Cy} (hO:O=zO) (Φ:Phi) (HH:HelloS Y (Phi.fn Φ 48)) (HS:SignS (Phi.fn Φ 50)) (HT:TagS Y (Phi.fn Φ 49)) (HE:EncS Y (Phi.fn Φ 47)):SealS Y (p28 O Φ):=fun {n rb k s e b L m K p tl} hG hn4 hR hk hs he hb hbn hLp hL c P hn hf=>by
 have h32:L32 (Fs Y K):=L32.der Y K _ []
 have hsl:=F9 k s e p
 have htl:=E6 Y (Fs Y K) (sgB k s e p)
 conv=>lhs;whnf
 refine bxFr hO (by omega) ?_
 conv=>lhs;whnf
 refine H0 hO (by exact asm) ?_
 conv=>lhs;whnf
 refine H0 hO (by exact asm) ?_
 conv=>lhs;whnf
 (refine HH (hG.kp (n:=n) (by exact Kq.kp (Kq.ml kr)) hn4) (by omega) ((hR.kp (by exact Kq.kp (Kq.ml kr))).up (by omega)) _ _ (by omega) (fun n1 m1 h1 g1 k1=>?_))
 conv=>lhs;whnf
 refine H0 hO (by exact ka k1 asm) ?_
 conv=>lhs;whnf
 refine rcE hO (by kernel_rfl) rfl ?_
 conv=>lhs;whnf
 refine H0 hO (by exact ka k1 asm) ?_
 conv=>lhs;whnf
 refine rcE hO (by kernel_rfl) rfl ?_
 conv=>lhs;whnf
 (refine HS (hG.kp (n:=n) (by exact Kq.kp (Kq.tp (Kq.ml kr) k1)) hn4) (by omega) hk hs he (tl:=tl) (by exact ka k1 (an hb)) (by omega) hLp hL _ _ (by omega) (fun v2 n2 m2 h2 g2 k2 q2=>?_);have k2p:=Kq.kp k2;obtain ⟨b2,rfl,d2,e2,f2⟩:=q2)
 have A10:Am m2 n _:=ka k2p (ka k1 asm)
 conv=>lhs;whnf
 refine H0 hO A10 ?_
 conv=>lhs;whnf
 refine rcE hO (by kernel_rfl) rfl ?_
 conv=>lhs;whnf
 (refine HT (D:=sgB k s e p) (hG.kp (n:=n) (by exact Kq.kp (Kq.tp (Kq.tp (Kq.ml kr) k1) k2p)) hn4) (by omega) h32 (Sl.own f2 e2 (Nat.le_refl _)) (by omega) _ _ (by omega) (fun n3 m3 h3 g3 k3=>?_))
 conv=>lhs;whnf
 refine H0 hO (by exact ka k3 A10) ?_
 conv=>lhs;whnf
 refine rcE hO (by kernel_rfl) rfl ?_
 conv=>lhs;whnf
 (refine HE (hG.kp (n:=n) (by exact Kq.kp (Kq.tp (Kq.tp (Kq.tp (Kq.ml kr) k1) k2p) k3)) hn4) (by omega) hk hs he htl (tl:=tl) (by exact ka k3 (ka k2p (ka k1 (an hb)))) (by omega) hLp hL _ _ (by omega) (fun v5 n5 m5 h5 g5 k5 q5=>?_);have k5p:=Kq.kp k5;rw [show Ke Y k s e p (Dr Y (Fs Y K) (sgB k s e p))=dgB Y K k s e p by unfold dgB;rfl] at q5;obtain ⟨b5,rfl,d5,e5,f5⟩:=q5)
 conv=>lhs;whnf
 exact hf _ _ _ (by omega) (by omega) (by exact Kq.tp (Kq.tp (Kq.tp (Kq.tp (Kq.ml kr) k1) k2p) k3) k5p) ⟨b5,rfl,by omega,by omega,f5⟩
def M7 (Y:Cy) (H:HF):Prop:=∀ {n rb k s e kb L:Nat} {m:T FObj} {v:FV} {K p:Bs},Gl m → 4 ≤ n → RingAt m n rb K → (k=1 ∨ k=2 ∨ k=5) → s < 4294967296 → e < 4294967296 → p ≠ [] → p.length ≤ 256 → Sl m n v (dgB Y K k s e p) → Kinds m n kb L k → Dc 300 [] H [.p rb 0,v,.sl kb 0 L L true 1] n m (fun r n' m'=>∃ b',r=.tup [frV k s e b' p.length,.n .i64 0] ∧ n ≤ b' ∧ b' < n' ∧ Am m' b' (.bs (Ac p) 5 .more))
theorem open_s {O:Oz} {Y:Cy} (hO:O=zO) (Φ:Phi) (HD:DecS Y (Phi.fn Φ 51)) (HC:ContK (Phi.fn Φ 52)) (HH:HelloS Y (Phi.fn Φ 48)) (HS:SignS (Phi.fn Φ 50)) (HT:TagS Y (Phi.fn Φ 49)):M7 Y (p31 O Φ):=fun {n rb k s e kb L m v K p} hG hn4 hR hk hs he hp hpl hv hK c P hn hf=>by
 have h32:L32 (Fs Y K):=L32.der Y K _ []
 have hsl:=F9 k s e p
 have htl:=E6 Y (Fs Y K) (sgB k s e p)
 conv=>lhs;whnf
 refine alO hO (by omega) ?_
 conv=>lhs;whnf
 (refine HD (k:=k) (s:=s) (e:=e) (p:=p) (tg:=Dr Y (Fs Y K) (sgB k s e p)) (hG.kp (n:=n) (by exact Kq.kp (Kq.ml kr)) hn4) (by omega) hk hs he htl hp hpl ((hv.kp (by exact Kq.kp (Kq.ml kr))).up (by omega)) _ _ (by omega) (fun v1 n1 m1 h1 g1 k1 q1=>?_);have k1p:=Kq.kp k1;obtain ⟨b1,rfl,d1,e1,f1⟩:=q1)
 conv=>lhs;whnf
 refine alO hO (by omega) ?_
 conv=>lhs;whnf
 refine ust hO ?_
 conv=>lhs;whnf
 refine Aq (by exact asm) ?_
 conv=>lhs;whnf
 refine fe ?_
 conv=>lhs;whnf
 refine fe ?_
 conv=>lhs;whnf
 refine fe ?_
 conv=>lhs;whnf
 refine fe ?_
 conv=>lhs;whnf
 refine fe ?_
 conv=>lhs;whnf
 refine fe ?_
 conv=>lhs;whnf
 refine fe ?_
 conv=>lhs;whnf
 refine fe ?_
 conv=>lhs;whnf
 refine fe ?_
 conv=>lhs;whnf
 refine fe ?_
 conv=>lhs;whnf
 refine fe ?_
 conv=>lhs;whnf
 refine fe ?_
 conv=>lhs;whnf
 refine fe ?_
 conv=>lhs;whnf
 refine fe ?_
 conv=>lhs;whnf
 refine pM_mp.trans ?_
 conv=>lhs;whnf
 refine neF hO (by omega) ?_
 conv=>lhs;whnf
 refine fa0 hO ?_
 conv=>lhs;whnf
 refine ldC hO (by exact asm) (by rfl) ?_
 conv=>lhs;whnf
 (refine HC (hK.kp (N:=n) (by exact Kq.kp (Kq.ml (Kq.ml (Kq.tp (Kq.ml kr) k1p)))) (by omega)) _ _ ?_)
 conv=>lhs;whnf
 refine H0 hO (by exact asm) ?_
 conv=>lhs;whnf
 (refine HH (hG.kp (n:=n) (by exact Kq.kp (Kq.ml (Kq.ml (Kq.tp (Kq.ml kr) k1p)))) hn4) (by omega) ((hR.kp (by exact Kq.kp (Kq.ml (Kq.ml (Kq.tp (Kq.ml kr) k1p))))).up (by omega)) _ _ (by omega) (fun n3 m3 h3 g3 k3=>?_))
 conv=>lhs;whnf
 refine H0 hO (by exact ka k3 asm) ?_
 conv=>lhs;whnf
 refine rcE hO (by kernel_rfl) rfl ?_
 conv=>lhs;whnf
 (refine HS (hG.kp (n:=n) (by exact Kq.kp (Kq.tp (Kq.ml (Kq.ml (Kq.tp (Kq.ml kr) k1p))) k3)) hn4) (by omega) hk hs he (tl:=.more) (p:=p) (by exact ka k3 (an (an f1))) (by omega) rfl hpl _ _ (by omega) (fun v4 n4 m4 h4 g4 k4 q4=>?_);have k4p:=Kq.kp k4;obtain ⟨b4,rfl,d4,e4,f4⟩:=q4)
 conv=>lhs;whnf
 (refine HT (D:=sgB k s e p) (hG.kp (n:=n) (by exact Kq.kp (Kq.tp (Kq.tp (Kq.ml (Kq.ml (Kq.tp (Kq.ml kr) k1p))) k3) k4p)) hn4) (by omega) h32 (Sl.own f4 e4 (Nat.le_refl _)) (by omega) _ _ (by omega) (fun n5 m5 h5 g5 k5=>?_))
 conv=>lhs;whnf
 refine neF hO (by omega) ?_
 have A32:Am m5 n1 _:=ka k5 (ka k4p (ka k3 asm))
 conv=>lhs;whnf
 refine H0 hO A32 ?_
 have A33:Am m5 n _:=ka k5 (ka k4p (ka k3 (an (an (ka k1p asm)))))
 conv=>lhs;whnf
 refine ust hO ?_
 conv=>lhs;whnf
 refine Aq A33 ?_
 conv=>lhs;whnf
 refine fe ?_
 conv=>lhs;whnf
 refine fe ?_
 conv=>lhs;whnf
 refine fe ?_
 conv=>lhs;whnf
 refine fe ?_
 conv=>lhs;whnf
 refine fe ?_
 conv=>lhs;whnf
 refine fe ?_
 conv=>lhs;whnf
 refine fe ?_
 conv=>lhs;whnf
 refine fe ?_
 conv=>lhs;whnf
 refine fe ?_
 conv=>lhs;whnf
 refine fe ?_
 conv=>lhs;whnf
 refine fe ?_
 conv=>lhs;whnf
 refine fe ?_
 conv=>lhs;whnf
 refine fe ?_
 conv=>lhs;whnf
 refine fe ?_
 conv=>lhs;whnf
 refine pM_mp.trans ?_
 conv=>lhs;whnf
 refine Aq (by exact asm) ?_
 conv=>lhs;whnf
 refine fe ?_
 conv=>lhs;whnf
 refine fe ?_
 conv=>lhs;whnf
 refine fe ?_
 conv=>lhs;whnf
 refine fe ?_
 conv=>lhs;whnf
 refine fe ?_
 conv=>lhs;whnf
 refine fe ?_
 conv=>lhs;whnf
 refine fe ?_
 conv=>lhs;whnf
 exact hf _ _ _ (by omega) (by omega) (by exact Kq.ml (Kq.tp (Kq.tp (Kq.tp (Kq.ml (Kq.ml (Kq.tp (Kq.ml kr) k1p))) k3) k4p) k5)) ⟨b1,rfl,by omega,by omega,(by exact an (ka k5 (ka k4p (ka k3 (an (an f1))))))⟩
end Go.Proofs.YtfdfdagbeeeomaaDoor.V2.S
namespace Go.Proofs.YtfdfdagbeeeomaaDoor.V2.S
open Go
set_option maxRecDepth 100000
set_option maxHeartbeats 4000000
set_option linter.unusedVariables false
attribute [local irreducible] fN fO nM gM pM Phi.fn Phi.yl Phi.up mp bl At Bx Ce Ac C9 Dr
def ask0:FV:=.agg [.n .u32 1,.o .sl]
def ask0B:Bs:=Ak 1 ++ [UInt8.ofNat 0]
theorem Di:ask0B.length=5:=rfl
def MayA (H:HF):Prop:=∀ (n:Nat) (m:T FObj),Ret 1 H [ask0] n m (.b true)
theorem maya_s {O:Oz} (hO:O=zO) (Φ:Phi):MayA (p46 O Φ):=fun n m k P hn hf=>by
 conv=>lhs;whnf
 refine bxA hO (by omega) (by rfl) ?_
 conv=>lhs;whnf
 refine fa0 hO ?_
 conv=>lhs;whnf
 refine ldC hO (by exact asm) (by rfl) ?_
 conv=>lhs;whnf
 refine lvN hO ?_
 conv=>lhs;whnf
 ((refine lpU hO (by omega) ?_))
 conv=>lhs;whnf
 refine ltF hO (by omega) ?_
 conv=>lhs;whnf
 refine fa0 hO ?_
 conv=>lhs;whnf
 refine ldC hO (by exact asm) (by rfl) ?_
 conv=>lhs;whnf
 refine gtT hO (by omega) ?_
 conv=>lhs;whnf
 refine fa0 hO ?_
 conv=>lhs;whnf
 refine ldC hO (by exact asm) (by rfl) ?_
 conv=>lhs;whnf
 refine lvN hO ?_
 conv=>lhs;whnf
 refine leT hO (by omega) ?_
 conv=>lhs;whnf
 exact hf _ _ (by omega) (by omega) (by exact Kq.kp (Kq.ml kr))
def BytesA (H:HF):Prop:=∀ (n:Nat) (m:T FObj),4 ≤ n → Dc 20 [] H [ask0] n m (fun r n' m'=>∃ b,r=.tup [.sl b 0 5 5 false 1,.n .i64 0] ∧ n ≤ b ∧ b < n' ∧ Am m' b (.bs (Ac ask0B) 5 .more))
theorem bytesa_s {O:Oz} (hO:O=zO) (Φ:Phi) (HM:MayA (Phi.fn Φ 46)) (H4:LayX (Phi.fn Φ 39) .u32 4 4294967296 4 Ak) (HB:Ll (Phi.fn Φ 26)) (HD:It (Phi.fn Φ 27)):BytesA (p24 O Φ):=fun n m hn4 k P hn hf=>by
 conv=>lhs;whnf
 refine bxA hO (by omega) (by rfl) ?_
 conv=>lhs;whnf
 refine lnA hO (by exact asm) rfl rfl rfl ?_
 conv=>lhs;whnf
 refine HM _ _ _ _ (by omega) (fun n1 m1 h1 g1 k1=>?_)
 conv=>lhs;whnf
 refine alO hO (by omega) ?_
 conv=>lhs;whnf
 refine fa0 hO ?_
 conv=>lhs;whnf
 refine ldC hO (by exact an (ka k1 asm)) (by rfl) ?_
 conv=>lhs;whnf
 refine fa0 hO ?_
 conv=>lhs;whnf
 refine ldC hO (by exact an (ka k1 asm)) (by rfl) ?_
 conv=>lhs;whnf
 refine lvN hO ?_
 conv=>lhs;whnf
 refine cvB hO (by omega) ?_
 conv=>lhs;whnf
 ((refine bs1 hO (by omega) (by omega) ?_))
 conv=>lhs;whnf
 (refine H4 (a:=1) (bs:=[]) (WrA.new (by omega) (by exact an asm)) (by omega) (by decide) _ _ (by omega) (fun v2 n2 m2 h2 g2 k2 q2=>?_);obtain ⟨rfl,w2,x2⟩:=q2;have w2:=w2.to (List.nil_append _);have a2:=x2 (n1 + 1) _ (by omega) (by omega) (fun c e h=>by cases h) asm)
 conv=>lhs;whnf
 refine ldC hO (by exact x2 _ _ (by omega) (by omega) (fun c e h=>by cases h) (an (an (ka k1 asm)))) (by rfl) ?_
 conv=>lhs;whnf
 refine rcE hO (by kernel_rfl) rfl ?_
 conv=>lhs;whnf
 (refine HB (bs:=Ak 1) (x:=[UInt8.ofNat 0]) w2 (Sl.own (x:=[UInt8.ofNat 0]) a2 (by omega) (Nat.le_refl 1)) (fun h=>absurd h (List.cons_ne_nil _ _)) (by decide) _ _ (by omega) (fun v3 n3 m3 h3 g3 k3 q3=>?_);obtain ⟨rfl,w3⟩:=q3;have w3:WrA m3 n3 _ ask0B:=w3)
 conv=>lhs;whnf
 refine fa0 hO ?_
 have A17:Am m3 n _:=ka k3 (x2 _ _ (by omega) (by omega) (fun c e h=>by cases h) (an (an (ka k1 asm))))
 conv=>lhs;whnf
 refine ldC hO A17 (by rfl) ?_
 conv=>lhs;whnf
 refine lvN hO ?_
 conv=>lhs;whnf
 ((refine lpU hO (by omega) ?_))
 conv=>lhs;whnf
 refine ltF hO (by omega) ?_
 conv=>lhs;whnf
 (refine HD w3 (fun h=>by cases h) (by decide) _ _ (by omega) (fun v4 n4 m4 h4 g4 k4 q4=>?_);obtain ⟨b4,rfl,d4,e4,f4,w4⟩:=q4)
 conv=>lhs;whnf
 exact hf _ _ _ (by omega) (by omega) (by exact Kq.tp (Kq.tp (Kq.tp (Kq.ml (Kq.ml (Kq.tp (Kq.ml kr) k1))) k2) k3) k4) ⟨b4,rfl,by omega,by omega,f4⟩
def ParseA (H:HF):Prop:=∀ {n:Nat} {m:T FObj} {v:FV},4 ≤ n → Sl m n v ask0B → Dc 20 [] H [v] n m (fun r n' m'=>r=.tup [ask0,.n .i64 0])
theorem parsea_s {O:Oz} (hO:O=zO) (Φ:Phi) (HN:NewR (Phi.fn Φ 32)) (H4:FourR (Phi.fn Φ 42)) (HB:ByR (Phi.fn Φ 54)) (HE:ErrR (Phi.fn Φ 34)) (HL:M9 (Phi.fn Φ 43)) (HM:MayA (Phi.fn Φ 46)):ParseA (p35 O Φ):=fun {n m v} hn4 hv k P hn hf=>by
 have hne:ask0B ≠ []:=fun h=>by cases h
 conv=>lhs;whnf
 refine alO hO (by omega) ?_
 conv=>lhs;whnf
 (refine HN (x:=ask0B) ((hv.kp (by exact Kq.kp (Kq.ml kr))).up (by omega)) (fun h=>absurd h hne) (by decide) _ _ (by omega) (fun v1 n1 m1 h1 g1 k1 q1=>?_);obtain ⟨rb,rfl,c1,r1⟩:=q1;have k1p:=Kq.kp k1;have z1:=r1.1)
 conv=>lhs;whnf
 (refine H4 (a:=1) (y:=[UInt8.ofNat 0]) r1 (by omega) (by decide) _ _ (by omega) (fun v2 n2 m2 h2 g2 k2 q2=>?_);obtain ⟨rfl,r2⟩:=q2;have k2p:Kp n _ _:=Kq.low k2 (by omega) (fun x hx=>by rw [List.mem_singleton.1 hx];omega))
 conv=>lhs;whnf
 refine ubu hO ?_
 conv=>lhs;whnf
 refine alO hO (by omega) ?_
 conv=>lhs;whnf
 refine ust hO ?_
 conv=>lhs;whnf
 refine Aq (by exact asm) ?_
 conv=>lhs;whnf
 refine fe ?_
 conv=>lhs;whnf
 refine fe ?_
 conv=>lhs;whnf
 refine fe ?_
 conv=>lhs;whnf
 refine fe ?_
 conv=>lhs;whnf
 refine pM_mp.trans ?_
 conv=>lhs;whnf
 (refine HB (a:=0) (y:=[]) ((r2.kp (by exact Kq.kp (Kq.ml (Kq.ml kr)))).up (by omega)) (by omega) (by decide) _ _ (by omega) (fun v3 n3 m3 h3 g3 k3 q3=>?_);obtain ⟨rfl,r3⟩:=q3;have k3p:Kp n _ _:=Kq.low k3 (by omega) (fun x hx=>by rw [List.mem_singleton.1 hx];omega))
 conv=>lhs;whnf
 ((refine lpU hO (by omega) ?_))
 conv=>lhs;whnf
 refine ltF hO (by omega) ?_
 conv=>lhs;whnf
 refine HE r3 _ _ ?_
 conv=>lhs;whnf
 refine neF hO (by omega) ?_
 conv=>lhs;whnf
 (refine HL r3 _ _ ?_;rw [List.length_nil])
 conv=>lhs;whnf
 refine gtF hO (by omega) ?_
 conv=>lhs;whnf
 refine lnA hO (by exact Kq.a1 k3 asm) rfl rfl rfl ?_
 conv=>lhs;whnf
 refine HM _ _ _ _ (by omega) (fun n5 m5 h5 g5 k5=>?_)
 have A22:Am m5 n2 _:=ka k5 (Kq.a1 k3 asm)
 conv=>lhs;whnf
 refine lnA hO A22 rfl rfl rfl ?_
 have A23:Am m5 n _:=ka k5 (Kq.a1 k3 (an (an (Kq.a1 k2 (ka k1p asm)))))
 conv=>lhs;whnf
 refine ust hO ?_
 conv=>lhs;whnf
 refine Aq A23 ?_
 conv=>lhs;whnf
 refine fe ?_
 conv=>lhs;whnf
 refine fe ?_
 conv=>lhs;whnf
 refine fe ?_
 conv=>lhs;whnf
 refine fe ?_
 conv=>lhs;whnf
 refine pM_mp.trans ?_
 conv=>lhs;whnf
 refine Aq (by exact asm) ?_
 conv=>lhs;whnf
 refine fe ?_
 conv=>lhs;whnf
 refine fe ?_
 conv=>lhs;whnf
 exact hf _ _ _ (by omega) (by omega) (by exact Kq.ml (Kq.tp (Kq.tp (Kq.ml (Kq.ml (Kq.tp (Kq.tp (Kq.ml kr) k1p) k2p))) k3p) k5)) rfl
end Go.Proofs.YtfdfdagbeeeomaaDoor.V2.S
namespace Go.Proofs.YtfdfdagbeeeomaaDoor.V2.S
open Go
set_option maxRecDepth 100000
set_option maxHeartbeats 4000000
set_option linter.unusedVariables false
attribute [local irreducible] fN fO nM gM pM Phi.fn Phi.yl Phi.up mp bl At Bx Ce Ac C9 Dr
def span11:FV:=.ints .u32 [Int.ofNat 1,Int.ofNat 1]
def AboveA (H:HF):Prop:=∀ (n:Nat) (m:T FObj),Ret 2 H [ask0,.n .u32 0] n m span11
theorem abovea_s {O:Oz} (hO:O=zO) (Φ:Phi):AboveA (p71 O Φ):=fun n m k P hn hf=>by
 conv=>lhs;whnf
 refine bxA hO (by omega) (by rfl) ?_
 conv=>lhs;whnf
 refine alO hO (by omega) ?_
 conv=>lhs;whnf
 refine adU hO (by omega) ?_
 conv=>lhs;whnf
 refine fa0 hO ?_
 conv=>lhs;whnf
 refine ldC hO (by exact an asm) (by rfl) ?_
 conv=>lhs;whnf
 refine ubu hO ?_
 conv=>lhs;whnf
 refine fe ?_
 conv=>lhs;whnf
 refine fe ?_
 conv=>lhs;whnf
 refine ust hO ?_
 conv=>lhs;whnf
 refine Aq (by exact asm) ?_
 conv=>lhs;whnf
 refine (D6 _ _).trans ?_
 conv=>lhs;whnf
 refine pM_mp.trans ?_
 conv=>lhs;whnf
 refine Aq (by exact asm) ?_
 conv=>lhs;whnf
 refine fe ?_
 conv=>lhs;whnf
 refine fe ?_
 conv=>lhs;whnf
 exact hf _ _ (by omega) (by omega) (by exact Kq.kp (Kq.ml (Kq.ml (Kq.ml kr))))
def All1 (H:HF):Prop:=∀ {n y sb a b:Nat} {m:T FObj} {e:TypeId} {t:Tl},Am m sb (.ints .u32 [Int.ofNat a,Int.ofNat b] e t) → b ≤ a → Ms H [.y y,.p sb 0] n m (.tup [])
theorem all1_s {O:Oz} (hO:O=zO) (Φ:Phi):All1 (p93 O Φ):=fun {n y sb a b m e t} ha hb k P hf=>by
 conv=>lhs;whnf
 refine fa0 hO ?_
 conv=>lhs;whnf
 refine ldI hO ha (by rfl) ?_
 conv=>lhs;whnf
 ((refine lpU hO (by omega) ?_))
 conv=>lhs;whnf
 refine fa0 hO ?_
 conv=>lhs;whnf
 refine ldI hO ha (by rfl) ?_
 conv=>lhs;whnf
 refine ltF hO hb ?_
 conv=>lhs;whnf
 exact hf
def AllS (H:HF):Prop:=∀ {n:Nat} {m:T FObj},Dc 2 [] H [span11] n m (fun r n' m'=>∃ sb e t,r=.fn (.func 93) [] [.p sb 0] ∧ n ≤ sb ∧ sb < n' ∧ Am m' sb (.ints .u32 [Int.ofNat 1,Int.ofNat 1] e t))
theorem all_s {O:Oz} (hO:O=zO) (Φ:Phi):AllS (p83 O Φ):=fun {n m} k P hn hf=>by
 conv=>lhs;whnf
 refine ubx hO ?_
 conv=>lhs;whnf
 refine (D6 _ _).trans ?_
 conv=>lhs;whnf
 refine (Bg (by omega)).trans ?_
 conv=>lhs;whnf
 exact hf _ _ _ (by omega) (by omega) (by exact Kq.ml kr) ⟨n,_,_,rfl,by omega,by omega,(by exact asm)⟩
def Those1 (H:HF):Prop:=∀ {n y b1 b2 sb:Nat} {m:T FObj} {e1 e2:TypeId} {t1 t2:Tl},Am m b1 (.cells [.fn (.func 93) [] [.p sb 0]] e1 t1) → Am m sb (.ints .u32 [Int.ofNat 1,Int.ofNat 1] e2 t2) → b1 < n → sb < n → Ret 3 H [.y y,.p b1 0,.p b2 0] n m (.tup [])
theorem those1_s {O:Oz} (hO:O=zO) (Φ:Phi) (H:∀ y Y,All1 (Phi.fn (Phi.up Φ y Y) 93)):Those1 (p92 O Φ):=fun {n y b1 b2 sb m e1 e2 t1 t2} ha hs hb1 hsb k P hn hf=>by
 conv=>lhs;whnf
 refine ubx hO ?_
 conv=>lhs;whnf
 refine (Bg (by omega)).trans ?_
 conv=>lhs;whnf
 refine ldC hO (by exact an ha) (by rfl) ?_
 conv=>lhs;whnf
 refine (Bg (by omega)).trans ?_
 conv=>lhs;whnf
 ((refine H _ _ (sb:=sb) (a:=1) (b:=1) (by exact an (an hs)) (by omega) _ _ ?_))
 conv=>lhs;whnf
 exact hf _ _ (by omega) (by omega) (by exact Kq.kp (Kq.ml (Kq.ml kr)))
def MissS (H:HF):Prop:=∀ {n:Nat} {m:T FObj} {f:Fn} {fst cap:List FV},Dc 12 [] H [span11,.fn f fst cap] n m (fun r n' m'=>∃ b1 b2 sb e1 e2 t1 t2,r=.fn (.func 92) [] [.p b1 0,.p b2 0] ∧ b1 < n' ∧ sb < n' ∧ Am m' b1 (.cells [.fn (.func 93) [] [.p sb 0]] e1 t1) ∧ Am m' sb (.ints .u32 [Int.ofNat 1,Int.ofNat 1] e2 t2))
theorem miss_s {O:Oz} (hO:O=zO) (Φ Φ1:Phi) (HA:AllS (Phi.fn Φ 83)) (HT:Phi.fn Φ 82=p82 O Φ1):MissS (p72 O Φ):=fun {n m f fst cap} k P hn hf=>by
 conv=>lhs;whnf
 refine ubx hO ?_
 conv=>lhs;whnf
 refine (D6 _ _).trans ?_
 conv=>lhs;whnf
 refine (Bg (by omega)).trans ?_
 conv=>lhs;whnf
 refine ubx hO ?_
 conv=>lhs;whnf
 refine (Bg (by omega)).trans ?_
 conv=>lhs;whnf
 refine uln hO ?_
 conv=>lhs;whnf
 refine Aq (by exact an asm) ?_
 conv=>lhs;whnf
 refine fe ?_
 conv=>lhs;whnf
 refine fe ?_
 conv=>lhs;whnf
 (refine HA _ _ (by omega) (fun v1 n1 m1 h1 g1 k1 q1=>?_);have k1p:=Kq.kp k1;obtain ⟨sb,e,t,rfl,c1,c2,c3⟩:=q1)
 conv=>lhs;whnf
 rw [HT]
 conv=>lhs;whnf
 refine ubx hO ?_
 conv=>lhs;whnf
 refine (Bg (by omega)).trans ?_
 conv=>lhs;whnf
 refine ubx hO ?_
 conv=>lhs;whnf
 refine (Bg (by omega)).trans ?_
 conv=>lhs;whnf
 exact hf _ _ _ (by omega) (by omega) (by exact Kq.ml (Kq.ml (Kq.tp (Kq.ml (Kq.ml kr)) k1p))) ⟨_,_,sb,_,_,_,_,rfl,by omega,by omega,(by exact an asm),(by exact an (an c3))⟩
def FitsA (H:HF):Prop:=∀ (n:Nat) (m:T FObj),Ret 40 H [ask0,.n .u32 0] n m (.n .i64 0)
theorem fitsa_s {O:Oz} (hO:O=zO) (Φ:Phi) (HM:MayA (Phi.fn Φ 46)) (HA:AboveA (Phi.fn Φ 71)) (HI:MissS (Phi.fn Φ 72)) (HT:∀ y Y,Those1 (Phi.fn (Phi.up Φ y Y) 92)):FitsA (p56 O Φ):=fun n m k P hn hf=>by
 conv=>lhs;whnf
 refine bxA hO (by omega) (by rfl) ?_
 conv=>lhs;whnf
 refine alO hO (by omega) ?_
 conv=>lhs;whnf
 refine lnA hO (by exact an asm) rfl rfl rfl ?_
 conv=>lhs;whnf
 refine HM _ _ _ _ (by omega) (fun n1 m1 h1 g1 k1=>?_)
 conv=>lhs;whnf
 refine fa0 hO ?_
 conv=>lhs;whnf
 refine ldC hO (by exact ka k1 (an asm)) (by rfl) ?_
 conv=>lhs;whnf
 refine geF hO (by omega) ?_
 conv=>lhs;whnf
 refine lnA hO (by exact ka k1 (an asm)) rfl rfl rfl ?_
 conv=>lhs;whnf
 refine lnA hO (by exact ka k1 (an asm)) rfl rfl rfl ?_
 conv=>lhs;whnf
 refine HA _ _ _ _ (by omega) (fun n2 m2 h2 g2 k2=>?_)
 have A11:Am m2 n _:=ka k2 (ka k1 (an asm))
 conv=>lhs;whnf
 refine lnA hO A11 rfl rfl rfl ?_
 conv=>lhs;whnf
 refine rcE hO (by kernel_rfl) rfl ?_
 conv=>lhs;whnf
 (refine HI _ _ (by omega) (fun v3 n3 m3 h3 g3 k3 q3=>?_);have k3p:=Kq.kp k3;obtain ⟨b1,b2,sb,e1,e2,t1,t2,rfl,c1,c2,c3,c4⟩:=q3)
 conv=>lhs;whnf
 refine (Bg (by omega)).trans ?_
 conv=>lhs;whnf
 ((refine HT _ _ (by exact an c3) (by exact an c4) (by omega) (by omega) _ _ (by omega) (fun n5 m5 h5 g5 k5=>?_)))
 have A16:Am m5 (n + 1) _:=ka k5 (an (ka k3p (ka k2 (ka k1 asm))))
 conv=>lhs;whnf
 refine ust hO ?_
 conv=>lhs;whnf
 refine Aq A16 ?_
 conv=>lhs;whnf
 refine pM_mp.trans ?_
 conv=>lhs;whnf
 refine Aq (by exact asm) ?_
 conv=>lhs;whnf
 refine fe ?_
 conv=>lhs;whnf
 exact hf _ _ (by omega) (by omega) (by exact Kq.kp (Kq.ml (Kq.tp (Kq.ml (Kq.tp (Kq.tp (Kq.tp (Kq.ml (Kq.ml kr)) k1) k2) k3p)) k5)))
end Go.Proofs.YtfdfdagbeeeomaaDoor.V2.S
