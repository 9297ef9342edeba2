/- Part 5 of the proof: texts of the proof. -/
import Derived.Test.YtfdfdagbeeeomaaDoorQL4
import Derived.RangeFuncLeaves
import Derived.Sort.LoopGhostIn
namespace Go.Proofs.YtfdfdagbeeeomaaDoor.V2
open Go
noncomputable section
section
variable {P:Program} {Γ:Gam} {pu:FuncId → Bool} {G nt N:Nat} {ρ0:Ren} {σ0:AH} {W0:World}
def SoundAt (P:Program) (pu:FuncId → Bool) (G nt:Nat) (Y:List Yl) (c:Code):Prop:=∀ (c':ACode),A3 P G nt pu c=some c' → ∀ {N B:Nat} {ρ0:Ren} {σ0:AH} {W0:World} {ro:Option Nat} {Γ:Gam},GamOk P G Γ Y ∧ Jh Γ pu ∧ (ro ≠ none → Γ.up=fun _ _=>.no) → Start Y N B ρ0 σ0 W0 → ∀ (K:AK) (env:T AV) (σ:AH) (ρ:Ren) (W:World) (a:Act),
  avc std Γ G nt N c' K env σ → HR ρ σ W → ER G nt ρ env a → Stp N ρ0 σ0 W0 ρ σ W → Mks ρ W a.defers ∧ (∀ r,Gg r ∈ a.defers → B ≤ r) → c.wpIn (fen ro) 0 P (AQ G nt N B ρ0 σ0 W0 K) a W
theorem inv_block {id:Nat} {c:Code} {a:ACode} (h:A3 P G nt pu (.block id c)=some a):∃ c',A3 P G nt pu c=some c' ∧ a=.block id c':=by
 unfold A3 at h
 split at h
 ·cases h
 ·rename_i c' hc;cases h;exact ⟨c',hc,rfl⟩
theorem inv_loop {c:Code} {a:ACode} (h:A3 P G nt pu (.loop c)=some a):∃ c',A3 P G nt pu c=some c' ∧ a=.loop c':=by
 unfold A3 at h
 split at h
 ·cases h
 ·rename_i c' hc;cases h;exact ⟨c',hc,rfl⟩
theorem inv_seq {x y:Code} {a:ACode} (h:A3 P G nt pu (.seq x y)=some a):∃ x' y',A3 P G nt pu x=some x' ∧ A3 P G nt pu y=some y' ∧ a=Fp P G nt x y x' y':=by
 unfold A3 at h
 split at h
 ·cases h
 ·rename_i x' hx
  split at h
  ·cases h
  ·rename_i y' hy;cases h;exact ⟨x',y',hx,hy,rfl⟩
theorem Hl {x y:Code} {y':ACode} (h:Ga P G nt x=none ∨ ∀ it,Id P G nt it y=none):Jq P G nt x y y'=none:=by
 unfold Jq
 rcases h with h | h
 ·rw [h]
 ·split
  ·rfl
  ·rw [h]
theorem mkSeq_nb {x y:Code} {x' y':ACode} (h:Ga P G nt x=none):Fp P G nt x y x' y'=.seq x' y':=by
 unfold Fp
 rw [Hl (.inl h)]
 dsimp only
 split
 ·rw [Hl (.inl h)]
 ·rfl
theorem mkSeq_cases {x y:Code} {x' y':ACode}:Fp P G nt x y x' y'=.seq x' y' ∨ (∃ z,Jq P G nt x y y'=some z ∧ Fp P G nt x y x' y'=z) ∨ ∃ y1 y2 y1' y2' z,y=.seq y1 y2 ∧ y'=.seq y1' y2' ∧ Jq P G nt x y1 y1'=some z ∧ Fp P G nt x y x' y'=.seq z y2':=by
 unfold Fp
 split
 ·rename_i z hz;exact .inr (.inl ⟨z,hz,rfl⟩)
 ·split
  ·split
   ·rename_i hz;exact .inr (.inr ⟨_,_,_,_,_,rfl,rfl,hz,rfl⟩)
   ·exact .inl rfl
  ·exact .inl rfl
theorem Mx {it:Nat} {y:Code} {m:ML} {BODY:Code} (h:Id P G nt it y=some (m,BODY)):∃ id i1 ON n1 id1 i2 OE,y=.block id (.loop (.seq (.region i1 ON false) (.seq (.cond (.tmp n1) .skip (.exit id)) (.block id1 (.seq (.region i2 OE false) BODY))))):=by
 unfold Id at h
 split at h
 ·rename_i id i1 ON n1 id' id1 i2 OE BODY'
  generalize hid:Nat.beq id' id=bi at h
  cases bi with
  | false=>cases h
  | true =>
  obtain rfl:=Nat.eq_of_beq_eq_true hid
  dsimp only [cond_true] at h
  repeat' (first | (cases h;done) | (cases h;exact ⟨_,_,_,_,_,_,_,rfl⟩) | (split at h) | (generalize (_ && _)=cb at h;cases cb <;> dsimp only [cond_true,cond_false] at h))
 ·cases h
theorem Hk {x y:Code} {y' z:ACode} (h:Jq P G nt x y y'=some z):∃ pre xr it m BODY b,Ga P G nt x=some (pre,xr,it) ∧ Id P G nt it y=some (m,BODY) ∧ bodyOf y'=some b ∧ ((∃ q,delOf P G nt BODY=some q ∧ z=.mfor pre xr m .skip (some q)) ∨ z=.mfor pre xr m b none):=by
 unfold Jq at h
 split at h
 ·cases h
 ·rename_i pre xr it hx
  split at h
  ·cases h
  ·rename_i m BODY hy
   split at h
   ·cases h
   ·rename_i b hb
    split at h
    ·rename_i q hq;cases h;exact ⟨pre,xr,it,m,BODY,b,hx,hy,hb,.inl ⟨q,hq,rfl⟩⟩
    ·cases h;exact ⟨pre,xr,it,m,BODY,b,hx,hy,hb,.inr rfl⟩
theorem mkFor_block {x y:Code} {y' z:ACode} (h:Jq P G nt x y y'=some z):Ga P G nt y=none:=by
 obtain ⟨_,_,_,_,_,_,_,h2,_⟩:=Hk h
 obtain ⟨id,i1,ON,n1,id1,i2,OE,rfl⟩:=Mx h2
 rfl
theorem inv_seqb {y1 y2:Code} {y1' y2':ACode} (hn:Ga P G nt y1=none) (h:A3 P G nt pu (.seq y1 y2)=some (.seq y1' y2')):A3 P G nt pu y1=some y1' ∧ A3 P G nt pu y2=some y2':=by
 obtain ⟨a,b,h1,h2,h3⟩:=inv_seq h
 rw [mkSeq_nb hn] at h3
 cases h3
 exact ⟨h1,h2⟩
theorem body_comp {it:Nat} {y:Code} {y' b:ACode} {m:ML} {BODY:Code} (h:Id P G nt it y=some (m,BODY)) (hy:A3 P G nt pu y=some y') (hb:bodyOf y'=some b):A3 P G nt pu BODY=some b ∧ SizeOf.sizeOf BODY < SizeOf.sizeOf y:=by
 obtain ⟨id,i1,ON,n1,id1,i2,OE,rfl⟩:=Mx h
 refine ⟨?_,by simp only [Code.block.sizeOf_spec,Code.loop.sizeOf_spec,Code.seq.sizeOf_spec];omega⟩
 obtain ⟨c1,k1,rfl⟩:=inv_block hy
 obtain ⟨c2,k2,rfl⟩:=inv_loop k1
 obtain ⟨rN,c3,k3,k4,rfl⟩:=inv_seq k2
 obtain ⟨cc,c4,k5,k6,rfl⟩:=inv_seq k4
 obtain ⟨c5,k7,rfl⟩:=inv_block k6
 obtain ⟨rE,c6,k8,k9,rfl⟩:=inv_seq k7
 have e1:Fp P G nt (.cond (.tmp n1) .skip (.exit id)) (.block id1 (.seq (.region i2 OE false) BODY)) cc (.block id1 (Fp P G nt (.region i2 OE false) BODY rE c6))=.seq cc (.block id1 (Fp P G nt (.region i2 OE false) BODY rE c6)):=mkSeq_nb rfl
 rw [e1] at hb
 have e2:Fp P G nt (.region i1 ON false) (.seq (.cond (.tmp n1) .skip (.exit id)) (.block id1 (.seq (.region i2 OE false) BODY))) rN (.seq cc (.block id1 (Fp P G nt (.region i2 OE false) BODY rE c6)))=.seq rN (.seq cc (.block id1 (Fp P G nt (.region i2 OE false) BODY rE c6))):=by
  unfold Fp
  rw [Hl (.inr fun _=>rfl)]
  dsimp only
  rw [Hl (.inr fun _=>rfl)]
 rw [e2] at hb
 rcases mkSeq_cases (P:=P) (G:=G) (nt:=nt) (x:=.region i2 OE false) (y:=BODY) (x':=rE) (y':=c6) with e | ⟨z,hz,e⟩ | ⟨y1,y2,y1',y2',z,_,_,hz,e⟩
 ·rw [e] at hb
  have hre:∃ rows,rE=.reg rows:=by
   unfold A3 at k8
   split at k8
   ·cases k8
   ·cases k8;exact ⟨_,rfl⟩
  obtain ⟨rows,rfl⟩:=hre
  cases hb
  exact k9
 ·rw [e] at hb
  obtain ⟨_,_,_,_,_,_,_,_,_,h5⟩:=Hk hz
  rcases h5 with ⟨q,_,rfl⟩ | rfl <;> cases hb
 ·rw [e] at hb
  obtain ⟨_,_,_,_,_,_,_,_,_,h5⟩:=Hk hz
  rcases h5 with ⟨q,_,rfl⟩ | rfl <;> cases hb
theorem bdR_ok {Y:List Yl} {ro:Option Nat} {BODY:Code} {b:ACode} {fuel:Nat} (hΓ:GamOk P G Γ Y ∧ Jh Γ pu ∧ (ro ≠ none → Γ.up=fun _ _=>.no)) (hS:SoundAt P pu G nt Y BODY) (hb:A3 P G nt pu BODY=some b):Mt P G nt Y ro BODY (bdF std Γ fuel b none):=by
 intro bm cs i env σ o ho bi c r ck dm N B ρ0 ρ σ0 W0 W a st hl hr hY he hs hd
 have ho:(match run std Γ σ.next fuel b env σ with
  | .bad=>none
  | .ok e env' σ'=>some (e,env',σ',cs))=some o:=ho
 cases hrun:run std Γ σ.next fuel b env σ with
 | bad=>rw [hrun] at ho;cases ho
 | ok e env' σ' =>
  rw [hrun] at ho
  cases ho
  have hA:=hS b hb hΓ (N:=σ.next) (B:=B) (ρ0:=ρ) (σ0:=σ) (W0:=W) ⟨Nat.le_trans st.b hs.size,hY,fun y hy=>(hY y hy).lt,hr⟩ (fun e' env'' σ''=>e'=e.out ∧ env''=env' ∧ σ''=σ') env σ ρ W a (run_avc (nt:=nt) (G:=G) b _ _ _ e env' σ' hrun ⟨rfl,rfl,rfl⟩) hr he (Stp.refl (Nat.le_refl _)) hd
  refine wpIn_mono hA fun e' a' W' ⟨ρ',env2,σ2,⟨h1,h2,h3⟩,h4,h5,h6,h7,h8⟩=>?_
  subst h1 h2 h3
  exact ⟨rfl,ρ',hl.step (M:=0) hr h6,h4,hY.step (fun y hy=>(hY y hy).lt) h6,h5,hs.trans h6 hs.next,h7,h8⟩
theorem mfor_sound {Y:List Yl} {ro:Option Nat} {x y:Code} {y' z:ACode} {B:Nat} (hΓ:GamOk P G Γ Y ∧ Jh Γ pu ∧ (ro ≠ none → Γ.up=fun _ _=>.no)) (st:Start Y N B ρ0 σ0 W0) (hz:Jq P G nt x y y'=some z) (hy:A3 P G nt pu y=some y')
  (IH:∀ (BODY:Code) (b:ACode),SizeOf.sizeOf BODY < SizeOf.sizeOf y → A3 P G nt pu BODY=some b → SoundAt P pu G nt Y BODY) {K:AK} {env:T AV} {σ:AH} {ρ:Ren} {W:World} {a:Act} (h:avc std Γ G nt N z K env σ)
  (hr:HR ρ σ W) (hY:YInv Y ρ σ W) (he:ER G nt ρ env a) (hs:Stp N ρ0 σ0 W0 ρ σ W) (hd:MkB B ρ W a) {Q:Exit → Act → World → Prop}
  (hQ:∀ e env' σ' ρ' a' W',K e env' σ' → HR ρ' σ' W' → ER G nt ρ' env' a' → Stp N ρ0 σ0 W0 ρ' σ' W' → MkB B ρ' W' a' → Q e a' W') :
  x.wpIn (fen ro) 0 P (Exit.then (fun a' W'=>y.wpIn (fen ro) 0 P Q a' W') Q) a W:=by
 obtain ⟨pre,xr,it,m,BODY,b,h1,h2,h3,h4⟩:=Hk hz
 obtain ⟨hb,hsz⟩:=body_comp h2 hy h3
 have hfin:∀ {L:List (AX × T AV × AH)} {bd:Bd},Mt P G nt Y ro BODY bd → mfr std Γ pre xr m bd env σ=some L → (∀ o ∈ L,∃ env2 σ2,Lw G nt N o.2.1 o.2.2 env2 σ2 ∧ K o.1.out env2 σ2) → x.wpIn (fen ro) 0 P (Exit.then (fun a' W'=>y.wpIn (fen ro) 0 P Q a' W') Q) a W:=by
  intro L bd hB hL hK
  refine mfr_sound hΓ.1 st h1 h2 hB hL hr hY he hs hd fun o ho ρ' a' W' k1 k2 k3 k4=>?_
  obtain ⟨env2,σ2,w1,w2⟩:=hK o ho
  obtain ⟨ρ'',u1,u2,u3,u4,u5,u6⟩:=w1.use k3.next k1
  exact hQ _ env2 σ2 ρ'' a' W' w2 u1 (u2 a' k2) (k3.weak u3 u4 u5 u6) ⟨k4.1.weak u4,k4.2⟩
 rcases h4 with ⟨q,hq,rfl⟩ | rfl
 ·obtain ⟨fuel,L,hL,hK⟩:=h
  exact hfin (bdD_ok hΓ.1 hq) hL hK
 ·obtain ⟨fuel,L,hL,hK⟩:=h
  exact hfin (bdR_ok hΓ (IH BODY b hsz hb) hb) hL hK
theorem avc_sound {Y:List Yl} (hm:P.follows .mixedOrders=true):∀ (c:Code) (c':ACode),A3 P G nt pu c=some c' → ∀ {N B:Nat} {ρ0:Ren} {σ0:AH} {W0:World} {ro:Option Nat} {Γ:Gam},GamOk P G Γ Y ∧ Jh Γ pu ∧ (ro ≠ none → Γ.up=fun _ _=>.no) → Start Y N B ρ0 σ0 W0 → ∀ (K:AK) (env:T AV) (σ:AH) (ρ:Ren) (W:World) (a:Act),
  avc std Γ G nt N c' K env σ → HR ρ σ W → ER G nt ρ env a → Stp N ρ0 σ0 W0 ρ σ W → Mks ρ W a.defers ∧ (∀ r,Gg r ∈ a.defers → B ≤ r) → c.wpIn (fen ro) 0 P (AQ G nt N B ρ0 σ0 W0 K) a W:=by
 suffices hh:∀ n (c:Code),SizeOf.sizeOf c ≤ n → SoundAt P pu G nt Y c from fun c c' hc=>hh (SizeOf.sizeOf c) c (Nat.le_refl _) c' hc
 intro n
 induction n with
 | zero=>intro c hsz;cases c <;> simp at hsz
 | succ n IH =>
 intro c hsz
 cases c with
 | skip=>intro c' hc N B ρ0 σ0 W0 ro Γ hΓ st K env σ ρ W a h hr he hs hd;cases hc;exact wpIn_skip ⟨ρ,env,σ,h,hr,he,hs,hd⟩
 | ret=>intro c' hc N B ρ0 σ0 W0 ro Γ hΓ st K env σ ρ W a h hr he hs hd;cases hc;exact wpIn_ret ⟨ρ,env,σ,h,hr,he,hs,hd⟩
 | exit id=>intro c' hc N B ρ0 σ0 W0 ro Γ hΓ st K env σ ρ W a h hr he hs hd;cases hc;exact wpIn_exit ⟨ρ,env,σ,h,hr,he,hs,hd⟩
 | seq x y =>
  have ihx:=IH x (by simp only [Code.seq.sizeOf_spec] at hsz;omega)
  have ihy:=IH y (by simp only [Code.seq.sizeOf_spec] at hsz;omega)
  intro c' hc N B ρ0 σ0 W0 ro Γ hΓ st K env σ ρ W a h hr he hs hd
  unfold A3 at hc
  split at hc
  ·cases hc
  ·rename_i x' hx
   split at hc
   ·cases hc
   ·rename_i y' hy
    cases hc
    rcases mkSeq_cases (P:=P) (G:=G) (nt:=nt) (x:=x) (y:=y) (x':=x') (y':=y') with e | ⟨z,hz,e⟩ | ⟨y1,y2,y1',y2',z,e1,e2,hz,e⟩
    rotate_left
    ·-- a loop over a map,at the end
     rw [e] at h
     exact wpIn_seq (mfor_sound (ro:=ro) hΓ st hz hy (fun B b hs' hb=>IH B (by simp only [Code.seq.sizeOf_spec] at hsz;omega)) h hr (st.inv.step st.lt hs) he hs hd fun e' env' σ' ρ' a' W' k1 k2 k3 k4 k5=>⟨ρ',env',σ',k1,k2,k3,k4,k5.1,k5.2⟩)
    ·-- a loop over a map,and what is behind it
     subst e1 e2
     rw [e] at h
     obtain ⟨hy1,hy2⟩:=inv_seqb (mkFor_block hz) hy
     have ih2:=IH y2 (by simp only [Code.seq.sizeOf_spec] at hsz;omega)
     refine wpIn_seq (wpIn_mono (mfor_sound (ro:=ro) hΓ st hz hy1 (fun B b hs' hb=>IH B (by simp only [Code.seq.sizeOf_spec] at hsz;omega)) h hr (st.inv.step st.lt hs) he hs hd (Q:=Exit.then (fun a' W'=>y2.wpIn (fen ro) 0 P (AQ G nt N B ρ0 σ0 W0 K) a' W') (AQ G nt N B ρ0 σ0 W0 K)) fun e' env' σ' ρ' a' W' k1 k2 k3 k4 k5=>?_) fun e' a' W' hh=>?_)
     ·cases e' with
      | normal =>
       obtain ⟨env2,σ2,w1,w2⟩:=k1
       obtain ⟨ρ'',u1,u2,u3,u4,u5,u6⟩:=w1.use k4.next k2
       exact ih2 y2' hy2 hΓ st K env2 σ2 ρ'' W' a' w2 u1 (u2 a' k3) (k4.weak u3 u4 u5 u6) ⟨k5.1.weak u4,k5.2⟩
      | _=>exact ⟨ρ',env',σ',k1,k2,k3,k4,k5.1,k5.2⟩
     ·cases e' with
      | normal=>exact wpIn_seq hh
      | _=>exact hh
    rw [e] at h
    refine wpIn_seq (wpIn_mono (ihx x' hx hΓ st _ env σ ρ W a h hr he hs hd) fun e a' W' ⟨ρ',env',σ',h1,h2,h3,h4,h5⟩=>?_)
    cases e
    case normal =>
     obtain ⟨env2,σ2,w1,w2⟩:=h1
     obtain ⟨ρ'',k1,k2,k3,k4,k5,k6⟩:=w1.use h4.next h2
     exact ihy y' hy hΓ st K env2 σ2 ρ'' W' a' w2 k1 (k2 a' h3) (h4.weak k3 k4 k5 k6) ⟨h5.1.weak k4,h5.2⟩
    all_goals exact ⟨ρ',env',σ',h1,h2,h3,h4,h5⟩
 | cond t x y =>
  have ihx:=IH x (by simp only [Code.cond.sizeOf_spec] at hsz;omega)
  have ihy:=IH y (by simp only [Code.cond.sizeOf_spec] at hsz;omega)
  intro c' hc N B ρ0 σ0 W0 ro Γ hΓ st K env σ ρ W a h hr he hs hd
  unfold A3 at hc
  split at hc
  ·cases hc
  ·rename_i x' hx
   split at hc
   ·cases hc
   ·rename_i y' hy
    cases hc
    unfold avc at h
    have hv:=he.ev t
    cases hcv:evS env (rfS G t) <;> rw [hcv] at h hv <;> try exact h.elim
    rename_i b
    unfold VR at hv
    cases b
    ·exact wpIn_cond_false hv (ihy y' hy hΓ st K env σ ρ W a (h.2 rfl) hr he hs hd)
    ·exact wpIn_cond_true hv (ihx x' hx hΓ st K env σ ρ W a (h.1 rfl) hr he hs hd)
 | block id x =>
  have ih:=IH x (by simp only [Code.block.sizeOf_spec] at hsz;omega)
  intro c' hc N B ρ0 σ0 W0 ro Γ hΓ st K env σ ρ W a h hr he hs hd
  unfold A3 at hc
  split at hc
  ·cases hc
  ·rename_i x' hx
   cases hc
   refine wpIn_block (wpIn_mono (ih x' hx hΓ st _ env σ ρ W a h hr he hs hd) fun e a' W' ⟨ρ',env',σ',h1,h2,h3,h4,h5⟩=>?_)
   cases e
   case exit i =>
    simp only [AK.block] at h1
    simp only [Exit.inBlock]
    split
    ·rename_i hi;rw [if_pos hi] at h1;exact ⟨ρ',env',σ',h1,h2,h3,h4,h5⟩
    ·rename_i hi;rw [if_neg hi] at h1;exact ⟨ρ',env',σ',h1,h2,h3,h4,h5⟩
   all_goals exact ⟨ρ',env',σ',h1,h2,h3,h4,h5⟩
 | loop x =>
  have ih:=IH x (by simp only [Code.loop.sizeOf_spec] at hsz;omega)
  intro c' hc N B ρ0 σ0 W0 ro Γ hΓ st K env σ ρ W a h hr he hs hd
  unfold A3 at hc
  split at hc
  ·cases hc
  ·rename_i x' hx
   cases hc
   unfold avc at h
   obtain ⟨I,μ,⟨env1,σ1,hw,h0⟩,hround⟩:=h
   let J:Nat → Act → World → Prop:=fun n a W=>∃ ρ env σ,I env σ ∧ μ env σ=n ∧ HR ρ σ W ∧ ER G nt ρ env a ∧ Stp N ρ0 σ0 W0 ρ σ W ∧ Mks ρ W a.defers ∧ (∀ r,Gg r ∈ a.defers → B ≤ r)
   have hloop:∀ n,∀ a W,J n a W → (Code.loop x).wpIn (fen ro) 0 P (AQ G nt N B ρ0 σ0 W0 K) a W:=by
    intro n a W hJ
    refine wpIn_loop_ghost J n hJ (fun n a W hI=>?_)
    obtain ⟨ρ,env,σ,i1,i2,i3,i4,i5,i6⟩:=hI
    refine wpIn_mono (ih x' hx hΓ st _ env σ ρ W a (hround env σ i1) i3 i4 i5 i6) fun e a' W' ⟨ρ',env',σ',h1,h2,h3,h4,h5⟩=>?_
    cases e
    case normal =>
     obtain ⟨env2,σ2,w1,w2,w3⟩:=h1
     obtain ⟨ρ'',k1,k2,k3,k4,k5,k6⟩:=w1.use h4.next h2
     exact ⟨μ env2 σ2,by rw [← i2];exact w3,ρ'',env2,σ2,w2,rfl,k1,k2 a' h3,h4.weak k3 k4 k5 k6,h5.1.weak k4,h5.2⟩
    all_goals exact ⟨ρ',env',σ',h1,h2,h3,h4,h5⟩
   obtain ⟨ρ1,k1,k2,k3,k4,k5,k6⟩:=hw.use hs.next hr
   exact hloop _ a W ⟨ρ1,env1,σ1,h0,rfl,k1,k2 a he,hs.weak k3 k4 k5 k6,hd.1.weak k4,hd.2⟩
 | region id ops draw =>
  intro c' hc N B ρ0 σ0 W0 ro Γ hΓ st K env σ ρ W a h hr he hs hd
  cases draw with
  | false =>
   unfold A3 at hc
   split at hc
   ·cases hc
   ·rename_i rows hrows
    cases hc
    unfold avc at h
    refine wpIn_region ?_
    have hl:ops.size=ops.toList.length:=by simp
    rw [List.range_eq_range',hl]
    rcases h with h | ⟨L,hL,h⟩
    ·exact Er hΓ.1 ops.toList rows 0 hrows (fun j=>by simp) (st.inv.step st.lt hs) hr he h.1 fun ρ' a' W' h1 h2 h3 h4=>⟨ρ',_,_,h.2,h1,h2,hs.trans h3 hs.next,by rw [h4];exact hd.1.step h3,by rw [h4];exact hd.2⟩
    ·exact plainS_sound hΓ.1 ops.toList rows 0 hrows (fun j=>by simp) (st.inv.step st.lt hs) hr he hL fun p hp ρ' a' W' h1 h2 h3 h4=>⟨ρ',_,_,h p hp,h1,h2,hs.trans h3 hs.next,by rw [h4];exact hd.1.step h3,by rw [h4];exact hd.2⟩
  | true =>
   unfold A3 at hc
   split at hc
   ·cases hc;exact h.elim
   ·rename_i sts hst
    cases hc
    unfold compD at hst
    split at hst
    ·cases hst
    ·split at hst
     ·cases hst
     ·rename_i st' hst'
      generalize hBB:Lg ops.toList []=BB at hst hst'
      cases hck:(I7 ops BB [] && (Gq pu BB (Mw (rcsOf pu BB [] st')) [] st' && ((List.range ops.size).all (Js st') && Nat.ble ops.size 1000000))) <;> rw [hck] at hst
      ·cases hst
      ·cases hst
       simp only [Bool.and_eq_true,Nat.ble_eq] at hck
       unfold avc at h
       unfold evDr at h
       generalize hrc:rcsOf pu BB [] st'=rcs at h hck
       generalize hev:evD std Γ env st' (Mw rcs) st' .leaf σ=ev at h
       obtain ⟨ok,vals,σ'⟩:=ev
       simp only at h
       refine wpIn_region_any hm (drawn_any (W0:={ W with drawn:=W.drawn + 1 }) hΓ.1 ((st.inv.step st.lt hs).drew _) hΓ.2.1 hst' hck.2.1 hck.2.2.1 hck.2.2.2 hck.1 (hr.drew _) he (by rw [hev];exact h.1) fun ρ' a' W' h1 h2 h3 h4=>?_)
       rw [hev] at h1 h2 h3
       exact ⟨ρ',_,_,h.2,h1,h2,hs.trans h3.drew hs.next,by rw [h4];exact hd.1.step h3.drew,by rw [h4];exact hd.2⟩
 | rangeFunc f ps x y =>
  have ihx:=IH x (by simp only [Code.rangeFunc.sizeOf_spec] at hsz;omega)
  have ihy:=IH y (by simp only [Code.rangeFunc.sizeOf_spec] at hsz;omega)
  intro c' hc N B ρ0 σ0 W0 ro Γ hΓ st K env σ ρ W a h hr he hs hd
  unfold A3 at hc
  split at hc
  ·cases hc
  ·rename_i x' hx
   split at hc
   ·cases hc
   ·rename_i y' hy
    cases hps:(ps.toList.all fun p=>Nat.blt p nt) with
    | false=>rw [hps] at hc;cases hc;exact h.elim
    | true =>
    rw [hps] at hc
    cases hc
    have hv:=he.ev f
    unfold avc at h
    cases hcv:evS env (rfS G f) <;> rw [hcv] at h hv <;> try exact h.elim
    rename_i fn first cap
    cases fn <;> try exact h.elim
    rename_i g
    obtain ⟨hlt,fuel,hoK⟩:=h
    unfold VR at hv
    obtain ⟨us,vs,hv,hus,hvs⟩:=hv
    cases ro with
    | some c0 =>
     rw [hΓ.2.2 (by simp)] at hoK
     rcases hoK with ⟨hok,_⟩ | ⟨L,hok,_⟩ <;> cases hok
    | none =>
    have hltn:σ.next < 1000000:=by rwa [Nat.blt_eq] at hlt
    refine wpIn_rangeFunc fun fn _=>?_
    let lp:Loop:={ state:=.ready,pending:=none,fn,tmps:=a.tmps,params:=ps,assign:=x,body:=y,defers:=W.heap.size }
    let W1:World:=W.alloc (.deferred (some []))
    let W2:World:=W1.alloc (.loop lp)
    have hsz1:W1.heap.size=W.heap.size + 1:=by show (W.heap.push _).size=_;simp
    have hsz:W2.heap.size=W.heap.size + 2:=by show ((W.heap.push _).push _).size=_;simp
    have hl1:W2.heap[W.heap.size + 1]?=some (.loop lp):=by show ((W.heap.push _).push _)[_]?=_;rw [Array.getElem?_push,if_pos (by simp)]
    have hl0:W2.heap[W.heap.size]?=some (.deferred (some [])):=by show ((W.heap.push _).push _)[_]?=_;rw [Array.getElem?_push_lt (by simp)];simp
    have hold1:∀ c,c < W.heap.size → W1.heap[c]?=W.heap[c]?:=fun c hc=>by
     show (W.heap.push _)[c]?=_
     rw [Array.getElem?_push_lt hc,Array.getElem?_eq_getElem hc]
    have hrW1:HR ρ σ W1:=hr.keepW (by omega) hold1
    have hsW1:Stp σ.next ρ σ W ρ σ W1:=⟨fun _ _=>rfl,fun b c d hb=>.inl ⟨b,d,hb⟩,Nat.le_refl _,fun _ _ _ _ ho _=>ho,fun c hc _=>hold1 c hc,rfl,rfl,rfl,by omega,fun b c d o _ _ hc ho _=>⟨ho,hold1 c hc⟩⟩
    obtain ⟨ρ1,n1,n2,n3,n4⟩:=hrW1.new (o:=AObj.shut) (x:=.loop lp) (s:=0) hlt (OR.shut (Nat.le_refl _))
    rw [hsz1] at n1
    have n3:HR ρ1 (σ.new AObj.shut) W2:=n3
    have hs1:Stp σ.next ρ σ W ρ1 (σ.new AObj.shut) W2:=hsW1.trans n4 (Nat.le_refl _)
    let z:Yl:=⟨σ.next,W.heap.size + 1,lp,ρ⟩
    have hY:YInv Y ρ σ W:=st.inv.step st.lt hs
    have hYc:∀ y ∈ Y,y.c < W.heap.size:=fun y hy=>(Array.getElem?_eq_some_iff.1 (hY y hy).rec_).1
    have hYz:YInv (z :: Y) ρ1 (σ.new AObj.shut) W2:=fun y hy=>by
     rcases List.mem_cons.1 hy with rfl | hy
     ·exact ⟨Nat.lt_succ_self _,by rw [AH.get_new (by omega)];exact if_pos rfl,n1,hl1,fun b x hb=>⟨(hr.dom b x.1 x.2 hb).1,n2 _ _ hb⟩⟩
     ·exact hY.step (fun y hy=>(hY y hy).lt) hs1 y hy
    generalize hh:rnd (both std Γ.bare fuel x' y') env ps.toList=k at hoK
    have hΓb:GamOk P G Γ.bare Y ∧ Jh Γ.bare pu ∧ (some (W.heap.size + 1) ≠ none → Γ.bare.up=fun _ _=>.no):=⟨hΓ.1.bare,by have:=hΓ.2.1;unfold Jh at this ⊢;rw [Gam.bare_fn];exact this,fun _=>Γ.bare_up⟩
    have hYl:YlOk P G σ.next k (z :: Y):=by
     intro args σ' hok' ρ' W' vs' c' d' hY' hG' hr' hvs' hb'
     have hz':=hY' z List.mem_cons_self
     obtain ⟨rfl,rfl⟩:c'=W.heap.size + 1 ∧ d'=(0,0):=Prod.mk.inj (Option.some.inj (hb'.symm.trans hz'.at_))
     subst hh
     obtain ⟨hle,e2,s2,hrun,hrnd⟩:=rnd_ok hok'
     rw [hrnd]
     have hrec:W'.heap[W.heap.size + 1]?=some (.loop lp):=hz'.rec_
     have hcW:W.heap.size + 1 < W'.heap.size:=(Array.getElem?_eq_some_iff.1 hrec).1
     refine ⟨_,_,_,_,yield_run hrec (by show ps.toList.length=_;rw [hle,hvs'.length]),?_⟩
     refine roundIn_of_wpIn (F:=Fence.wide) trivial ?_
     rcases RR.next_ok (show (run std Γ.bare σ'.next fuel x' (Lj env ps.toList args) σ').next (run std Γ.bare σ'.next fuel y')=_ from hrun) with ⟨e1,s1,h1,h2⟩ | ⟨h1,_⟩
     ·have hst1:Start Y σ'.next W'.heap.size ρ' σ' W':=⟨Nat.le_refl _,fun y hy=>hY' y (List.mem_cons_of_mem _ hy),fun y hy=>(hY' y (List.mem_cons_of_mem _ hy)).lt,hr'⟩
      have her:=bindP_er (nt:=nt) ps.toList args vs' env a.tmps hle hps hvs' ⟨he.small,he.size,hG',fun t v ht=>(he.at_ t v ht).mono fun b x hb=>(hz'.sub b x hb).2⟩
      have hA:=ihx x' hx (N:=σ'.next) (B:=W'.heap.size) (ro:=some (W.heap.size + 1)) hΓb hst1 (fun e env' σ''=>e=.normal ∧ env'=e1 ∧ σ''=s1) _ σ' ρ' W' _ (run_avc (nt:=nt) (G:=G) x' _ _ _ .normal e1 s1 h1 ⟨rfl,rfl,rfl⟩) hr' her (Stp.refl (Nat.le_refl _)) ⟨trivial,fun r hr=>by cases hr⟩
      refine wpIn_mono hA fun e a1 W3 ⟨ρ2,env2,σ2,⟨q1,q2,q3⟩,p1,p2,p3,p4,p5⟩=>?_
      subst q1 q2 q3
      have hY2:=hY'.step (fun y hy=>(hY' y hy).lt) p3
      have hz2:=hY2 z List.mem_cons_self
      have hl2:W3.heap[W.heap.size + 1]?=some (.loop lp):=hz2.rec_
      have hcW3:W.heap.size + 1 < W3.heap.size:=(Array.getElem?_eq_some_iff.1 hl2).1
      have hsz3:=p3.size
      refine ⟨_,beginRound_run hl2 rfl,?_⟩
      have hst2:Start Y σ'.next W'.heap.size ρ2 σ2 (setB W3 (W.heap.size + 1) (.loop { lp with state:=.busy })) :=
       ⟨by rw [Ct];exact hsz3,YInv.turn (fun y hy=>hY2 y (List.mem_cons_of_mem _ hy)) (fun y hy=>by have:=hYc y hy;omega),hst1.lt,p1.turnL hl2⟩
      have hB:=ihy y' hy (N:=σ'.next) (B:=W'.heap.size) (ro:=some (W.heap.size + 1)) hΓb hst2 (fun e _ σ''=>e=.normal ∧ σ''=s2) env2 σ2 ρ2 _ a1 (run_avc (nt:=nt) (G:=G) y' _ _ _ .normal e2 s2 h2 ⟨rfl,rfl⟩) (p1.turnL hl2) p2 (Stp.refl p3.next)
       ⟨p4.setB fun r hr=>by have:=p5 r hr;omega,p5⟩
      refine wpIn_mono hB fun e a2 W4 ⟨ρ3,env3,σ3,⟨q1,q2⟩,r1,r2,r3,r4,r5⟩=>?_
      subst q1 q2
      have hl3:W4.heap[W.heap.size + 1]?=some (.loop { lp with state:=.busy }):=(r3.ro z.l (W.heap.size + 1) (0,0) _ hz'.lt hz2.at_ (by rw [Ct];exact hcW3) hz2.get rfl).2.trans (setB_self hcW3)
      exact ⟨.bool true,_,endRound_run hl3 rfl rfl,_,rfl,ρ3,r1.turnL hl3,Stp.round p3 r3 hcW hrec,by unfold VR;rfl⟩
     ·exact absurd rfl h1
    have hΓ':=hΓ.1.up z hYl
    have hG1:∀ g,g < G → ∃ s,ρ1 g=some (g,(0,s)):=fun g hg=>by obtain ⟨s,h'⟩:=he.glob g hg;exact ⟨s,n2 _ _ h'⟩
    have hargs:VRs ρ1 (first ++ (AV.yld σ.next :: cap)) (us ++ (Value.func (.yield (W.heap.size + 1)) #[] #[] :: vs)):=(hus.mono n2).append ⟨_,_,rfl,by unfold VR;exact ⟨_,_,n1,rfl⟩,hvs.mono n2⟩
    have hcalls : (∃ fd, P.funcs[g]? = some fd ∧ fd.body.isSome = true ∧ (fd.name == "runtime.NumGoroutine") = false) ∧ Calls P g (us ++ (Value.func (.yield (W.heap.size + 1)) #[] #[] :: vs)).toArray W2 fun e W' => ∃ v σ' ρ', e = .returned v ∧ K .normal env σ' ∧ HR ρ' σ' W' ∧ Stp (σ.next + 1) ρ1 (σ.new AObj.shut) W2 ρ' σ' W' := by
     rcases hoK with ⟨hok,hK⟩ | ⟨L,hok,hK⟩
     ·obtain ⟨h1,h2⟩:=hΓ'.fn _ _ _ hok
      exact ⟨h1,(h2 ρ1 W2 _ hYz hG1 n3 hargs).mono fun e W' ⟨v,ρ',he',k1,k2,k3⟩=>⟨v,_,ρ',he',hK,k1,k2⟩⟩
     ·obtain ⟨h1,h2⟩:=hΓ'.dm _ _ _ _ hok
      exact ⟨h1,(h2 ρ1 W2 _ hYz hG1 n3 hargs).mono fun e W' ⟨v,av,σ',ρ',he',hm',k1,k2,k3⟩=>⟨v,_,ρ',he',hK _ hm',k1,k2⟩⟩
    obtain ⟨⟨fd,hfd,hbody,hname⟩,hcall⟩:=hcalls
    obtain ⟨body,hbn⟩:=Option.isSome_iff_exists.1 hbody
    have hname' : ¬ fd.name = "runtime.NumGoroutine" := by simpa using hname
    refine ⟨W.heap.size + 1,[Gg W.heap.size],W2,{ target:=.fn (.func g) vs.toArray,args:=us.toArray ++ #[.func (.yield (W.heap.size + 1)) #[] #[]] },W2,g,(us ++ (Value.func (.yield (W.heap.size + 1)) #[] #[] :: vs)).toArray,W2,?_,?_,?_,?_,?_,?_⟩
    ·show (Instr.enterLoop fn a.tmps ps x y none).run P W=_
     simp [Instr.enterLoop,Gg,W2,W1,lp]
    ·have hc:a.eval (.const (.func (.yield (W.heap.size + 1)) #[] #[]))=.func (.yield (W.heap.size + 1)) #[] #[]:=rfl
     simp [resolve,hv,Deferred.ofValue,hc]
    ·exact fun _ _=>trivial
    ·simp [invoke,callFunc,hfd,hbn,hname']
    ·exact fun h=>by cases h
    ·refine callsIn_wide.2 (hcall.mono fun e W' ⟨v,σ',ρ',he',hK,k1,k2⟩=>?_)
     subst he'
     have hYe:=hYz.step (fun y hy=>(hYz y hy).lt) k2
     have hl:W'.heap[W.heap.size + 1]?=some (.loop lp):=(hYe z List.mem_cons_self).rec_
     have hun1:∀ b x,ρ1 b ≠ some (W.heap.size,x):=fun b x hb=>by
      rcases n4.img b _ x hb with ⟨b0,d0,h0⟩ | h0
      ·have:=(hr.dom b0 _ d0 h0).2.1;omega
      ·omega
     have hd0:W'.heap[W.heap.size]?=some (.deferred (some [])):=(k2.frame _ (by omega) fun b d=>hun1 b d).trans hl0
     have hun':∀ b x,ρ' b ≠ some (W.heap.size,x):=fun b x hb=>by
      rcases k2.img b _ x hb with ⟨b0,d0,h0⟩ | h0
      ·exact hun1 b0 d0 h0
      ·omega
     have hsize:=hs.size
     refine ⟨none,setB W' (W.heap.size + 1) (.loop { lp with state:=.exhausted }),?_,?_⟩
     ·simp [Instr.endLoop,Instr.getLoop,getObj,Sem.run_bind,Sem.run,hl,L2 hl,lp]
     ·have hsub:Sub ρ ρ':=fun b x hb=>k2.sub n3 b x (n2 b x hb)
      have he2:=he.sub hsub
      have hstp:Stp N ρ0 σ0 W0 ρ' _ (setB W' (W.heap.size + 1) (.loop { lp with state:=.exhausted })):=((hs.trans hs1 hs.next).trans k2 (Nat.le_trans hs.next (Nat.le_succ _))).setB (by omega)
      have hm2:Mks ρ' W' a.defers:=(hd.1.step hs1).step k2
      refine ⟨ρ',env,_,hK,k1.turnL hl,⟨he2.small,he2.size,he2.glob,he2.at_⟩,hstp,⟨W.heap.size,rfl,by rw [B1 (by omega)];exact hd0,hun',fun r' hr'=>by have:=hd.1.lt r' hr';omega,hm2.setB fun r hr=>by have:=hd.1.lt r hr;omega⟩,fun r hr'=>?_⟩
      rcases List.mem_cons.1 hr' with h | h
      ·have:r=W.heap.size:=by simpa [Gg] using h
       have:=st.b
       omega
      ·exact hd.2 r h
 | _=>intro c' hc;cases hc;intro N B ρ0 σ0 W0 ro Γ hΓ st K env σ ρ W a h;exact h.elim
end
end
end Go.Proofs.YtfdfdagbeeeomaaDoor.V2
namespace Go.Proofs.YtfdfdagbeeeomaaDoor.V2
open Go
noncomputable section
inductive ARes where
 | tmp (t:Nat)
 | cell1 (a:Nat)
 | cellN (a n:Nat)
def compR1 (P:Program):ResultVar → Option ARes
 | .tmp t=>some (.tmp t)
 | .cell a t=>match P.underlying t with
  | some d=>match Bp d with
   | true=>match P.info? t with
    | some i=>some (.cellN a i.size)
    | none=>none
   | false=>some (.cell1 a)
  | none=>none
def Ik (P:Program):List ResultVar → Option (List ARes)
 | []=>some []
 | r :: l=>match compR1 P r with
  | none=>none
  | some x=>match Ik P l with
   | none=>none
   | some xs=>some (x :: xs)
def resV (A:Ar) (env:T AV) (σ:AH):ARes → Bool × AV
 | .tmp t=>(true,evS env (.slot t))
 | .cell1 a=>match C6 A (evS env (.slot a)) σ with
  | (ok,v,_)=>(ok,v)
 | .cellN a n=>match C5 A n (evS env (.slot a)) σ with
  | (ok,v,_)=>(ok,v)
def K1 (A:Ar) (env:T AV) (σ:AH):List ARes → Bool × List AV
 | []=>(true,[])
 | r :: l=>match resV A env σ r with
  | (ok,v)=>match K1 A env σ l with
   | (ok',vs)=>(ok && ok',v :: vs)
def retV:List AV → AV
 | [x]=>x
 | l=>.tup l
def Mz:List AV → Nat → T AV → T AV
 | [],_,t=>t
 | a :: l,i,t=>Mz l (i + 1) (t.put i a)
def resF (tmps:Array Value) (r:ResultVar):Sem Value:=match r with
 | .tmp t=>pure (tmps.getD t undef)
 | .cell a t=>do loadVar t (← asAddr (tmps.getD a undef))
theorem results_eq (fn:Func) (tmps:Array Value):results fn tmps=(do let vs ← fn.results.mapM (resF tmps);pure (if h:vs.size=1 then vs[0] else .tuple vs)):=rfl
section
variable {P:Program} {W:World} {ρ:Ren} {σ:AH} {G nt:Nat}
theorem resV_run (hr:HR ρ σ W) {env:T AV} {a:Act} (he:ER G nt ρ env a) {r:ResultVar} {x:ARes} (hc:compR1 P r=some x) (hok:(resV std env σ x).1=true) :
  ∃ v,(resF a.tmps r).run P W=.ok v W ∧ VR ρ (resV std env σ x).2 v:=by
 cases r with
 | tmp t =>
  cases hc
  exact ⟨_,rfl,he.ev (.tmp t)⟩
 | cell b t =>
  have hv:=he.ev (.tmp b)
  simp only [rfS,Act.eval] at hv
  simp only [compR1] at hc
  split at hc
  ·rename_i d hu
   split at hc
   ·rename_i hd
    split at hc
    ·rename_i i hi
     cases hc
     simp only [resV] at hok ⊢
     have h:=loadN_run (P:=P) (W:=W) (ax:=evS env (.slot b)) hr hu hd hi hv
     generalize C5 std i.size (evS env (.slot b)) σ=out at h hok ⊢
     obtain ⟨ok,v,σ'⟩:=out
     obtain ⟨_,c,o,u,e1,e2,e3⟩:=h hok
     refine ⟨u,?_,e3⟩
     simp only [resF,e1,asAddr,Sem.run_bind,Sem.run_pure,Result.andThen_ok,e2]
    ·cases hc
   ·rename_i hd
    cases hc
    simp only [resV] at hok ⊢
    have h:=load1_run (P:=P) (W:=W) (ax:=evS env (.slot b)) hr hu hd hv
    generalize C6 std (evS env (.slot b)) σ=out at h hok ⊢
    obtain ⟨ok,v,σ'⟩:=out
    obtain ⟨_,c,o,u,e1,e2,e3⟩:=h hok
    refine ⟨u,?_,e3⟩
    simp only [resF,e1,asAddr,Sem.run_bind,Sem.run_pure,Result.andThen_ok,e2]
  ·cases hc
theorem resL_run (hr:HR ρ σ W) {env:T AV} {a:Act} (he:ER G nt ρ env a):∀ (rs:List ResultVar) (xs:List ARes),Ik P rs=some xs → (K1 std env σ xs).1=true →
  ∃ vs,(rs.mapM (resF a.tmps)).run P W=.ok vs W ∧ VRs ρ (K1 std env σ xs).2 vs
 | [],xs,hc,_=>by cases hc;exact ⟨[],rfl,rfl⟩
 | r :: rs,xs,hc,hok=>by
  unfold Ik at hc
  split at hc
  ·cases hc
  ·rename_i x hx
   split at hc
   ·cases hc
   ·rename_i xs' hxs
    cases hc
    unfold K1 at hok ⊢
    have h1:=resV_run (P:=P) hr he hx
    have h2:=resL_run hr he rs xs' hxs
    generalize resV std env σ x=o1 at hok h1 ⊢
    obtain ⟨k1,v1⟩:=o1
    generalize K1 std env σ xs'=o2 at hok h2 ⊢
    obtain ⟨k2,v2⟩:=o2
    simp only [Bool.and_eq_true] at hok
    obtain ⟨v,e1,e2⟩:=h1 hok.1
    obtain ⟨vs,e3,e4⟩:=h2 hok.2
    refine ⟨v :: vs,?_,v,vs,rfl,e2,e4⟩
    rw [List.mapM_cons,Sem.run_bind,e1,Result.andThen_ok,Sem.run_bind,e3];rfl
theorem results_run (hr:HR ρ σ W) {env:T AV} {a:Act} (he:ER G nt ρ env a) {fn:Func} {xs:List ARes} (hc:Ik P fn.results.toList=some xs) (hok:(K1 std env σ xs).1=true) :
  ∃ v,(results fn a.tmps).run P W=.ok v W ∧ VR ρ (retV (K1 std env σ xs).2) v:=by
 obtain ⟨vs,h1,h2⟩:=resL_run (P:=P) hr he _ _ hc hok
 rw [results_eq,Array.mapM_eq_mapM_toList,Sem.run_bind,Sem.run_map,h1]
 simp only [Result.andThen_ok]
 generalize (K1 std env σ xs).2=l at h2
 match l,vs,h2 with
 | [],_,e=>cases e;exact ⟨_,rfl,by show VR ρ (.tup []) _;unfold VR;exact ⟨[],rfl,rfl⟩⟩
 | [x],_,⟨v,m,e1,e2,e3⟩ =>
  cases e3;cases e1
  exact ⟨v,rfl,e2⟩
 | x :: y :: l,vs,h2 =>
  have hl:=h2.length
  refine ⟨.tuple vs.toArray,?_,?_⟩
  ·rw [dif_neg (by simp at hl ⊢;omega)];rfl
  ·show VR ρ (.tup (x :: y :: l)) _
   unfold VR;exact ⟨vs,rfl,h2⟩
theorem envOf_get:∀ (l:List AV) (i:Nat) (t:T AV) (m:Nat),i + l.length ≤ 1048576 → (Mz l i t).get m=if i ≤ m ∧ m < i + l.length then l[m - i]? else t.get m
 | [],i,t,m,_=>by rw [if_neg (by intro h;simp at h;omega)];rfl
 | a :: l,i,t,m,h=>by
  simp only [List.length_cons] at h
  show (Mz l (i + 1) (t.put i a)).get m=_
  rw [envOf_get l (i + 1) _ m (by omega),T.get_put _ _ _ _ (by omega)]
  by_cases h1:i + 1 ≤ m ∧ m < i + 1 + l.length
  ·rw [if_pos h1,if_pos (by simp;omega),show m - i=(m - (i + 1)) + 1 by omega,List.getElem?_cons_succ]
  ·rw [if_neg h1]
   by_cases hm:m=i
   ·subst hm;rw [if_pos rfl,if_pos (by simp)];simp
   ·rw [if_neg hm,if_neg (by simp;omega)]
theorem K6 {N:Nat} {ρ0:Ren} {σ0:AH} {W0:World} {fn:Func} {tmps:Array Value} {R:Ending → World → Prop} (hR:∀ W',HR ρ σ W' → Stp N ρ0 σ0 W0 ρ σ W' → ∃ v,(results fn tmps).run P W'=.ok v W' ∧ R (.returned v) W'):∀ (ds:List Deferred) (W:World),Mks ρ W ds → (∀ r,Gg r ∈ ds → W0.heap.size ≤ r) → HR ρ σ W → Stp N ρ0 σ0 W0 ρ σ W → LeavesInM Fence.wide 0 P fn tmps R ds .returning W
 | [],W,_,_,h1,h2=>hR W h1 h2
 | _ :: ds,W,⟨r,e,k1,k2,k3,k4⟩,hb,h1,h2=>by
  subst e
  refine ⟨(fun h=>by cases h),.inl ⟨r,setB W r (.deferred none),rfl,?_,K6 hR ds _ (k4.setB k3) (fun r' hr=>hb r' (List.mem_cons_of_mem _ hr)) (h1.setB k2) (h2.setB (hb r List.mem_cons_self))⟩⟩
  simp [Instr.takeDeferred,getObj,Sem.run_bind,Sem.run,k1,setB_deferred k1]
theorem call_sound {Γ:Gam} {pu:FuncId → Bool} {Y:List Yl} (hm:P.follows .mixedOrders=true) (hΓ:GamOk P G Γ Y) (hpu:Jh Γ pu) {f:FuncId} {fn:Func} {c:Code} {c':ACode} {xs:List ARes} (hf:P.funcs[f]?=some fn) (hb:fn.body=some c)
  (hc:A3 P G fn.ntmps pu c=some c') (hres:Ik P fn.results.toList=some xs) (hnt:Nat.ble fn.ntmps 1048576=true) {args:List AV} (hargs:Nat.ble args.length fn.ntmps=true) {K:AV → AH → Prop}
  (h:avc std Γ G fn.ntmps σ.next c' (fun e env σ'=>(match e with | .normal=>True | .ret=>True | _=>False) ∧ (K1 std env σ' xs).1=true ∧ K (retV (K1 std env σ' xs).2) σ') (Mz args 0 .leaf) σ)
  {vs:List Value} (hY:YInv Y ρ σ W) (hG:∀ g,g < G → ∃ s,ρ g=some (g,(0,s))) (hr:HR ρ σ W) (hvs:VRs ρ args vs) :
  Calls P f vs.toArray W fun e W'=>∃ v av σ' ρ',e=.returned v ∧ K av σ' ∧ HR ρ' σ' W' ∧ Stp σ.next ρ σ W ρ' σ' W' ∧ VR ρ' av v:=by
 rw [Nat.ble_eq] at hnt hargs
 have hl:=hvs.length
 refine callsIn_wide.1 (callsIn_of_wp_marks (n:=0) hf hb trivial (wpIn_mono (F:=fen none) (avc_sound hm c c' hc ⟨hΓ,hpu,fun h=>absurd rfl h⟩ ⟨Nat.le_refl _,hY,fun y hy=>(hY y hy).lt,hr⟩ _ _ _ ρ W _ h hr ⟨hnt,?_,hG,fun t v ht=>?_⟩ (Stp.refl (Nat.le_refl _)) ⟨trivial,fun r hr=>by cases hr⟩) fun e a W' ⟨ρ',env',σ',⟨h1,h2,h3⟩,h4,h5,h6,h7,h8⟩=>?_))
 ·simp;omega
 ·rw [envOf_get _ _ _ _ (by omega)] at ht
  simp only [Nat.zero_le,true_and,Nat.zero_add,Nat.sub_zero,T.get_leaf] at ht
  split at ht
  ·rename_i hlt
   obtain ⟨u,hu,hr'⟩:=hvs.at t v ht
   have:(vs.toArray ++ Array.replicate (fn.ntmps - vs.toArray.size) undef).getD t undef=u:=by
    rw [Array.getD_eq_getD_getElem?,Array.getElem?_append_left (by simp;omega)]
    simp [hu]
   rw [this];exact hr'
  ·cases ht
 ·have key:=K6 (P:=P) (R:=fun e W'=>∃ v av σ' ρ',e=.returned v ∧ K av σ' ∧ HR ρ' σ' W' ∧ Stp σ.next ρ σ W ρ' σ' W' ∧ VR ρ' av v) (fn:=fn) (tmps:=a.tmps) (fun W2 k1 k2=>by
   obtain ⟨v,e1,e2⟩:=results_run (P:=P) k1 h5 hres h2
   exact ⟨v,e1,v,_,σ',ρ',rfl,h3,k1,k2,e2⟩) a.defers W' h7 h8 h4 h6
  cases e
  case normal=>exact key
  case ret=>exact key
  all_goals exact h1.elim
end
end
end Go.Proofs.YtfdfdagbeeeomaaDoor.V2
namespace Go.Proofs.YtfdfdagbeeeomaaDoor.V2
open Go
noncomputable section
structure Ent where
 nt:Nat
 code:ACode
 res:List ARes
def isRet:AX → Bool
 | .exit _=>false
 | _=>true
def Kw (A:Ar) (Γ:Gam) (fuel:Nat) (x:Ent) (args:List AV) (σ:AH):Out :=
 match run A Γ σ.next fuel x.code (Mz args 0 .leaf) σ with
 | .bad=>bad σ
 | .ok e env σ'=>match K1 A env σ' x.res with
  | (ok,vs)=>(ok && isRet e && Nat.ble args.length x.nt,retV vs,σ')
def Gam.ext (Γ0:Gam) (l:Nat) (h:List AV → AH → Out):Gam:=.mk Γ0.fn (fun b args σ=>bif Nat.beq b l then h args σ else Γ0.yl b args σ) (fun _ _=>.no) fun _ _ _=>none
structure Sp where
 is:FuncId → Bool
 fn:Gam → FuncId → List AV → AH → Out
 dm:Gam → FuncId → List AV → AH → Option (List (AV × AH))
def Gam.grow (A:Ar) (fuel:Nat) (tab:T Ent) (S:Sp) (Γ0:Gam) (n:Nat):Gam :=
 Nat.rec (motive:=fun _=>Gam → Gam) (fun Γ0=>Γ0) (fun _ ih Γ0=>.mk (fun f args σ=>match tab.get f with
  | none=>bif S.is f then S.fn (ih Γ0) f args σ else Γ0.fn f args σ
  | some x=>Kw A (ih Γ0) fuel x args σ) Γ0.yl (fun l h=>ih (Γ0.ext l h)) fun f args σ=>S.dm (ih Γ0) f args σ) n Γ0
structure Sp.Ok (P:Program) (G:Nat) (pu:FuncId → Bool) (S:Sp):Prop where
 fn:∀ Γ Y,GamOk P G Γ Y → Jh Γ pu → FnOk P G (S.fn Γ) Y
 dm:∀ Γ Y,GamOk P G Γ Y → Jh Γ pu → DmOk P G (S.dm Γ) Y
 pu:∀ f,pu f=true → S.is f=false
def Sp.none:Sp:=⟨fun _=>false,fun _ _ _ σ=>bad σ,fun _ _ _ _=>.none⟩
theorem Sp.none_ok {P:Program} {G:Nat} {pu:FuncId → Bool}:Sp.none.Ok P G pu:=⟨fun _ _ _ _=>(fun f args σ h=>by cases h),fun _ _ _ _=>DmOk.none_,fun _ _=>rfl⟩
def TabOk (P : Program) (G : Nat) (pu : FuncId → Bool) (tab : T Ent) : Prop := ∀ f x, tab.get f = some x → ∃ fn c, P.funcs[f]? = some fn ∧ fn.body = some c ∧ (fn.name == "runtime.NumGoroutine") = false ∧ fn.ntmps = x.nt ∧ A3 P G fn.ntmps pu c = some x.code ∧ Ik P fn.results.toList = some x.res ∧ Nat.ble fn.ntmps 1048576 = true
theorem FnOk.weak {P:Program} {G:Nat} {f:FuncId → List AV → AH → Out} {Y:List Yl} {z:Yl} (h:FnOk P G f Y):FnOk P G f (z :: Y):=fun g args σ hok =>
 ⟨(h g args σ hok).1,fun ρ W vs hY=>(h g args σ hok).2 ρ W vs fun y hy=>hY y (List.mem_cons_of_mem _ hy)⟩
theorem YlOk.weak {P:Program} {G l:Nat} {h:List AV → AH → Out} {Y:List Yl} {z:Yl} (hk:YlOk P G l h Y):YlOk P G l h (z :: Y):=fun args σ hok ρ W vs c d hY=>hk args σ hok ρ W vs c d fun y hy=>hY y (List.mem_cons_of_mem _ hy)
theorem GamOk.ext {P:Program} {G:Nat} {Γ0:Gam} {Y:List Yl} {z:Yl} {h:List AV → AH → Out} (h0:GamOk P G Γ0 Y) (hk:YlOk P G z.l h (z :: Y)):GamOk P G (Γ0.ext z.l h) (z :: Y):=by
 refine .mk h0.fn.weak (fun l=>?_) (fun _ _ _=>.no) .none_
 cases hb:Nat.beq l z.l with
 | true =>
  have hl:=Nat.eq_of_beq_eq_true hb
  have e:(fun args σ=>bif Nat.beq l z.l then h args σ else Γ0.yl l args σ)=h:=by rw [hb];rfl
  rw [← hb,e,hl];exact hk
 | false =>
  have e:(fun args σ=>bif Nat.beq l z.l then h args σ else Γ0.yl l args σ)=Γ0.yl l:=by rw [hb];rfl
  rw [← hb,e];exact (h0.yl l).weak
theorem grow_ok {P:Program} {G fuel:Nat} {pu:FuncId → Bool} {tab:T Ent} {S:Sp} (hm:P.follows .mixedOrders=true) (ht:TabOk P G pu tab) (hS:S.Ok P G pu) (hpt:∀ f,pu f=true → tab.get f=none) (n:Nat) :
  ∀ {Γ0:Gam} {Y:List Yl},GamOk P G Γ0 Y → Jh Γ0 pu → GamOk P G (Gam.grow std fuel tab S Γ0 n) Y ∧ Jh (Gam.grow std fuel tab S Γ0 n) pu:=by
 induction n with
 | zero=>intro Γ0 Y h0 hpu;exact ⟨h0,hpu⟩
 | succ n ih =>
  intro Γ0 Y h0 hpu
  refine ⟨.mk ?_ h0.yl (fun z h hk=>(ih (h0.ext hk) hpu).1) (hS.dm _ _ (ih h0 hpu).1 (ih h0 hpu).2),fun f hf args σ σ'=>?_⟩
  ·intro f args σ hok
   have ih:=ih h0 hpu
   have ih1:GamOk P G (Gam.grow std fuel tab S Γ0 n) Y:=ih.1
   have ih2:Jh (Gam.grow std fuel tab S Γ0 n) pu:=ih.2
   change ((match tab.get f with | none=>bif S.is f then S.fn (Gam.grow std fuel tab S Γ0 n) f args σ else Γ0.fn f args σ | some x=>Kw std (Gam.grow std fuel tab S Γ0 n) fuel x args σ):Out).1=true at hok
   show _ ∧ ∀ ρ W vs,YInv Y ρ σ W → _ → HR ρ σ W → VRs ρ args vs → Calls P f vs.toArray W fun e W'=>∃ v ρ',e=.returned v ∧ HR ρ' ((match tab.get f with | none=>bif S.is f then S.fn (Gam.grow std fuel tab S Γ0 n) f args σ else Γ0.fn f args σ | some x=>Kw std (Gam.grow std fuel tab S Γ0 n) fuel x args σ):Out).2.2 W' ∧ Stp σ.next ρ σ W ρ' ((match tab.get f with | none=>bif S.is f then S.fn (Gam.grow std fuel tab S Γ0 n) f args σ else Γ0.fn f args σ | some x=>Kw std (Gam.grow std fuel tab S Γ0 n) fuel x args σ):Out).2.2 W' ∧ VR ρ' ((match tab.get f with | none=>bif S.is f then S.fn (Gam.grow std fuel tab S Γ0 n) f args σ else Γ0.fn f args σ | some x=>Kw std (Gam.grow std fuel tab S Γ0 n) fuel x args σ):Out).2.1 v
   cases hx:tab.get f with
   | none =>
    rw [hx] at hok
    dsimp only at hok ⊢
    cases hs:S.is f with
    | false=>rw [hs] at hok;exact h0.fn f args σ hok
    | true=>rw [hs] at hok;exact hS.fn _ _ ih1 ih2 f args σ hok
   | some x =>
    rw [hx] at hok
    dsimp only at hok ⊢
    obtain ⟨fn,c,e1,e2,e3,e4,e5,e6,e7⟩:=ht f x hx
    refine ⟨⟨fn,e1,by rw [e2];rfl,e3⟩,fun ρ W vs hY hG hr hvs=>?_⟩
    unfold Kw at hok ⊢
    cases hrun:run std (Gam.grow std fuel tab S Γ0 n) σ.next fuel x.code (Mz args 0 .leaf) σ with
    | bad=>rw [hrun] at hok;cases hok
    | ok ex env σ' =>
     rw [hrun] at hok
     dsimp only at hok ⊢
     cases hres:K1 std env σ' x.res with
     | mk ok vs' =>
      rw [hres] at hok
      dsimp only at hok ⊢
      simp only [Bool.and_eq_true] at hok
      obtain ⟨⟨k1,k2⟩,k3⟩:=hok
      refine (call_sound (K:=fun av σ1=>av=retV vs' ∧ σ1=σ') hm ih1 ih2 e1 e2 e5 e6 e7 (by rw [e4];exact k3) (run_avc x.code _ _ _ _ _ _ hrun ⟨?_,by rw [hres];exact k1,by rw [hres],rfl⟩) hY hG hr hvs).mono ?_
      ·cases ex with
       | normal=>trivial
       | ret=>trivial
       | exit i=>cases k2
      ·rintro e' W' ⟨v,av,σ1,ρ',h1,⟨rfl,rfl⟩,h3,h4,h5⟩
       exact ⟨v,ρ',h1,h3,h4,h5⟩
  ·have e:∀ σ,(Gam.grow std fuel tab S Γ0 (n + 1)) f args σ=(match tab.get f with | none=>bif S.is f then S.fn (Gam.grow std fuel tab S Γ0 n) f args σ else Γ0.fn f args σ | some x=>Kw std (Gam.grow std fuel tab S Γ0 n) fuel x args σ):=fun _=>rfl
   rw [e,e,hpt f hf,hS.pu f hf]
   exact hpu f hf args σ σ'
end
end Go.Proofs.YtfdfdagbeeeomaaDoor.V2
namespace Go.Proofs.YtfdfdagbeeeomaaDoor.V2
open Go
def D0:Nat → Nat → List UInt8
 | 0,_=>[]
 | n + 1,c=>UInt8.ofNat (c % 256) :: D0 n (c / 256)
noncomputable def fF (m:Nat) (k:Nat → Nat):Nat:=Nat.rec (k 0) (fun p _=>k (Nat.succ p)) m
theorem fF_eq (m:Nat) (k:Nat → Nat):fF m k=k m:=by cases m <;> rfl
noncomputable def blp (ss:List Nat) (c:Nat):Nat → Nat:=List.rec (motive:=fun _=>Nat → Nat) (fun n=>n) (fun s _ ih n=>Bool.rec (fF (Nat.add n s) ih) (ih n) (Nat.beq (Nat.shiftRight c (Nat.shiftLeft (Nat.add n s) 3)) 0)) ss
theorem blp_cons (s:Nat) (ss:List Nat) (c n:Nat):blp (s :: ss) c n=bif Nat.beq (c >>> (8 * (n + s))) 0 then blp ss c n else blp ss c (n + s):=by
 have e:Nat.shiftLeft (Nat.add n s) 3=8 * (n + s):=by
  show (n + s) <<< 3=_
  rw [Nat.shiftLeft_eq];omega
 show (Bool.rec (fF (Nat.add n s) (blp ss c)) (blp ss c n) (Nat.beq (Nat.shiftRight c (Nat.shiftLeft (Nat.add n s) 3)) 0):Nat)=_
 rw [fF_eq,e]
 show (Bool.rec (blp ss c (n + s)) (blp ss c n) (Nat.beq (c >>> (8 * (n + s))) 0):Nat)=_
 cases Nat.beq (c >>> (8 * (n + s))) 0 <;> rfl
def pows:Nat → List Nat
 | 0=>[]
 | k + 1=>2 ^ k :: pows k
theorem sh_zero (c m:Nat):Nat.beq (c >>> (8 * m)) 0=true ↔ c=0 ∨ Nat.log2 c / 8 < m:=by
 rw [Nat.beq_eq,Nat.shiftRight_eq_div_pow,Nat.div_eq_zero_iff]
 by_cases hc:c=0
 ·simp [hc,Nat.pow_pos]
 ·have h:=Nat.le_log2 hc (k:=8 * m)
  have hp:2 ^ (8 * m) ≠ 0:=Nat.ne_of_gt (Nat.pow_pos (by omega))
  constructor
  ·rintro (h0 | h0)
   ·exact absurd h0 hp
   ·refine .inr ?_
    rcases Nat.lt_or_ge (Nat.log2 c / 8) m with h1 | h1
    ·exact h1
    ·have:=h.1 (by omega);omega
  ·rintro (h0 | h0)
   ·exact absurd h0 hc
   ·refine .inr ?_
    rcases Nat.lt_or_ge c (2 ^ (8 * m)) with h1 | h1
    ·exact h1
    ·have:=h.2 h1;omega
theorem blp_eq (c:Nat):∀ (k n:Nat),n ≤ Nat.log2 c / 8 → Nat.log2 c / 8 < n + 2 ^ k → blp (pows k) c n=Nat.log2 c / 8
 | 0,n,h1,h2=>by
  show n=_
  omega
 | k + 1,n,h1,h2=>by
  rw [pows,blp_cons]
  have hz:=sh_zero c (n + 2 ^ k)
  rw [Nat.pow_succ] at h2
  cases hb:Nat.beq (c >>> (8 * (n + 2 ^ k))) 0 with
  | true =>
   rw [cond_true]
   rcases hz.1 hb with h | h
   ·subst h
    have e0:Nat.log2 0 / 8=0:=rfl
    rw [e0] at h1 h2
    exact blp_eq 0 k n (by rw [e0];omega) (by rw [e0];have:0 < 2 ^ k:=Nat.pow_pos (by omega);omega)
   ·exact blp_eq c k n h1 h
  | false =>
   rw [cond_false]
   refine blp_eq c k _ ?_ (by omega)
   rcases Nat.lt_or_ge (Nat.log2 c / 8) (n + 2 ^ k) with h | h
   ·have:=hz.2 (.inr h);rw [hb] at this;cases this
   ·exact h
noncomputable def bl (c:Nat):Nat:=Bool.rec (Bool.rec (Nat.shiftRight (Nat.log2 c) 3) (blp [524288,262144,131072,65536,32768,16384,8192,4096,2048,1024,512,256,128,64,32,16,8,4,2,1] c 0) (Nat.beq (Nat.shiftRight c 8388608) 0)) (blp [8,4,2,1] c 0) (Nat.beq (Nat.shiftRight c 128) 0)
noncomputable def unp (c:Nat):List UInt8:=D0 (bl c) c
def Ac:List UInt8 → Nat
 | []=>1
 | b :: l=>b.toNat + 256 * Ac l
theorem Bu:∀ (n c:Nat),(D0 n c).length=n
 | 0,_=>rfl
 | n + 1,c=>by simp [D0,Bu n]
theorem F8:∀ (n c i:Nat),i < n → (D0 n c)[i]?=some (UInt8.ofNat (c / 256 ^ i % 256))
 | 0,_,_,h=>by omega
 | n + 1,c,0,_=>by simp [D0]
 | n + 1,c,i + 1,h=>by
  simp only [D0,List.getElem?_cons_succ]
  rw [F8 n (c / 256) i (by omega),Nat.div_div_eq_div_mul,Nat.pow_succ,Nat.mul_comm 256]
theorem bl_eq (c:Nat):bl c=Nat.log2 c / 8:=by
 have e4:blp [8,4,2,1] c 0=blp (pows 4) c 0:=rfl
 have e20:blp [524288,262144,131072,65536,32768,16384,8192,4096,2048,1024,512,256,128,64,32,16,8,4,2,1] c 0=blp (pows 20) c 0:=rfl
 unfold bl
 rw [e4,e20]
 cases h1:Nat.beq (Nat.shiftRight c 128) 0
 ·cases h2:Nat.beq (Nat.shiftRight c 8388608) 0
  ·exact Nat.shiftRight_eq_div_pow _ 3
  ·refine blp_eq c 20 0 (Nat.zero_le _) ?_
   rcases (sh_zero c 1048576).1 h2 with h | h
   ·subst h;decide
   ·exact Nat.lt_of_lt_of_le h (by decide)
 ·refine blp_eq c 4 0 (Nat.zero_le _) ?_
  rcases (sh_zero c 16).1 h1 with h | h
  ·subst h;decide
  ·exact Nat.lt_of_lt_of_le h (by decide)
theorem bl_of {n v:Nat} (h:v < 256 ^ n):bl (256 ^ n + v)=n:=by
 have h8:(256:Nat) ^ n=2 ^ (8 * n):=by rw [show (256:Nat)=2 ^ 8 by rfl,← Nat.pow_mul]
 have hp:0 < 2 ^ (8 * n):=Nat.pow_pos (by omega)
 have:Nat.log2 (256 ^ n + v)=8 * n:=by
  rw [h8] at h ⊢
  rw [Nat.log2_eq_iff (by omega)]
  rw [Nat.pow_succ];omega
 rw [bl_eq,this];omega
theorem pack_eq:∀ l:List UInt8,∃ v,v < 256 ^ l.length ∧ Ac l=256 ^ l.length + v
 | []=>⟨0,by simp,rfl⟩
 | b :: l=>by
  obtain ⟨v,h1,h2⟩:=pack_eq l
  have hb:b.toNat < 256:=b.toNat_lt
  refine ⟨b.toNat + 256 * v,?_,?_⟩
  ·rw [List.length_cons,Nat.pow_succ];omega
  ·rw [Ac,h2,List.length_cons,Nat.pow_succ];omega
theorem Ck (l:List UInt8):bl (Ac l)=l.length:=by
 obtain ⟨v,h1,h2⟩:=pack_eq l
 rw [h2,bl_of h1]
theorem unpN_pack:∀ l:List UInt8,D0 l.length (Ac l)=l
 | []=>rfl
 | b :: l=>by
  have hb:b.toNat < 256:=b.toNat_lt
  simp only [List.length_cons,D0,Ac]
  rw [show (b.toNat + 256 * Ac l) % 256=b.toNat by omega,show (b.toNat + 256 * Ac l) / 256=Ac l by omega,unpN_pack l]
  simp
theorem Dl (l:List UInt8):unp (Ac l)=l:=by unfold unp;rw [Ck,unpN_pack]
theorem Bz (c:Nat):(unp c).length=bl c:=Bu _ _
def bat (c i:Nat):Nat:=Nat.land (Nat.shiftRight c (Nat.shiftLeft i 3)) 255
theorem sh3 (i:Nat):Nat.shiftLeft i 3=8 * i:=by
 show i <<< 3=_;rw [Nat.shiftLeft_eq];omega
theorem p256 (n:Nat):(2:Nat) ^ (8 * n)=256 ^ n:=by rw [show (256:Nat)=2 ^ 8 by rfl,← Nat.pow_mul]
theorem shr8 (c i:Nat):Nat.shiftRight c (Nat.shiftLeft i 3)=c / 256 ^ i:=by
 rw [sh3];show c >>> (8 * i)=_;rw [Nat.shiftRight_eq_div_pow,p256]
theorem bat_eq (c i:Nat):bat c i=c / 256 ^ i % 256:=by
 unfold bat;rw [shr8]
 show (c / 256 ^ i) &&& 255=_
 exact Nat.and_two_pow_sub_one_eq_mod _ 8
theorem bat_lt (c i:Nat):bat c i < 256:=by rw [bat_eq];exact Nat.mod_lt _ (by omega)
theorem unp_at {c i:Nat} (h:i < bl c):(unp c)[i]?=some (UInt8.ofNat (bat c i)):=by
 unfold unp;rw [F8 _ _ _ h,bat_eq]
def low (c n:Nat):Nat:=Nat.mod c (Nat.shiftLeft 1 (Nat.shiftLeft n 3))
def Ce (n:Nat):Nat:=Nat.shiftLeft 1 (Nat.shiftLeft n 3)
theorem Iv (n:Nat):Ce n=256 ^ n:=by
 unfold Ce;rw [sh3];show 1 <<< (8 * n)=_;rw [Nat.shiftLeft_eq,p256];omega
theorem low_eq (c n:Nat):low c n=c % 256 ^ n:=by
 have h:=Iv n;unfold Ce at h;unfold low;rw [h];rfl
noncomputable def At (c o n:Nat):Nat:=Nat.add (Ce n) (low (Nat.shiftRight c (Nat.shiftLeft o 3)) n)
theorem ext_unp {n:Nat} {l:List UInt8} {c:Nat} (hl:l.length=n) (h:∀ i,i < n → l[i]?=some (UInt8.ofNat (c / 256 ^ i % 256))):D0 n c=l:=by
 apply List.ext_getElem?
 intro i
 by_cases hi:i < n
 ·rw [F8 _ _ _ hi,h i hi]
 ·rw [List.getElem?_eq_none (by rw [Bu];omega),List.getElem?_eq_none (by omega)]
theorem Gd (x n i:Nat) (h:i < n):x % 256 ^ n / 256 ^ i % 256=x / 256 ^ i % 256:=by
 obtain ⟨k,rfl⟩:=Nat.exists_eq_add_of_lt h
 rw [show i + k + 1=i + (k + 1) by omega,Nat.pow_add,Nat.mod_mul_right_div_self,Nat.pow_succ,Nat.mul_comm,Nat.mod_mul_right_mod]
theorem add_top (x n i:Nat) (h:i < n):(256 ^ n + x) / 256 ^ i % 256=x / 256 ^ i % 256:=by
 obtain ⟨k,rfl⟩:=Nat.exists_eq_add_of_lt h
 rw [show i + k + 1=i + (k + 1) by omega,Nat.pow_add,Nat.mul_add_div (Nat.pow_pos (by omega)),Nat.pow_succ,Nat.mul_comm,Nat.mul_add_mod]
theorem Ja {c o n:Nat} (h:o + n ≤ bl c):unp (At c o n)=((unp c).drop o).take n ∧ bl (At c o n)=n:=by
 have e:At c o n=256 ^ n + (c / 256 ^ o) % 256 ^ n:=by
  unfold At;rw [Iv,low_eq,shr8];rfl
 have hb:bl (At c o n)=n:=by rw [e];exact bl_of (Nat.mod_lt _ (Nat.pow_pos (by omega)))
 refine ⟨?_,hb⟩
 unfold unp;rw [hb]
 refine ext_unp ?_ fun i hi=>?_
 ·rw [List.length_take,List.length_drop,Bu];omega
 ·rw [List.getElem?_take_of_lt hi,List.getElem?_drop,F8 _ _ _ (by omega),e,add_top _ _ _ hi,Gd _ _ _ hi,Nat.div_div_eq_div_mul,← Nat.pow_add]
noncomputable def Bx (a b:Nat):Nat:=Nat.add (low a (bl a)) (Nat.shiftLeft (Nat.add (Ce (bl b)) (low b (bl b))) (Nat.shiftLeft (bl a) 3))
theorem bapp_eq (a b:Nat):Bx a b=256 ^ (bl a + bl b) + (a % 256 ^ bl a + 256 ^ bl a * (b % 256 ^ bl b)):=by
 unfold Bx
 rw [low_eq,low_eq,Iv,sh3]
 show a % 256 ^ bl a + (256 ^ bl b + b % 256 ^ bl b) <<< (8 * bl a)=_
 rw [Nat.shiftLeft_eq,p256,Nat.pow_add,Nat.add_mul,Nat.mul_comm (256 ^ bl b),Nat.mul_comm (b % _)]
 omega
theorem bapp_lt (a b:Nat):a % 256 ^ bl a + 256 ^ bl a * (b % 256 ^ bl b) < 256 ^ (bl a + bl b):=by
 have h1:a % 256 ^ bl a < 256 ^ bl a:=Nat.mod_lt _ (Nat.pow_pos (by omega))
 have h2:b % 256 ^ bl b + 1 ≤ 256 ^ bl b:=Nat.mod_lt _ (Nat.pow_pos (by omega))
 have h3:=Nat.mul_le_mul_left (256 ^ bl a) h2
 rw [Nat.mul_add,Nat.mul_one] at h3
 rw [Nat.pow_add];omega
theorem bl_bapp (a b:Nat):bl (Bx a b)=bl a + bl b:=by rw [bapp_eq,bl_of (bapp_lt a b)]
theorem bapp_unp (a b:Nat):unp (Bx a b)=unp a ++ unp b:=by
 unfold unp
 rw [bl_bapp]
 refine ext_unp (by simp [Bu]) fun i hi=>?_
 rw [bapp_eq,add_top _ _ _ hi]
 by_cases h:i < bl a
 ·rw [List.getElem?_append_left (by rw [Bu];exact h),F8 _ _ _ h]
  obtain ⟨k,hk⟩:=Nat.exists_eq_add_of_lt h
  have e:a % 256 ^ bl a + 256 ^ bl a * (b % 256 ^ bl b)=a % 256 ^ bl a + 256 ^ i * (256 * (256 ^ k * (b % 256 ^ bl b))):=by
   conv=>lhs;rhs;lhs;rw [hk,show i + k + 1=i + (1 + k) by omega,Nat.pow_add,Nat.pow_add]
   simp [Nat.mul_assoc]
  rw [e,Nat.add_mul_div_left _ _ (Nat.pow_pos (by omega)),Nat.add_mul_mod_self_left,Gd _ _ _ h]
 ·rw [List.getElem?_append_right (by rw [Bu];omega),Bu,F8 _ _ _ (by omega)]
  obtain ⟨k,hk⟩:∃ k,i=bl a + k:=⟨i - bl a,by omega⟩
  subst hk
  rw [Nat.add_sub_cancel_left,Nat.pow_add,← Nat.div_div_eq_div_mul,Nat.add_mul_div_left _ _ (Nat.pow_pos (by omega)),Nat.div_eq_of_lt (Nat.mod_lt _ (Nat.pow_pos (by omega))),Nat.zero_add,Gd _ _ _ (by omega)]
def bset (c i x:Nat):Nat:=Nat.sub (Nat.add c (Nat.shiftLeft x (Nat.shiftLeft i 3))) (Nat.shiftLeft (bat c i) (Nat.shiftLeft i 3))
noncomputable def bok (c:Nat):Bool:=Nat.beq (Nat.shiftRight c (Nat.shiftLeft (bl c) 3)) 1
theorem bok_eq {c:Nat} (h:bok c=true):c=256 ^ bl c + c % 256 ^ bl c:=by
 unfold bok at h;rw [shr8] at h
 have h:=Nat.eq_of_beq_eq_true h
 have:=Nat.div_add_mod c (256 ^ bl c)
 rw [h,Nat.mul_one] at this;exact this.symm
theorem unpN_inj:∀ (n a b:Nat),D0 n a=D0 n b → a % 256 ^ n=b % 256 ^ n
 | 0,a,b,_=>by simp [Nat.mod_one]
 | n + 1,a,b,h=>by
  simp only [D0,List.cons.injEq] at h
  have h1:a % 256=b % 256:=by
   have:=congrArg UInt8.toNat h.1
   simpa [UInt8.toNat_ofNat'] using this
  have h2:=unpN_inj n _ _ h.2
  rw [Nat.pow_succ,Nat.mul_comm,Nat.mod_mul,Nat.mod_mul,h1,h2]
theorem unp_inj {a b:Nat} (ha:bok a=true) (hb:bok b=true) (h:unp a=unp b):a=b:=by
 have hl:bl a=bl b:=by rw [← Bz,← Bz,h]
 have h':D0 (bl a) a=D0 (bl a) b:=by
  have:=h;unfold unp at this;rw [← hl] at this;exact this
 have:=unpN_inj _ _ _ h'
 rw [bok_eq ha,bok_eq hb,← hl,this]
theorem bok_pack (l:List UInt8):bok (Ac l)=true:=by
 obtain ⟨v,h1,h2⟩:=pack_eq l
 unfold bok;rw [shr8,Ck,h2]
 rw [Nat.add_div_left v (Nat.pow_pos (by omega)),Nat.div_eq_of_lt h1];rfl
end Go.Proofs.YtfdfdagbeeeomaaDoor.V2
namespace Go.Proofs.YtfdfdagbeeeomaaDoor.V2
open Go
noncomputable section
namespace T
variable {α β:Type}
def map (f:α → β):T α → T β
 | leaf=>leaf
 | node v l r=>node (v.map f) (map f l) (map f r)
theorem map_vl (f:α → β) (t:T α):(t.map f).vl=t.vl.map f:=by cases t <;> rfl
theorem map_le (f:α → β) (t:T α):(t.map f).le=t.le.map f:=by cases t <;> rfl
theorem map_ri (f:α → β) (t:T α):(t.map f).ri=t.ri.map f:=by cases t <;> rfl
theorem map_get (f:α → β):∀ (t:T α) (n:Nat),(t.map f).get n=(t.get n).map f:=by
 intro t
 induction t with
 | leaf=>intro n;rw [map,get_leaf,get_leaf];rfl
 | node v l r il ir =>
  intro n
  rw [get_eq,get_eq (node v l r),map_vl,map_le,map_ri]
  show (bif Nat.beq n 0 then v.map f else bif Nat.beq (n % 2) 1 then (l.map f).get (n / 2) else (r.map f).get (n / 2 - 1))=(bif Nat.beq n 0 then v else bif Nat.beq (n % 2) 1 then l.get (n / 2) else r.get (n / 2 - 1)).map f
  rw [il,ir]
  cases Nat.beq n 0 <;> cases Nat.beq (n % 2) 1 <;> rfl
theorem map_set (f:α → β):∀ (m:Nat) (t:T α) (n:Nat) (x:α),(set m t n x).map f=set m (t.map f) n (f x):=by
 intro m
 induction m with
 | zero=>intro t n x;show map f (node (some x) t.le t.ri)=node (some (f x)) (t.map f).le (t.map f).ri;rw [map_le,map_ri];rfl
 | succ m ih =>
  intro t n x
  rw [set_succ,set_succ,map_vl,map_le,map_ri,← ih,← ih]
  cases Nat.beq n 0 <;> cases Nat.beq (n % 2) 1 <;> rfl
theorem map_put (f:α → β) (t:T α) (n:Nat) (x:α):(t.put n x).map f=(t.map f).put n (f x):=map_set f 20 t n x
end T
inductive Nl where
 | top
 | ptr
 | sl
 | map
 | fn
 | ifc
inductive FV where
 | n (k:IntKind) (m:Nat)
 | z (k:IntKind) (m:Nat)
 | b (t:Bool)
 | s (c:Nat)
 | p (b o:Nat)
 | sl (b o n k:Nat) (e:Bool) (z:Nat)
 | m (b:Nat)
 | y (b:Nat)
 | fn (f:Fn) (first cap:List FV)
 | ifc (t:TypeId) (v:FV)
 | agg (l:List FV)
 | bs (c:Nat)
 | ints (k:IntKind) (l:List Int)
 | tup (l:List FV)
 | o (j:Nl)
instance:Inhabited FV:=⟨.o .top⟩
def Nl.av:Nl → AV
 | .top=>.top
 | .ptr=>.nilptr
 | .sl=>.nilsl
 | .map=>.nilmap
 | .fn=>.nilfn
 | .ifc=>.nilifc
def A5 (c:Nat):List Int:=(unp c).map fun b=>(b.toNat:Int)
mutual
def αV:FV → AV
 | .n k m=>.int k (Int.ofNat m)
 | .z k m=>.int k (Int.negSucc m)
 | .b t=>.bool t
 | .s c=>.str (unp c)
 | .p b o=>.ptr b o
 | .sl b o n k e z=>.sl b o n k e z
 | .m b=>.map b
 | .y b=>.yld b
 | .fn f x y=>.fn f (αL x) (αL y)
 | .ifc t v=>.ifc t (αV v)
 | .agg l=>.agg (αL l)
 | .bs c=>.ints .u8 (A5 c)
 | .ints k l=>.ints k l
 | .tup l=>.tup (αL l)
 | .o j=>j.av
def αL:List FV → List AV
 | []=>[]
 | v :: l=>αV v :: αL l
end
theorem αL_map:∀ l,αL l=l.map αV
 | []=>rfl
 | v :: l=>by rw [αL,αL_map l];rfl
def G6:List Int → Option Nat
 | []=>some 1
 | x :: l=>match x with
  | .ofNat m=>bif Nat.blt m 256 then (G6 l).map fun c=>m + 256 * c else none
  | .negSucc _=>none
theorem packI_spec:∀ (l:List Int) (c:Nat),G6 l=some c → ∃ bs:List UInt8,c=Ac bs ∧ l=bs.map fun b=>(b.toNat:Int)
 | [],c,h=>by cases h;exact ⟨[],rfl,rfl⟩
 | x :: l,c,h=>by
  cases x with
  | negSucc m=>cases h
  | ofNat m =>
   simp only [G6] at h
   cases hm:Nat.blt m 256 <;> rw [hm] at h
   ·cases h
   ·rw [Nat.blt_eq] at hm
    simp only [cond_true,Option.map_eq_some_iff] at h
    obtain ⟨c',h1,rfl⟩:=h
    obtain ⟨bs,rfl,rfl⟩:=packI_spec l c' h1
    have:(UInt8.ofNat m).toNat=m:=by simp [UInt8.toNat_ofNat'];omega
    exact ⟨UInt8.ofNat m :: bs,by simp [Ac,this],by simp [this]⟩
theorem packI_unpI {l:List Int} {c:Nat} (h:G6 l=some c):A5 c=l:=by
 obtain ⟨bs,rfl,rfl⟩:=packI_spec l c h
 unfold A5;rw [Dl]
mutual
def βV:AV → FV
 | .top=>.o .top
 | .bool t=>.b t
 | .int k n=>match n with
  | .ofNat m=>.n k m
  | .negSucc m=>.z k m
 | .str l=>.s (Ac l)
 | .ptr b o=>.p b o
 | .nilptr=>.o .ptr
 | .sl b o n k e z=>.sl b o n k e z
 | .nilsl=>.o .sl
 | .map b=>.m b
 | .nilmap=>.o .map
 | .yld b=>.y b
 | .fn f x y=>.fn f (βL x) (βL y)
 | .nilfn=>.o .fn
 | .ifc t v=>.ifc t (βV v)
 | .nilifc=>.o .ifc
 | .agg l=>.agg (βL l)
 | .ints k l=>match k with
  | .u8=>match G6 l with
   | some c=>.bs c
   | none=>.ints .u8 l
  | k=>.ints k l
 | .tup l=>.tup (βL l)
def βL:List AV → List FV
 | []=>[]
 | v :: l=>βV v :: βL l
end
mutual
theorem αβ:∀ v:AV,αV (βV v)=v
 | .top=>rfl
 | .bool t=>rfl
 | .int k n=>by cases n <;> rfl
 | .str l=>by rw [βV,αV,Dl]
 | .ptr b o=>rfl
 | .nilptr=>rfl
 | .sl _ _ _ _ _ _=>rfl
 | .nilsl=>rfl
 | .map b=>rfl
 | .nilmap=>rfl
 | .yld b=>rfl
 | .fn f x y=>by rw [βV,αV,αβL x,αβL y]
 | .nilfn=>rfl
 | .ifc t v=>by rw [βV,αV,αβ v]
 | .nilifc=>rfl
 | .agg l=>by rw [βV,αV,αβL l]
 | .ints k l=>by
  cases k
  case u8 =>
   simp only [βV]
   cases h:G6 l with
   | none=>rfl
   | some c=>simp only [αV];rw [packI_unpI h]
  all_goals rfl
 | .tup l=>by rw [βV,αV,αβL l]
theorem αβL:∀ l:List AV,αL (βL l)=l
 | []=>rfl
 | v :: l=>by rw [βL,αL,αβ v,αβL l]
end
inductive FObj where
 | dead
 | cells (l:List FV) (e:TypeId) (t:Tl)
 | bs (c:Nat) (e:TypeId) (t:Tl)
 | ints (k:IntKind) (l:List Int) (e:TypeId) (t:Tl)
 | map (l:List (FV × FV))
 | hid
def αP:List (FV × FV) → List (AV × AV)
 | []=>[]
 | p :: l=>(αV p.1,αV p.2) :: αP l
theorem αP_map:∀ l,αP l=l.map fun p=>(αV p.1,αV p.2)
 | []=>rfl
 | v :: l=>by rw [αP,αP_map l];rfl
def αO:FObj → AObj
 | .dead=>.dead
 | .cells l e t=>.cells (αL l) e t
 | .bs c e t=>.ints .u8 (A5 c) e t
 | .ints k l e t=>.ints k l e t
 | .map l=>.map (αP l)
 | .hid=>.hid
def βP:List (AV × AV) → List (FV × FV)
 | []=>[]
 | p :: l=>(βV p.1,βV p.2) :: βP l
theorem αβP:∀ l,αP (βP l)=l
 | []=>rfl
 | p :: l=>by rw [βP,αP,αβ,αβ,αβP l]
def βO:AObj → FObj
 | .dead=>.dead
 | .cells l e t=>.cells (βL l) e t
 | .ints k l e t=>match k with
  | .u8=>match G6 l with
   | some c=>.bs c e t
   | none=>.ints .u8 l e t
  | k=>.ints k l e t
 | .map l=>.map (βP l)
 | .hid=>.hid
theorem αβO (o:AObj):αO (βO o)=o:=by
 cases o with
 | dead=>rfl
 | cells l e t=>simp only [βO,αO,αβL]
 | ints k l e t =>
  cases k
  case u8 =>
   simp only [βO]
   cases h:G6 l with
   | none=>rfl
   | some c=>simp only [αO];rw [packI_unpI h]
  all_goals rfl
 | map l=>simp only [βO,αO,αβP]
 | hid=>rfl
structure FH where
 next:Nat
 mem:T FObj
def αH (σ:FH):AH:=⟨σ.next,σ.mem.map αO⟩
theorem αH_get (σ:FH) (b:Nat):(αH σ).get b=(σ.mem.get b).map αO:=T.map_get αO σ.mem b
theorem αH_put (σ:FH) (b:Nat) (o:FObj):(αH σ).put b (αO o)=αH ⟨σ.next,σ.mem.put b o⟩:=by
 unfold AH.put αH;simp only [T.map_put]
theorem αH_new (σ:FH) (o:FObj):(αH σ).new (αO o)=αH ⟨σ.next + 1,σ.mem.put σ.next o⟩:=by
 unfold AH.new αH;simp only [T.map_put]
inductive FR where
 | bad
 | ok (v:FV) (σ:FH)
abbrev KV:=FV → FH → FR
def Sm (r:FR) (k:KV) (o:Out):Prop:=r ≠ .bad → ∃ v σ',o=(true,αV v,αH σ') ∧ r=k v σ'
def Sv (r:FR) (c:FV → FR) (o:Bool × AV):Prop:=r ≠ .bad → ∃ v,o=(true,αV v) ∧ r=c v
theorem Sv.bad {c:FV → FR} {o:Bool × AV}:Sv .bad c o:=fun h=>absurd rfl h
theorem Sm.bad {k:KV} {o:Out}:Sm .bad k o:=fun h=>absurd rfl h
theorem Sv.of {c:FV → FR} {o:Bool × AV} (v:FV) (h:o=(true,αV v)):Sv (c v) c o:=fun _=>⟨v,h,rfl⟩
theorem Sm.ofv {r:FR} {k:KV} {o:Bool × AV} {σ:FH} (h:Sv r (fun v=>k v σ) o):Sm r k (o.1,o.2,αH σ):=fun hr=>by
 obtain ⟨v,h1,h2⟩:=h hr;exact ⟨v,σ,by rw [h1],h2⟩
def fN (m:Nat) (k:Nat → FR):FR:=Nat.rec (k 0) (fun p _=>k (Nat.succ p)) m
theorem Aj (m:Nat) (k:Nat → FR):fN m k=k m:=by cases m <;> rfl
def gB (b:Bool) (r:FR):FR:=Bool.rec .bad r b
theorem gB_eq (b:Bool) (r:FR):gB b r=bif b then r else .bad:=by cases b <;> rfl
def kI (f g:IntKind → Nat → FR) (v:FV):FR:=FV.rec (motive_1:=fun _=>FR) (motive_2:=fun _=>FR) f g (fun _=>.bad) (fun _=>.bad) (fun _ _=>.bad) (fun _ _ _ _ _ _=>.bad) (fun _=>.bad) (fun _=>.bad) (fun _ _ _ _ _=>.bad) (fun _ _ _=>.bad) (fun _ _=>.bad) (fun _=>.bad) (fun _ _=>.bad) (fun _ _=>.bad) (fun _=>.bad) .bad (fun _ _ _ _=>.bad) v
def kNn (f:IntKind → Nat → FR) (v:FV):FR:=FV.rec (motive_1:=fun _=>FR) (motive_2:=fun _=>FR) f (fun _ _=>.bad) (fun _=>.bad) (fun _=>.bad) (fun _ _=>.bad) (fun _ _ _ _ _ _=>.bad) (fun _=>.bad) (fun _=>.bad) (fun _ _ _ _ _=>.bad) (fun _ _ _=>.bad) (fun _ _=>.bad) (fun _=>.bad) (fun _ _=>.bad) (fun _ _=>.bad) (fun _=>.bad) .bad (fun _ _ _ _=>.bad) v
def kS (f:Nat → FR) (v:FV):FR:=FV.rec (motive_1:=fun _=>FR) (motive_2:=fun _=>FR) (fun _ _=>.bad) (fun _ _=>.bad) (fun _=>.bad) f (fun _ _=>.bad) (fun _ _ _ _ _ _=>.bad) (fun _=>.bad) (fun _=>.bad) (fun _ _ _ _ _=>.bad) (fun _ _ _=>.bad) (fun _ _=>.bad) (fun _=>.bad) (fun _ _=>.bad) (fun _ _=>.bad) (fun _=>.bad) .bad (fun _ _ _ _=>.bad) v
def kB (f:Bool → FR) (v:FV):FR:=FV.rec (motive_1:=fun _=>FR) (motive_2:=fun _=>FR) (fun _ _=>.bad) (fun _ _=>.bad) f (fun _=>.bad) (fun _ _=>.bad) (fun _ _ _ _ _ _=>.bad) (fun _=>.bad) (fun _=>.bad) (fun _ _ _ _ _=>.bad) (fun _ _ _=>.bad) (fun _ _=>.bad) (fun _=>.bad) (fun _ _=>.bad) (fun _ _=>.bad) (fun _=>.bad) .bad (fun _ _ _ _=>.bad) v
def kP (f:Nat → Nat → FR) (v:FV):FR:=FV.rec (motive_1:=fun _=>FR) (motive_2:=fun _=>FR) (fun _ _=>.bad) (fun _ _=>.bad) (fun _=>.bad) (fun _=>.bad) f (fun _ _ _ _ _ _=>.bad) (fun _=>.bad) (fun _=>.bad) (fun _ _ _ _ _=>.bad) (fun _ _ _=>.bad) (fun _ _=>.bad) (fun _=>.bad) (fun _ _=>.bad) (fun _ _=>.bad) (fun _=>.bad) .bad (fun _ _ _ _=>.bad) v
def kM (f:Nat → FR) (v:FV):FR:=FV.rec (motive_1:=fun _=>FR) (motive_2:=fun _=>FR) (fun _ _=>.bad) (fun _ _=>.bad) (fun _=>.bad) (fun _=>.bad) (fun _ _=>.bad) (fun _ _ _ _ _ _=>.bad) f (fun _=>.bad) (fun _ _ _ _ _=>.bad) (fun _ _ _=>.bad) (fun _ _=>.bad) (fun _=>.bad) (fun _ _=>.bad) (fun _ _=>.bad) (fun _=>.bad) .bad (fun _ _ _ _=>.bad) v
def kTup (f:List FV → FR) (v:FV):FR:=FV.rec (motive_1:=fun _=>FR) (motive_2:=fun _=>FR) (fun _ _=>.bad) (fun _ _=>.bad) (fun _=>.bad) (fun _=>.bad) (fun _ _=>.bad) (fun _ _ _ _ _ _=>.bad) (fun _=>.bad) (fun _=>.bad) (fun _ _ _ _ _=>.bad) (fun _ _ _=>.bad) (fun _ _=>.bad) (fun _=>.bad) (fun _ _=>.bad) (fun l _=>f l) (fun _=>.bad) .bad (fun _ _ _ _=>.bad) v
def kSl (f:Nat → Nat → Nat → Nat → Bool → Nat → FR) (v:FV):FR:=FV.rec (motive_1:=fun _=>FR) (motive_2:=fun _=>FR) (fun _ _=>.bad) (fun _ _=>.bad) (fun _=>.bad) (fun _=>.bad) (fun _ _=>.bad) f (fun _=>.bad) (fun _=>.bad) (fun _ _ _ _ _=>.bad) (fun _ _ _=>.bad) (fun _ _=>.bad) (fun _=>.bad) (fun _ _=>.bad) (fun _ _=>.bad) (fun _=>.bad) .bad (fun _ _ _ _=>.bad) v
def vI (k:IntKind) (i:Int) (c:FV → FR):FR:=Int.rec (fun m=>fN m fun m=>c (.n k m)) (fun m=>fN m fun m=>c (.z k m)) i
theorem vI_of (k:IntKind) (i:Int) (c:FV → FR):∃ v,αV v=.int k i ∧ vI k i c=c v:=by
 cases i with
 | ofNat m=>exact ⟨.n k m,rfl,by show fN m (fun m=>c (.n k m))=_;rw [Aj]⟩
 | negSucc m=>exact ⟨.z k m,rfl,by show fN m (fun m=>c (.z k m))=_;rw [Aj]⟩
end
end Go.Proofs.YtfdfdagbeeeomaaDoor.V2
namespace Go.Proofs.YtfdfdagbeeeomaaDoor.V2
open Go
noncomputable section
def lim (k:IntKind):Nat:=IntKind.rec (motive:=fun _=>Nat) (nat_lit 127) (nat_lit 32767) (nat_lit 2147483647) (nat_lit 9223372036854775807) (nat_lit 255) (nat_lit 65535) (nat_lit 4294967295) (nat_lit 18446744073709551615) k
def ix (k:IntKind):Nat:=IntKind.rec (motive:=fun _=>Nat) (nat_lit 0) (nat_lit 1) (nat_lit 2) (nat_lit 3) (nat_lit 4) (nat_lit 5) (nat_lit 6) (nat_lit 7) k
def sgd (k:IntKind):Bool:=IntKind.rec (motive:=fun _=>Bool) true true true true false false false false k
def Hy (k:IntKind):Nat:=IntKind.rec (motive:=fun _=>Nat) (nat_lit 8) (nat_lit 16) (nat_lit 32) (nat_lit 64) (nat_lit 8) (nat_lit 16) (nat_lit 32) (nat_lit 64) k
theorem ix_inj {k k':IntKind} (h:Nat.beq (ix k) (ix k')=true):k=k':=by
 have h:=Nat.eq_of_beq_eq_true h
 cases k <;> cases k' <;> first | rfl | (exact absurd h (by decide))
def gK (k k':IntKind) (r:FR):FR:=Bool.rec .bad r (Nat.beq (ix k) (ix k'))
theorem gK_sv {k k':IntKind} {r:FR} {c:FV → FR} {o:Bool × AV} (h:k=k' → Sv r c o):Sv (gK k k' r) c o:=by
 unfold gK
 cases hb:Nat.beq (ix k) (ix k')
 ·exact .bad
 ·exact h (ix_inj hb)
def sW (k:IntKind) (i:Int) (c:FV → FR):FR:=vI k (wr k i) c
def wN (k:IntKind) (m:Nat) (c:FV → FR):FR:=fN m fun m=>Bool.rec (sW k (Int.ofNat m) c) (c (.n k m)) (Nat.ble m (lim k))
def wZ (k:IntKind) (m:Nat) (c:FV → FR):FR:=fN m fun m=>Bool.rec (sW k (Int.negSucc m) c) (Bool.rec (sW k (Int.negSucc m) c) (c (.z k m)) (Nat.ble m (lim k))) (sgd k)
def dN (k:IntKind) (x y:Nat) (c:FV → FR):FR:=Bool.rec (wZ k (Nat.sub y (Nat.succ x)) c) (wN k (Nat.sub x y) c) (Nat.ble y x)
theorem wr_ofNat {k:IntKind} {m:Nat} (h:m ≤ lim k):wr k (Int.ofNat m)=Int.ofNat m:=by
 cases k <;> simp only [lim] at h <;> simp only [wr,Int.ofNat_eq_natCast] <;> omega
theorem wr_neg {k:IntKind} {m:Nat} (hs:sgd k=true) (h:m ≤ lim k):wr k (Int.negSucc m)=Int.negSucc m:=by
 cases k <;> simp only [sgd,Bool.false_eq_true] at hs <;> simp only [lim] at h <;> simp only [wr,Int.negSucc_eq] <;> omega
theorem sW_of (k:IntKind) (i:Int) (c:FV → FR):Sv (sW k i c) c (true,.int k (wr k i)):=by
 obtain ⟨v,h1,h2⟩:=vI_of k (wr k i) c
 unfold sW;rw [h2];exact .of v (by rw [h1])
theorem wN_of (k:IntKind) (m:Nat) (c:FV → FR):Sv (wN k m c) c (true,.int k (wr k (Int.ofNat m))):=by
 unfold wN;rw [Aj]
 cases hb:Nat.ble m (lim k)
 ·exact sW_of _ _ _
 ·rw [wr_ofNat (Nat.le_of_ble_eq_true hb)];exact .of (c:=c) (.n k m) rfl
theorem wZ_of (k:IntKind) (m:Nat) (c:FV → FR):Sv (wZ k m c) c (true,.int k (wr k (Int.negSucc m))):=by
 unfold wZ;rw [Aj]
 cases hs:sgd k
 ·exact sW_of _ _ _
 ·cases hb:Nat.ble m (lim k)
  ·exact sW_of _ _ _
  ·rw [wr_neg hs (Nat.le_of_ble_eq_true hb)];exact .of (c:=c) (.z k m) rfl
theorem dN_of (k:IntKind) (x y:Nat) (c:FV → FR):Sv (dN k x y c) c (true,.int k (wr k (Int.ofNat x - Int.ofNat y))):=by
 unfold dN
 cases hb:Nat.ble y x
 ·have h:¬y ≤ x:=fun h=>by rw [Nat.ble_eq_true_of_le h] at hb;cases hb
  rw [show Int.ofNat x - Int.ofNat y=Int.negSucc (Nat.sub y (Nat.succ x)) by
   show (x:Int) - (y:Int)=Int.negSucc (y - (x + 1));rw [Int.negSucc_eq];omega]
  exact wZ_of _ _ _
 ·have h:=Nat.le_of_ble_eq_true hb
  rw [show Int.ofNat x - Int.ofNat y=Int.ofNat (Nat.sub x y) by
   show (x:Int) - (y:Int)=((x - y:Nat):Int);omega]
  exact wN_of _ _ _
def gI (op:BinOp) (k:IntKind) (i j:Int) (c:FV → FR):FR:=match Ay std op k i j with
 | (ok,v)=>gB ok (c (βV v))
theorem Bw (op:BinOp) (k:IntKind) (i j:Int) (c:FV → FR):Sv (gI op k i j c) c (Ay std op k i j):=by
 unfold gI
 obtain ⟨ok,v⟩:=Ay std op k i j
 dsimp only
 cases ok
 ·exact .bad
 ·exact .of (c:=c) (βV v) (by rw [αβ])
def gS (op:BinOp) (a b:Nat) (c:FV → FR):FR:=match Jf std op (unp a) (unp b) with
 | (ok,v)=>gB ok (c (βV v))
theorem Hw (op:BinOp) (a b:Nat) (c:FV → FR):Sv (gS op a b c) c (Jf std op (unp a) (unp b)):=by
 unfold gS
 obtain ⟨ok,v⟩:=Jf std op (unp a) (unp b)
 dsimp only
 cases ok
 ·exact .bad
 ·exact .of (c:=c) (βV v) (by rw [αβ])
def bB (t:Bool) (c:FV → FR):FR:=Bool.rec (c (.b false)) (c (.b true)) t
theorem M6 (t:Bool) (c:FV → FR):Sv (bB t c) c (true,.bool t):=by cases t <;> exact .of (c:=c) (.b _) rfl
def sEq (a b:Nat) (y n:FR):FR:=Bool.rec (Bool.rec .bad (Bool.rec .bad n (bok b)) (bok a)) y (Nat.beq a b)
theorem sEq_cases {a b:Nat} {y n:FR} (h:sEq a b y n ≠ .bad):(unp a=unp b ∧ sEq a b y n=y) ∨ (unp a ≠ unp b ∧ sEq a b y n=n):=by
 unfold sEq at h ⊢
 cases hb:Nat.beq a b <;> rw [hb] at h
 ·cases ha:bok a <;> rw [ha] at h
  ·exact absurd rfl h
  ·cases hb':bok b <;> rw [hb'] at h
   ·exact absurd rfl h
   ·exact .inr ⟨fun e=>(by rw [unp_inj ha hb' e,Nat.beq_refl] at hb;cases hb),rfl⟩
 ·exact .inl ⟨by rw [Nat.eq_of_beq_eq_true hb],rfl⟩
def Jg (nn nz zn zz:IntKind → Nat → Nat → (FV → FR) → FR) (ss:Nat → Nat → (FV → FR) → FR) (x y:FV) (c:FV → FR):FR:=FV.rec (motive_1:=fun _=>FR) (motive_2:=fun _=>FR) (fun k a=>kI (fun k' b=>gK k k' (nn k a b c)) (fun k' b=>gK k k' (nz k a b c)) y) (fun k a=>kI (fun k' b=>gK k k' (zn k a b c)) (fun k' b=>gK k k' (zz k a b c)) y) (fun _=>.bad) (fun a=>kS (fun b=>ss a b c) y) (fun _ _=>.bad) (fun _ _ _ _ _ _=>.bad) (fun _=>.bad) (fun _=>.bad) (fun _ _ _ _ _=>.bad) (fun _ _ _=>.bad) (fun _ _=>.bad) (fun _=>.bad) (fun _ _=>.bad) (fun _ _=>.bad) (fun _=>.bad) .bad (fun _ _ _ _=>.bad) x
def shF (nn nz zn zz:IntKind → Nat → Nat → (FV → FR) → FR) (x y:FV) (c:FV → FR):FR:=FV.rec (motive_1:=fun _=>FR) (motive_2:=fun _=>FR) (fun k a=>kI (fun _ b=>nn k a b c) (fun _ b=>nz k a b c) y) (fun k a=>kI (fun _ b=>zn k a b c) (fun _ b=>zz k a b c) y) (fun _=>.bad) (fun _=>.bad) (fun _ _=>.bad) (fun _ _ _ _ _ _=>.bad) (fun _=>.bad) (fun _=>.bad) (fun _ _ _ _ _=>.bad) (fun _ _ _=>.bad) (fun _ _=>.bad) (fun _=>.bad) (fun _ _=>.bad) (fun _ _=>.bad) (fun _=>.bad) .bad (fun _ _ _ _=>.bad) x
theorem Cm {op:BinOp} {nn nz zn zz:IntKind → Nat → Nat → (FV → FR) → FR} {ss:Nat → Nat → (FV → FR) → FR} {x y:FV} {c:FV → FR} {σ:AH}
  (h1:∀ k a b,Sv (nn k a b c) c (Ay std op k (Int.ofNat a) (Int.ofNat b))) (h2:∀ k a b,Sv (nz k a b c) c (Ay std op k (Int.ofNat a) (Int.negSucc b)))
  (h3:∀ k a b,Sv (zn k a b c) c (Ay std op k (Int.negSucc a) (Int.ofNat b))) (h4:∀ k a b,Sv (zz k a b c) c (Ay std op k (Int.negSucc a) (Int.negSucc b)))
  (h5:∀ a b,Sv (ss a b c) c (Jf std op (unp a) (unp b))):Sv (Jg nn nz zn zz ss x y c) c ((Bk std op (αV x) (αV y) σ).1,(Bk std op (αV x) (αV y) σ).2.1):=by
 have key:∀ {k k':IntKind} {i j:Int} {r:FR},Sv r c (Ay std op k i j) → Sv (gK k k' r) c ((Bk std op (.int k i) (.int k' j) σ).1,(Bk std op (.int k i) (.int k' j) σ).2.1):=fun {k k' i j r} h=>gK_sv fun e=>by
  subst e
  simp only [Bk,decide_true,Bool.or_true,Bool.and_true];exact h
 cases x <;> try exact .bad
 case s a=>cases y <;> first | exact .bad | exact h5 _ _
 case n k a=>cases y <;> first | exact .bad | exact key (h1 _ _ _) | exact key (h2 _ _ _)
 case z k a=>cases y <;> first | exact .bad | exact key (h3 _ _ _) | exact key (h4 _ _ _)
theorem shF_sv {op:BinOp} (ho:K7 op=true) {nn nz zn zz:IntKind → Nat → Nat → (FV → FR) → FR} {x y:FV} {c:FV → FR} {σ:AH}
  (h1:∀ k a b,Sv (nn k a b c) c (Ay std op k (Int.ofNat a) (Int.ofNat b))) (h2:∀ k a b,Sv (nz k a b c) c (Ay std op k (Int.ofNat a) (Int.negSucc b)))
  (h3:∀ k a b,Sv (zn k a b c) c (Ay std op k (Int.negSucc a) (Int.ofNat b))) (h4:∀ k a b,Sv (zz k a b c) c (Ay std op k (Int.negSucc a) (Int.negSucc b))) :
  Sv (shF nn nz zn zz x y c) c ((Bk std op (αV x) (αV y) σ).1,(Bk std op (αV x) (αV y) σ).2.1):=by
 have key:∀ {k k':IntKind} {i j:Int} {r:FR},Sv r c (Ay std op k i j) → Sv r c ((Bk std op (.int k i) (.int k' j) σ).1,(Bk std op (.int k i) (.int k' j) σ).2.1):=fun {k k' i j r} h=>by
  simp only [Bk,ho,Bool.true_or,Bool.and_true];exact h
 cases x <;> try exact .bad
 case n k a=>cases y <;> first | exact .bad | exact key (h1 _ _ _) | exact key (h2 _ _ _)
 case z k a=>cases y <;> first | exact .bad | exact key (h3 _ _ _) | exact key (h4 _ _ _)
def nnAdd (k:IntKind) (a b:Nat) (c:FV → FR):FR:=wN k (Nat.add a b) c
def nzAdd (k:IntKind) (a b:Nat) (c:FV → FR):FR:=dN k a (Nat.succ b) c
def znAdd (k:IntKind) (a b:Nat) (c:FV → FR):FR:=dN k b (Nat.succ a) c
def zzAdd (k:IntKind) (a b:Nat) (c:FV → FR):FR:=wZ k (Nat.succ (Nat.add a b)) c
def ssAdd (a b:Nat) (c:FV → FR):FR:=gB (Nat.ble (Nat.add (bl a) (bl b)) 9223372036854775807) (c (.s (Bx a b)))
def bAdd (x y:FV) (c:FV → FR):FR:=Jg nnAdd nzAdd znAdd zzAdd ssAdd x y c
theorem bAdd_sv (x y:FV) (c:FV → FR) (σ:AH):Sv (bAdd x y c) c ((Bk std .add (αV x) (αV y) σ).1,(Bk std .add (αV x) (αV y) σ).2.1):=by
 refine Cm ?_ ?_ ?_ ?_ ?_
 ·intro k a b;exact wN_of _ _ _
 ·intro k a b
  have h:=dN_of k a (Nat.succ b) c
  rw [show Int.ofNat a - Int.ofNat (Nat.succ b)=Int.ofNat a + Int.negSucc b by rw [Int.negSucc_eq];simp only [Int.ofNat_eq_natCast,Nat.succ_eq_add_one];omega] at h
  exact h
 ·intro k a b
  have h:=dN_of k b (Nat.succ a) c
  rw [show Int.ofNat b - Int.ofNat (Nat.succ a)=Int.negSucc a + Int.ofNat b by rw [Int.negSucc_eq];simp only [Int.ofNat_eq_natCast,Nat.succ_eq_add_one];omega] at h
  exact h
 ·intro k a b
  have h:=wZ_of k (Nat.succ (Nat.add a b)) c
  rw [show Int.negSucc (Nat.succ (Nat.add a b))=Int.negSucc a + Int.negSucc b by rfl] at h
  exact h
 ·intro a b
  show Sv (gB _ _) c (Nat.ble ((unp a).length + (unp b).length) 9223372036854775807,.str (unp a ++ unp b))
  rw [gB_eq,Bz,Bz]
  cases hb:Nat.ble (bl a + bl b) 9223372036854775807
  ·exact .bad
  ·exact .of (c:=c) (.s (Bx a b)) (by rw [αV,bapp_unp])
def nnSub (k:IntKind) (a b:Nat) (c:FV → FR):FR:=dN k a b c
def nzSub (k:IntKind) (a b:Nat) (c:FV → FR):FR:=wN k (Nat.succ (Nat.add a b)) c
def znSub (k:IntKind) (a b:Nat) (c:FV → FR):FR:=wZ k (Nat.add a b) c
def zzSub (k:IntKind) (a b:Nat) (c:FV → FR):FR:=dN k b a c
def ssSub (a b:Nat) (c:FV → FR):FR:=gS .sub a b c
def bSub (x y:FV) (c:FV → FR):FR:=Jg nnSub nzSub znSub zzSub ssSub x y c
theorem bSub_sv (x y:FV) (c:FV → FR) (σ:AH):Sv (bSub x y c) c ((Bk std .sub (αV x) (αV y) σ).1,(Bk std .sub (αV x) (αV y) σ).2.1):=by
 refine Cm ?_ ?_ ?_ ?_ ?_
 ·intro k a b;exact dN_of _ _ _ _
 ·intro k a b
  have h:=wN_of k (Nat.succ (Nat.add a b)) c
  rw [show Int.ofNat (Nat.succ (Nat.add a b))=Int.ofNat a - Int.negSucc b by rw [Int.negSucc_eq];show ((a + b + 1:Nat):Int)=(a:Int) - _;omega] at h
  exact h
 ·intro k a b
  have h:=wZ_of k (Nat.add a b) c
  rw [show Int.negSucc (Nat.add a b)=Int.negSucc a - Int.ofNat b by rw [Int.negSucc_eq,Int.negSucc_eq];show -(((a + b:Nat):Int) + 1)=_ - (b:Int);omega] at h
  exact h
 ·intro k a b
  have h:=dN_of k b a c
  rw [show Int.ofNat b - Int.ofNat a=Int.negSucc a - Int.negSucc b by rw [Int.negSucc_eq,Int.negSucc_eq];show (b:Int) - (a:Int)=_;omega] at h
  exact h
 ·intros;exact Hw _ _ _ _
def nnMul (k:IntKind) (a b:Nat) (c:FV → FR):FR:=wN k (Nat.mul a b) c
def nzMul (k:IntKind) (a b:Nat) (c:FV → FR):FR:=gI .mul k (Int.ofNat a) (Int.negSucc b) c
def znMul (k:IntKind) (a b:Nat) (c:FV → FR):FR:=gI .mul k (Int.negSucc a) (Int.ofNat b) c
def zzMul (k:IntKind) (a b:Nat) (c:FV → FR):FR:=gI .mul k (Int.negSucc a) (Int.negSucc b) c
def ssMul (a b:Nat) (c:FV → FR):FR:=gS .mul a b c
def bMul (x y:FV) (c:FV → FR):FR:=Jg nnMul nzMul znMul zzMul ssMul x y c
theorem bMul_sv (x y:FV) (c:FV → FR) (σ:AH):Sv (bMul x y c) c ((Bk std .mul (αV x) (αV y) σ).1,(Bk std .mul (αV x) (αV y) σ).2.1):=by
 refine Cm ?_ ?_ ?_ ?_ ?_
 ·intro k a b;exact wN_of _ _ _
 ·intros;exact Bw _ _ _ _ _
 ·intros;exact Bw _ _ _ _ _
 ·intros;exact Bw _ _ _ _ _
 ·intros;exact Hw _ _ _ _
def nnQuo (k:IntKind) (a b:Nat) (c:FV → FR):FR:=Bool.rec (wN k (Nat.div a b) c) .bad (Nat.beq b 0)
def nzQuo (k:IntKind) (a b:Nat) (c:FV → FR):FR:=gI .quo k (Int.ofNat a) (Int.negSucc b) c
def znQuo (k:IntKind) (a b:Nat) (c:FV → FR):FR:=gI .quo k (Int.negSucc a) (Int.ofNat b) c
def zzQuo (k:IntKind) (a b:Nat) (c:FV → FR):FR:=gI .quo k (Int.negSucc a) (Int.negSucc b) c
def ssQuo (a b:Nat) (c:FV → FR):FR:=gS .quo a b c
def bQuo (x y:FV) (c:FV → FR):FR:=Jg nnQuo nzQuo znQuo zzQuo ssQuo x y c
theorem bQuo_sv (x y:FV) (c:FV → FR) (σ:AH):Sv (bQuo x y c) c ((Bk std .quo (αV x) (αV y) σ).1,(Bk std .quo (αV x) (αV y) σ).2.1):=by
 refine Cm ?_ ?_ ?_ ?_ ?_
 ·intro k a b
  cases hb:Nat.beq b 0
  ·have h0:b ≠ 0:=fun e=>by rw [e] at hb;cases hb
   have h:=wN_of k (Nat.div a b) c
   have e:Ay std .quo k (Int.ofNat a) (Int.ofNat b)=(true,.int k (wr k (Int.ofNat (Nat.div a b)))):=by
    simp only [Ay,std]
    rw [decide_eq_false (by show ¬((b:Int)=0);omega)];rfl
   rw [e];unfold nnQuo;rw [hb];exact h
  ·unfold nnQuo;rw [hb];exact .bad
 ·intros;exact Bw _ _ _ _ _
 ·intros;exact Bw _ _ _ _ _
 ·intros;exact Bw _ _ _ _ _
 ·intros;exact Hw _ _ _ _
def nnRem (k:IntKind) (a b:Nat) (c:FV → FR):FR:=Bool.rec (fN (Nat.mod a b) fun r=>c (.n k r)) .bad (Nat.beq b 0)
def nzRem (k:IntKind) (a b:Nat) (c:FV → FR):FR:=gI .rem k (Int.ofNat a) (Int.negSucc b) c
def znRem (k:IntKind) (a b:Nat) (c:FV → FR):FR:=gI .rem k (Int.negSucc a) (Int.ofNat b) c
def zzRem (k:IntKind) (a b:Nat) (c:FV → FR):FR:=gI .rem k (Int.negSucc a) (Int.negSucc b) c
def ssRem (a b:Nat) (c:FV → FR):FR:=gS .rem a b c
def bRem (x y:FV) (c:FV → FR):FR:=Jg nnRem nzRem znRem zzRem ssRem x y c
theorem bRem_sv (x y:FV) (c:FV → FR) (σ:AH):Sv (bRem x y c) c ((Bk std .rem (αV x) (αV y) σ).1,(Bk std .rem (αV x) (αV y) σ).2.1):=by
 refine Cm ?_ ?_ ?_ ?_ ?_
 ·intro k a b
  cases hb:Nat.beq b 0
  ·have h0:b ≠ 0:=fun e=>by rw [e] at hb;cases hb
   have e:Ay std .rem k (Int.ofNat a) (Int.ofNat b)=(true,.int k (Int.ofNat (Nat.mod a b))):=by
    simp only [Ay,std]
    rw [decide_eq_false (by show ¬((b:Int)=0);omega)];rfl
   rw [e]
   have h:Sv (fN (Nat.mod a b) fun r=>c (.n k r)) c (true,.int k (Int.ofNat (Nat.mod a b))):=by rw [Aj];exact .of (c:=c) (.n k _) rfl
   unfold nnRem;rw [hb];exact h
  ·unfold nnRem;rw [hb];exact .bad
 ·intros;exact Bw _ _ _ _ _
 ·intros;exact Bw _ _ _ _ _
 ·intros;exact Bw _ _ _ _ _
 ·intros;exact Hw _ _ _ _
theorem bitsF_eq (k:IntKind):Hy k=k.bits:=by cases k <;> rfl
theorem bit_sv (op:BinOp) (f:Nat → Nat → Nat) (hf:∀ m n j,m < 2 ^ j → n < 2 ^ j → f m n < 2 ^ j) (g:∀ w,BitVec w → BitVec w → BitVec w)
  (ho:∀ k a b,Ay std op k a b=(true,.int k (wr k (((g k.bits (BitVec.ofInt k.bits a) (BitVec.ofInt k.bits b)).toNat:Nat):Int)))) (hg:∀ w (a b:BitVec w),(g w a b).toNat=f a.toNat b.toNat) {c:FV → FR} (k:IntKind) (a b:Nat) :
  Sv (Bool.rec (gI op k (Int.ofNat a) (Int.ofNat b) c) (Bool.rec (gI op k (Int.ofNat a) (Int.ofNat b) c) (fN (f a b) fun r=>c (.n k r)) (Nat.ble b (lim k))) (Nat.ble a (lim k))) c (Ay std op k (Int.ofNat a) (Int.ofNat b)):=by
 cases ha:Nat.ble a (lim k)
 ·exact Bw _ _ _ _ _
 ·cases hb:Nat.ble b (lim k)
  ·exact Bw _ _ _ _ _
  ·have ha:=Nat.le_of_ble_eq_true ha
   have hb:=Nat.le_of_ble_eq_true hb
   have key:∃ j,lim k + 1=2 ^ j ∧ lim k < 2 ^ k.bits:=by
    cases k <;> first | exact ⟨7,by decide⟩ | exact ⟨15,by decide⟩ | exact ⟨31,by decide⟩ | exact ⟨63,by decide⟩ | exact ⟨8,by decide⟩ | exact ⟨16,by decide⟩ | exact ⟨32,by decide⟩ | exact ⟨64,by decide⟩
   obtain ⟨j,hj,hk⟩:=key
   have hr:=hf a b j (by omega) (by omega)
   have e:Ay std op k (Int.ofNat a) (Int.ofNat b)=(true,.int k (Int.ofNat (f a b))):=by
    rw [ho,hg]
    have e1:(BitVec.ofInt k.bits (Int.ofNat a)).toNat=a:=by
     rw [show BitVec.ofInt k.bits (Int.ofNat a)=BitVec.ofNat k.bits a from BitVec.ofInt_natCast _ _,BitVec.toNat_ofNat,Nat.mod_eq_of_lt (by omega)]
    have e2:(BitVec.ofInt k.bits (Int.ofNat b)).toNat=b:=by
     rw [show BitVec.ofInt k.bits (Int.ofNat b)=BitVec.ofNat k.bits b from BitVec.ofInt_natCast _ _,BitVec.toNat_ofNat,Nat.mod_eq_of_lt (by omega)]
    rw [e1,e2]
    have:=wr_ofNat (k:=k) (m:=f a b) (by omega)
    rw [show ((f a b:Nat):Int)=Int.ofNat (f a b) from rfl,this]
   rw [e]
   show Sv (fN (f a b) fun r=>c (.n k r)) c _
   rw [Aj];exact .of (c:=c) (.n k _) rfl
def nnAnd (k:IntKind) (a b:Nat) (c:FV → FR):FR:=Bool.rec (gI .and k (Int.ofNat a) (Int.ofNat b) c) (Bool.rec (gI .and k (Int.ofNat a) (Int.ofNat b) c) (fN (Nat.land a b) fun r=>c (.n k r)) (Nat.ble b (lim k))) (Nat.ble a (lim k))
def nzAnd (k:IntKind) (a b:Nat) (c:FV → FR):FR:=gI .and k (Int.ofNat a) (Int.negSucc b) c
def znAnd (k:IntKind) (a b:Nat) (c:FV → FR):FR:=gI .and k (Int.negSucc a) (Int.ofNat b) c
def zzAnd (k:IntKind) (a b:Nat) (c:FV → FR):FR:=gI .and k (Int.negSucc a) (Int.negSucc b) c
def ssAnd (a b:Nat) (c:FV → FR):FR:=gS .and a b c
def bAnd (x y:FV) (c:FV → FR):FR:=Jg nnAnd nzAnd znAnd zzAnd ssAnd x y c
theorem bAnd_sv (x y:FV) (c:FV → FR) (σ:AH):Sv (bAnd x y c) c ((Bk std .and (αV x) (αV y) σ).1,(Bk std .and (αV x) (αV y) σ).2.1):=by
 refine Cm ?_ ?_ ?_ ?_ ?_
 ·intro k a b
  exact bit_sv .and Nat.land (fun m n j hm hn=>Nat.and_lt_two_pow _ hn) (fun _ a b=>a &&& b) (fun _ _ _=>rfl) (fun _ a b=>BitVec.toNat_and _ _) k a b
 ·intros;exact Bw _ _ _ _ _
 ·intros;exact Bw _ _ _ _ _
 ·intros;exact Bw _ _ _ _ _
 ·intros;exact Hw _ _ _ _
def nnOr (k:IntKind) (a b:Nat) (c:FV → FR):FR:=Bool.rec (gI .or k (Int.ofNat a) (Int.ofNat b) c) (Bool.rec (gI .or k (Int.ofNat a) (Int.ofNat b) c) (fN (Nat.lor a b) fun r=>c (.n k r)) (Nat.ble b (lim k))) (Nat.ble a (lim k))
def nzOr (k:IntKind) (a b:Nat) (c:FV → FR):FR:=gI .or k (Int.ofNat a) (Int.negSucc b) c
def znOr (k:IntKind) (a b:Nat) (c:FV → FR):FR:=gI .or k (Int.negSucc a) (Int.ofNat b) c
def zzOr (k:IntKind) (a b:Nat) (c:FV → FR):FR:=gI .or k (Int.negSucc a) (Int.negSucc b) c
def ssOr (a b:Nat) (c:FV → FR):FR:=gS .or a b c
def bOr (x y:FV) (c:FV → FR):FR:=Jg nnOr nzOr znOr zzOr ssOr x y c
theorem bOr_sv (x y:FV) (c:FV → FR) (σ:AH):Sv (bOr x y c) c ((Bk std .or (αV x) (αV y) σ).1,(Bk std .or (αV x) (αV y) σ).2.1):=by
 refine Cm ?_ ?_ ?_ ?_ ?_
 ·intro k a b
  exact bit_sv .or Nat.lor (fun m n j hm hn=>Nat.or_lt_two_pow hm hn) (fun _ a b=>a ||| b) (fun _ _ _=>rfl) (fun _ a b=>BitVec.toNat_or _ _) k a b
 ·intros;exact Bw _ _ _ _ _
 ·intros;exact Bw _ _ _ _ _
 ·intros;exact Bw _ _ _ _ _
 ·intros;exact Hw _ _ _ _
def nnXor (k:IntKind) (a b:Nat) (c:FV → FR):FR:=Bool.rec (gI .xor k (Int.ofNat a) (Int.ofNat b) c) (Bool.rec (gI .xor k (Int.ofNat a) (Int.ofNat b) c) (fN (Nat.xor a b) fun r=>c (.n k r)) (Nat.ble b (lim k))) (Nat.ble a (lim k))
def nzXor (k:IntKind) (a b:Nat) (c:FV → FR):FR:=gI .xor k (Int.ofNat a) (Int.negSucc b) c
def znXor (k:IntKind) (a b:Nat) (c:FV → FR):FR:=gI .xor k (Int.negSucc a) (Int.ofNat b) c
def zzXor (k:IntKind) (a b:Nat) (c:FV → FR):FR:=gI .xor k (Int.negSucc a) (Int.negSucc b) c
def ssXor (a b:Nat) (c:FV → FR):FR:=gS .xor a b c
def bXor (x y:FV) (c:FV → FR):FR:=Jg nnXor nzXor znXor zzXor ssXor x y c
theorem bXor_sv (x y:FV) (c:FV → FR) (σ:AH):Sv (bXor x y c) c ((Bk std .xor (αV x) (αV y) σ).1,(Bk std .xor (αV x) (αV y) σ).2.1):=by
 refine Cm ?_ ?_ ?_ ?_ ?_
 ·intro k a b
  exact bit_sv .xor Nat.xor (fun m n j hm hn=>Nat.xor_lt_two_pow hm hn) (fun _ a b=>a ^^^ b) (fun _ _ _=>rfl) (fun _ a b=>BitVec.toNat_xor _ _) k a b
 ·intros;exact Bw _ _ _ _ _
 ·intros;exact Bw _ _ _ _ _
 ·intros;exact Bw _ _ _ _ _
 ·intros;exact Hw _ _ _ _
def nnAndNot (k:IntKind) (a b:Nat) (c:FV → FR):FR:=gI .andNot k (Int.ofNat a) (Int.ofNat b) c
def nzAndNot (k:IntKind) (a b:Nat) (c:FV → FR):FR:=gI .andNot k (Int.ofNat a) (Int.negSucc b) c
def znAndNot (k:IntKind) (a b:Nat) (c:FV → FR):FR:=gI .andNot k (Int.negSucc a) (Int.ofNat b) c
def zzAndNot (k:IntKind) (a b:Nat) (c:FV → FR):FR:=gI .andNot k (Int.negSucc a) (Int.negSucc b) c
def ssAndNot (a b:Nat) (c:FV → FR):FR:=gS .andNot a b c
def bAndNot (x y:FV) (c:FV → FR):FR:=Jg nnAndNot nzAndNot znAndNot zzAndNot ssAndNot x y c
theorem bAndNot_sv (x y:FV) (c:FV → FR) (σ:AH):Sv (bAndNot x y c) c ((Bk std .andNot (αV x) (αV y) σ).1,(Bk std .andNot (αV x) (αV y) σ).2.1):=by
 refine Cm ?_ ?_ ?_ ?_ ?_
 ·intros;exact Bw _ _ _ _ _
 ·intros;exact Bw _ _ _ _ _
 ·intros;exact Bw _ _ _ _ _
 ·intros;exact Bw _ _ _ _ _
 ·intros;exact Hw _ _ _ _
def nnShl (k:IntKind) (a b:Nat) (c:FV → FR):FR:=Bool.rec (gI .shl k (Int.ofNat a) (Int.ofNat b) c) (wN k (Nat.shiftLeft a b) c) (Nat.ble b (Hy k))
def nzShl (k:IntKind) (a b:Nat) (c:FV → FR):FR:=gI .shl k (Int.ofNat a) (Int.negSucc b) c
def znShl (k:IntKind) (a b:Nat) (c:FV → FR):FR:=gI .shl k (Int.negSucc a) (Int.ofNat b) c
def zzShl (k:IntKind) (a b:Nat) (c:FV → FR):FR:=gI .shl k (Int.negSucc a) (Int.negSucc b) c
def bShl (x y:FV) (c:FV → FR):FR:=shF nnShl nzShl znShl zzShl x y c
theorem bShl_sv (x y:FV) (c:FV → FR) (σ:AH):Sv (bShl x y c) c ((Bk std .shl (αV x) (αV y) σ).1,(Bk std .shl (αV x) (αV y) σ).2.1):=by
 refine shF_sv rfl ?_ ?_ ?_ ?_
 ·intro k a b
  cases hb:Nat.ble b (Hy k)
  ·unfold nnShl;rw [hb];exact Bw _ _ _ _ _
  ·unfold nnShl;rw [hb]
   have e:Ay std .shl k (Int.ofNat a) (Int.ofNat b)=(true,.int k (wr k (Int.ofNat (Nat.shiftLeft a b)))):=by
    have hle:b ≤ k.bits:=by rw [← bitsF_eq];exact Nat.le_of_ble_eq_true hb
    simp only [Ay,std]
    rw [decide_eq_false (by show ¬((b:Int) < 0);omega)]
    have e2:Int.ofNat a * 2 ^ min (Int.ofNat b).toNat k.bits=Int.ofNat (Nat.shiftLeft a b):=by
     show (a:Int) * 2 ^ min b k.bits=((a <<< b:Nat):Int)
     rw [Nat.min_eq_left hle,Nat.shiftLeft_eq];simp
    rw [e2];rfl
   rw [e];exact wN_of _ _ _
 ·intros;exact Bw _ _ _ _ _
 ·intros;exact Bw _ _ _ _ _
 ·intros;exact Bw _ _ _ _ _
def nnShr (k:IntKind) (a b:Nat) (c:FV → FR):FR:=Bool.rec (gI .shr k (Int.ofNat a) (Int.ofNat b) c) (fN (Nat.shiftRight a b) fun r=>c (.n k r)) (Nat.ble b (Hy k))
def nzShr (k:IntKind) (a b:Nat) (c:FV → FR):FR:=gI .shr k (Int.ofNat a) (Int.negSucc b) c
def znShr (k:IntKind) (a b:Nat) (c:FV → FR):FR:=gI .shr k (Int.negSucc a) (Int.ofNat b) c
def zzShr (k:IntKind) (a b:Nat) (c:FV → FR):FR:=gI .shr k (Int.negSucc a) (Int.negSucc b) c
def bShr (x y:FV) (c:FV → FR):FR:=shF nnShr nzShr znShr zzShr x y c
theorem bShr_sv (x y:FV) (c:FV → FR) (σ:AH):Sv (bShr x y c) c ((Bk std .shr (αV x) (αV y) σ).1,(Bk std .shr (αV x) (αV y) σ).2.1):=by
 refine shF_sv rfl ?_ ?_ ?_ ?_
 ·intro k a b
  cases hb:Nat.ble b (Hy k)
  ·unfold nnShr;rw [hb];exact Bw _ _ _ _ _
  ·unfold nnShr;rw [hb]
   have e:Ay std .shr k (Int.ofNat a) (Int.ofNat b)=(true,.int k (Int.ofNat (Nat.shiftRight a b))):=by
    have hle:b ≤ k.bits:=by rw [← bitsF_eq];exact Nat.le_of_ble_eq_true hb
    simp only [Ay,std]
    rw [decide_eq_false (by show ¬((b:Int) < 0);omega)]
    have e2:(Int.ofNat a).fdiv (2 ^ min (Int.ofNat b).toNat k.bits)=Int.ofNat (Nat.shiftRight a b):=by
     show (a:Int).fdiv (2 ^ min b k.bits)=((a >>> b:Nat):Int)
     rw [Nat.min_eq_left hle,Nat.shiftRight_eq_div_pow,Int.fdiv_eq_ediv_of_nonneg _ (Int.le_of_lt (Int.pow_pos (by decide)))];simp
    rw [e2];rfl
   rw [e]
   have h:Sv (fN (Nat.shiftRight a b) fun r=>c (.n k r)) c (true,.int k (Int.ofNat (Nat.shiftRight a b))):=by rw [Aj];exact .of (c:=c) (.n k _) rfl
   exact h
 ·intros;exact Bw _ _ _ _ _
 ·intros;exact Bw _ _ _ _ _
 ·intros;exact Bw _ _ _ _ _
theorem Mo (a b:Nat):decide (Int.ofNat a < Int.ofNat b)=Nat.ble (Nat.succ a) b ∧ decide (Int.ofNat a < Int.negSucc b)=false ∧ decide (Int.negSucc a < Int.ofNat b)=true ∧ decide (Int.negSucc a < Int.negSucc b)=Nat.ble (Nat.succ b) a:=by
 refine ⟨?_,?_,?_,?_⟩ <;> rw [Bool.eq_iff_iff] <;> simp [Nat.ble_eq,Int.negSucc_eq] <;> omega
def nnLss (k:IntKind) (a b:Nat) (c:FV → FR):FR:=bB (Nat.ble (Nat.succ a) b) c
def nzLss (k:IntKind) (a b:Nat) (c:FV → FR):FR:=c (.b false)
def znLss (k:IntKind) (a b:Nat) (c:FV → FR):FR:=c (.b true)
def zzLss (k:IntKind) (a b:Nat) (c:FV → FR):FR:=bB (Nat.ble (Nat.succ b) a) c
def ssLss (a b:Nat) (c:FV → FR):FR:=gS .lss a b c
def bLss (x y:FV) (c:FV → FR):FR:=Jg nnLss nzLss znLss zzLss ssLss x y c
theorem bLss_sv (x y:FV) (c:FV → FR) (σ:AH):Sv (bLss x y c) c ((Bk std .lss (αV x) (αV y) σ).1,(Bk std .lss (αV x) (αV y) σ).2.1):=by
 refine Cm ?_ ?_ ?_ ?_ ?_
 ·intro k a b
  have h:=M6 (Nat.ble (Nat.succ a) b) c
  rw [show AV.bool (Nat.ble (Nat.succ a) b)=(Ay std .lss k (Int.ofNat a) (Int.ofNat b)).2 by
   simp only [Ay,std];congr 1;exact (Mo a b).1.symm] at h
  exact h
 ·intro k a b
  exact .of (c:=c) (.b false) (by simp only [Ay,std,αV,(Mo a b).2.1])
 ·intro k a b
  exact .of (c:=c) (.b true) (by simp only [Ay,std,αV,(Mo a b).2.2.1])
 ·intro k a b
  have h:=M6 (Nat.ble (Nat.succ b) a) c
  rw [show AV.bool (Nat.ble (Nat.succ b) a)=(Ay std .lss k (Int.negSucc a) (Int.negSucc b)).2 by
   simp only [Ay,std];congr 1;exact (Mo a b).2.2.2.symm] at h
  exact h
 ·intros;exact Hw _ _ _ _
theorem cb_leq (a b:Nat):decide (Int.ofNat a ≤ Int.ofNat b)=Nat.ble a b ∧ decide (Int.ofNat a ≤ Int.negSucc b)=false ∧ decide (Int.negSucc a ≤ Int.ofNat b)=true ∧ decide (Int.negSucc a ≤ Int.negSucc b)=Nat.ble b a:=by
 refine ⟨?_,?_,?_,?_⟩ <;> rw [Bool.eq_iff_iff] <;> simp [Nat.ble_eq,Int.negSucc_eq] <;> omega
def nnLeq (k:IntKind) (a b:Nat) (c:FV → FR):FR:=bB (Nat.ble a b) c
def nzLeq (k:IntKind) (a b:Nat) (c:FV → FR):FR:=c (.b false)
def znLeq (k:IntKind) (a b:Nat) (c:FV → FR):FR:=c (.b true)
def zzLeq (k:IntKind) (a b:Nat) (c:FV → FR):FR:=bB (Nat.ble b a) c
def ssLeq (a b:Nat) (c:FV → FR):FR:=gS .leq a b c
def bLeq (x y:FV) (c:FV → FR):FR:=Jg nnLeq nzLeq znLeq zzLeq ssLeq x y c
theorem bLeq_sv (x y:FV) (c:FV → FR) (σ:AH):Sv (bLeq x y c) c ((Bk std .leq (αV x) (αV y) σ).1,(Bk std .leq (αV x) (αV y) σ).2.1):=by
 refine Cm ?_ ?_ ?_ ?_ ?_
 ·intro k a b
  have h:=M6 (Nat.ble a b) c
  rw [show AV.bool (Nat.ble a b)=(Ay std .leq k (Int.ofNat a) (Int.ofNat b)).2 by
   simp only [Ay,std];congr 1;exact (cb_leq a b).1.symm] at h
  exact h
 ·intro k a b
  exact .of (c:=c) (.b false) (by simp only [Ay,std,αV,(cb_leq a b).2.1])
 ·intro k a b
  exact .of (c:=c) (.b true) (by simp only [Ay,std,αV,(cb_leq a b).2.2.1])
 ·intro k a b
  have h:=M6 (Nat.ble b a) c
  rw [show AV.bool (Nat.ble b a)=(Ay std .leq k (Int.negSucc a) (Int.negSucc b)).2 by
   simp only [Ay,std];congr 1;exact (cb_leq a b).2.2.2.symm] at h
  exact h
 ·intros;exact Hw _ _ _ _
theorem cb_gtr (a b:Nat):decide (Int.ofNat b < Int.ofNat a)=Nat.ble (Nat.succ b) a ∧ decide (Int.negSucc b < Int.ofNat a)=true ∧ decide (Int.ofNat b < Int.negSucc a)=false ∧ decide (Int.negSucc b < Int.negSucc a)=Nat.ble (Nat.succ a) b:=by
 refine ⟨?_,?_,?_,?_⟩ <;> rw [Bool.eq_iff_iff] <;> simp [Nat.ble_eq,Int.negSucc_eq] <;> omega
def nnGtr (k:IntKind) (a b:Nat) (c:FV → FR):FR:=bB (Nat.ble (Nat.succ b) a) c
def nzGtr (k:IntKind) (a b:Nat) (c:FV → FR):FR:=c (.b true)
def znGtr (k:IntKind) (a b:Nat) (c:FV → FR):FR:=c (.b false)
def zzGtr (k:IntKind) (a b:Nat) (c:FV → FR):FR:=bB (Nat.ble (Nat.succ a) b) c
def ssGtr (a b:Nat) (c:FV → FR):FR:=gS .gtr a b c
def bGtr (x y:FV) (c:FV → FR):FR:=Jg nnGtr nzGtr znGtr zzGtr ssGtr x y c
theorem bGtr_sv (x y:FV) (c:FV → FR) (σ:AH):Sv (bGtr x y c) c ((Bk std .gtr (αV x) (αV y) σ).1,(Bk std .gtr (αV x) (αV y) σ).2.1):=by
 refine Cm ?_ ?_ ?_ ?_ ?_
 ·intro k a b
  have h:=M6 (Nat.ble (Nat.succ b) a) c
  rw [show AV.bool (Nat.ble (Nat.succ b) a)=(Ay std .gtr k (Int.ofNat a) (Int.ofNat b)).2 by
   simp only [Ay,std];congr 1;exact (cb_gtr a b).1.symm] at h
  exact h
 ·intro k a b
  exact .of (c:=c) (.b true) (by simp only [Ay,std,αV,(cb_gtr a b).2.1])
 ·intro k a b
  exact .of (c:=c) (.b false) (by simp only [Ay,std,αV,(cb_gtr a b).2.2.1])
 ·intro k a b
  have h:=M6 (Nat.ble (Nat.succ a) b) c
  rw [show AV.bool (Nat.ble (Nat.succ a) b)=(Ay std .gtr k (Int.negSucc a) (Int.negSucc b)).2 by
   simp only [Ay,std];congr 1;exact (cb_gtr a b).2.2.2.symm] at h
  exact h
 ·intros;exact Hw _ _ _ _
theorem cb_geq (a b:Nat):decide (Int.ofNat b ≤ Int.ofNat a)=Nat.ble b a ∧ decide (Int.negSucc b ≤ Int.ofNat a)=true ∧ decide (Int.ofNat b ≤ Int.negSucc a)=false ∧ decide (Int.negSucc b ≤ Int.negSucc a)=Nat.ble a b:=by
 refine ⟨?_,?_,?_,?_⟩ <;> rw [Bool.eq_iff_iff] <;> simp [Nat.ble_eq,Int.negSucc_eq] <;> omega
def nnGeq (k:IntKind) (a b:Nat) (c:FV → FR):FR:=bB (Nat.ble b a) c
def nzGeq (k:IntKind) (a b:Nat) (c:FV → FR):FR:=c (.b true)
def znGeq (k:IntKind) (a b:Nat) (c:FV → FR):FR:=c (.b false)
def zzGeq (k:IntKind) (a b:Nat) (c:FV → FR):FR:=bB (Nat.ble a b) c
def ssGeq (a b:Nat) (c:FV → FR):FR:=gS .geq a b c
def bGeq (x y:FV) (c:FV → FR):FR:=Jg nnGeq nzGeq znGeq zzGeq ssGeq x y c
theorem bGeq_sv (x y:FV) (c:FV → FR) (σ:AH):Sv (bGeq x y c) c ((Bk std .geq (αV x) (αV y) σ).1,(Bk std .geq (αV x) (αV y) σ).2.1):=by
 refine Cm ?_ ?_ ?_ ?_ ?_
 ·intro k a b
  have h:=M6 (Nat.ble b a) c
  rw [show AV.bool (Nat.ble b a)=(Ay std .geq k (Int.ofNat a) (Int.ofNat b)).2 by
   simp only [Ay,std];congr 1;exact (cb_geq a b).1.symm] at h
  exact h
 ·intro k a b
  exact .of (c:=c) (.b true) (by simp only [Ay,std,αV,(cb_geq a b).2.1])
 ·intro k a b
  exact .of (c:=c) (.b false) (by simp only [Ay,std,αV,(cb_geq a b).2.2.1])
 ·intro k a b
  have h:=M6 (Nat.ble a b) c
  rw [show AV.bool (Nat.ble a b)=(Ay std .geq k (Int.negSucc a) (Int.negSucc b)).2 by
   simp only [Ay,std];congr 1;exact (cb_geq a b).2.2.2.symm] at h
  exact h
 ·intros;exact Hw _ _ _ _
theorem Fw (a b:Nat):decide (Int.ofNat a=Int.ofNat b)=Nat.beq a b ∧ decide (Int.ofNat a=Int.negSucc b)=false ∧ decide (Int.negSucc a=Int.ofNat b)=false ∧ decide (Int.negSucc a=Int.negSucc b)=Nat.beq a b:=by
 refine ⟨?_,?_,?_,?_⟩ <;> rw [Bool.eq_iff_iff] <;> simp [Int.negSucc_eq] <;> try omega
 all_goals exact ⟨fun h=>by subst h;exact Nat.beq_refl _,Nat.eq_of_beq_eq_true⟩
def nnEql (k:IntKind) (a b:Nat) (c:FV → FR):FR:=Bool.rec (c (.b false)) (c (.b true)) (Nat.beq a b)
def nzEql (k:IntKind) (a b:Nat) (c:FV → FR):FR:=c (.b false)
def znEql (k:IntKind) (a b:Nat) (c:FV → FR):FR:=c (.b false)
def zzEql (k:IntKind) (a b:Nat) (c:FV → FR):FR:=Bool.rec (c (.b false)) (c (.b true)) (Nat.beq a b)
def ssEql (a b:Nat) (c:FV → FR):FR:=sEq a b (c (.b true)) (c (.b false))
def bEql (x y:FV) (c:FV → FR):FR:=Jg nnEql nzEql znEql zzEql ssEql x y c
theorem bEql_sv (x y:FV) (c:FV → FR) (σ:AH):Sv (bEql x y c) c ((Bk std .eql (αV x) (αV y) σ).1,(Bk std .eql (αV x) (αV y) σ).2.1):=by
 refine Cm ?_ ?_ ?_ ?_ ?_
 ·intro k a b
  have e:Ay std .eql k (Int.ofNat a) (Int.ofNat b)=(true,.bool (Nat.beq a b)):=by simp only [Ay,std,(Fw a b).1]
  rw [e]
  unfold nnEql
  cases Nat.beq a b <;> exact .of (c:=c) (.b _) rfl
 ·intro k a b
  exact .of (c:=c) (.b false) (by simp only [Ay,std,αV,(Fw a b).2.1,Bool.not_false])
 ·intro k a b
  exact .of (c:=c) (.b false) (by simp only [Ay,std,αV,(Fw a b).2.2.1,Bool.not_false])
 ·intro k a b
  have e:Ay std .eql k (Int.negSucc a) (Int.negSucc b)=(true,.bool (Nat.beq a b)):=by simp only [Ay,std,(Fw a b).2.2.2]
  rw [e]
  unfold zzEql
  cases Nat.beq a b <;> exact .of (c:=c) (.b _) rfl
 ·intro a b
  intro hr
  rcases sEq_cases (show sEq a b (c (.b true)) (c (.b false)) ≠ .bad from hr) with ⟨h1,h2⟩ | ⟨h1,h2⟩
  ·exact ⟨.b true,by simp [Jf,std,αV,h1],h2⟩
  ·exact ⟨.b false,by simp [Jf,std,αV,h1],h2⟩
def nnNeq (k:IntKind) (a b:Nat) (c:FV → FR):FR:=Bool.rec (c (.b true)) (c (.b false)) (Nat.beq a b)
def nzNeq (k:IntKind) (a b:Nat) (c:FV → FR):FR:=c (.b true)
def znNeq (k:IntKind) (a b:Nat) (c:FV → FR):FR:=c (.b true)
def zzNeq (k:IntKind) (a b:Nat) (c:FV → FR):FR:=Bool.rec (c (.b true)) (c (.b false)) (Nat.beq a b)
def ssNeq (a b:Nat) (c:FV → FR):FR:=sEq a b (c (.b false)) (c (.b true))
def bNeq (x y:FV) (c:FV → FR):FR:=Jg nnNeq nzNeq znNeq zzNeq ssNeq x y c
theorem bNeq_sv (x y:FV) (c:FV → FR) (σ:AH):Sv (bNeq x y c) c ((Bk std .neq (αV x) (αV y) σ).1,(Bk std .neq (αV x) (αV y) σ).2.1):=by
 refine Cm ?_ ?_ ?_ ?_ ?_
 ·intro k a b
  have e:Ay std .neq k (Int.ofNat a) (Int.ofNat b)=(true,.bool (!Nat.beq a b)):=by simp only [Ay,std,(Fw a b).1]
  rw [e]
  unfold nnNeq
  cases Nat.beq a b <;> exact .of (c:=c) (.b _) rfl
 ·intro k a b
  exact .of (c:=c) (.b true) (by simp only [Ay,std,αV,(Fw a b).2.1,Bool.not_false])
 ·intro k a b
  exact .of (c:=c) (.b true) (by simp only [Ay,std,αV,(Fw a b).2.2.1,Bool.not_false])
 ·intro k a b
  have e:Ay std .neq k (Int.negSucc a) (Int.negSucc b)=(true,.bool (!Nat.beq a b)):=by simp only [Ay,std,(Fw a b).2.2.2]
  rw [e]
  unfold zzNeq
  cases Nat.beq a b <;> exact .of (c:=c) (.b _) rfl
 ·intro a b
  intro hr
  rcases sEq_cases (show sEq a b (c (.b false)) (c (.b true)) ≠ .bad from hr) with ⟨h1,h2⟩ | ⟨h1,h2⟩
  ·exact ⟨.b false,by simp [Jf,std,αV,h1],h2⟩
  ·exact ⟨.b true,by simp [Jf,std,αV,h1],h2⟩
end
end Go.Proofs.YtfdfdagbeeeomaaDoor.V2
namespace Go.Proofs.YtfdfdagbeeeomaaDoor.V2
open Go
noncomputable section
structure N8 (α:Type) where
 (a0 a1 a2 a3 a4 a5 a6 a7:α)
structure N16 (α:Type) where
 (a0 a1 a2 a3 a4 a5 a6 a7 a8 a9 a10 a11 a12 a13 a14 a15:α)
def N8.L {α:Type} (t:N8 α):List α:=N8.rec (motive:=fun _=>List α) (fun a0 a1 a2 a3 a4 a5 a6 a7=>[a0,a1,a2,a3,a4,a5,a6,a7]) t
def N16.L {α:Type} (t:N16 α):List α:=N16.rec (motive:=fun _=>List α) (fun a0 a1 a2 a3 a4 a5 a6 a7 a8 a9 a10 a11 a12 a13 a14 a15=>[a0,a1,a2,a3,a4,a5,a6,a7,a8,a9,a10,a11,a12,a13,a14,a15]) t
abbrev E1:=N8 FV
abbrev E2:=N8 E1
abbrev E:=N16 E2
def d1:E1:=⟨.o .top,.o .top,.o .top,.o .top,.o .top,.o .top,.o .top,.o .top⟩
def d2:E2:=⟨d1,d1,d1,d1,d1,d1,d1,d1⟩
def pa0 (t:E1) (k:FV → FR):FR:=N8.rec (motive:=fun _=>FR) (fun a0 _ _ _ _ _ _ _=>k a0) t
def pa1 (t:E1) (k:FV → FR):FR:=N8.rec (motive:=fun _=>FR) (fun _ a1 _ _ _ _ _ _=>k a1) t
def pa2 (t:E1) (k:FV → FR):FR:=N8.rec (motive:=fun _=>FR) (fun _ _ a2 _ _ _ _ _=>k a2) t
def pa3 (t:E1) (k:FV → FR):FR:=N8.rec (motive:=fun _=>FR) (fun _ _ _ a3 _ _ _ _=>k a3) t
def pa4 (t:E1) (k:FV → FR):FR:=N8.rec (motive:=fun _=>FR) (fun _ _ _ _ a4 _ _ _=>k a4) t
def pa5 (t:E1) (k:FV → FR):FR:=N8.rec (motive:=fun _=>FR) (fun _ _ _ _ _ a5 _ _=>k a5) t
def pa6 (t:E1) (k:FV → FR):FR:=N8.rec (motive:=fun _=>FR) (fun _ _ _ _ _ _ a6 _=>k a6) t
def pa7 (t:E1) (k:FV → FR):FR:=N8.rec (motive:=fun _=>FR) (fun _ _ _ _ _ _ _ a7=>k a7) t
def paL:List (E1 → (FV → FR) → FR):=[pa0,pa1,pa2,pa3,pa4,pa5,pa6,pa7]
def paN (i:Nat):E1 → (FV → FR) → FR:=paL.getD i fun _ _=>.bad
theorem pa_at:∀ (i:Nat),i < 8 → ∀ (t:E1) (k:FV → FR),paN i t k=k (t.L.getD i (.o .top))
 | 0,_=>fun t k=>by cases t;rfl
 | 1,_=>fun t k=>by cases t;rfl
 | 2,_=>fun t k=>by cases t;rfl
 | 3,_=>fun t k=>by cases t;rfl
 | 4,_=>fun t k=>by cases t;rfl
 | 5,_=>fun t k=>by cases t;rfl
 | 6,_=>fun t k=>by cases t;rfl
 | 7,_=>fun t k=>by cases t;rfl
 | n + 8,h=>absurd h (by omega)
def pb0 (t:E2) (k:E1 → FR):FR:=N8.rec (motive:=fun _=>FR) (fun a0 _ _ _ _ _ _ _=>k a0) t
def pb1 (t:E2) (k:E1 → FR):FR:=N8.rec (motive:=fun _=>FR) (fun _ a1 _ _ _ _ _ _=>k a1) t
def pb2 (t:E2) (k:E1 → FR):FR:=N8.rec (motive:=fun _=>FR) (fun _ _ a2 _ _ _ _ _=>k a2) t
def pb3 (t:E2) (k:E1 → FR):FR:=N8.rec (motive:=fun _=>FR) (fun _ _ _ a3 _ _ _ _=>k a3) t
def pb4 (t:E2) (k:E1 → FR):FR:=N8.rec (motive:=fun _=>FR) (fun _ _ _ _ a4 _ _ _=>k a4) t
def pb5 (t:E2) (k:E1 → FR):FR:=N8.rec (motive:=fun _=>FR) (fun _ _ _ _ _ a5 _ _=>k a5) t
def pb6 (t:E2) (k:E1 → FR):FR:=N8.rec (motive:=fun _=>FR) (fun _ _ _ _ _ _ a6 _=>k a6) t
def pb7 (t:E2) (k:E1 → FR):FR:=N8.rec (motive:=fun _=>FR) (fun _ _ _ _ _ _ _ a7=>k a7) t
def pbL:List (E2 → (E1 → FR) → FR):=[pb0,pb1,pb2,pb3,pb4,pb5,pb6,pb7]
def pbN (i:Nat):E2 → (E1 → FR) → FR:=pbL.getD i fun _ _=>.bad
theorem pb_at:∀ (i:Nat),i < 8 → ∀ (t:E2) (k:E1 → FR),pbN i t k=k (t.L.getD i d1)
 | 0,_=>fun t k=>by cases t;rfl
 | 1,_=>fun t k=>by cases t;rfl
 | 2,_=>fun t k=>by cases t;rfl
 | 3,_=>fun t k=>by cases t;rfl
 | 4,_=>fun t k=>by cases t;rfl
 | 5,_=>fun t k=>by cases t;rfl
 | 6,_=>fun t k=>by cases t;rfl
 | 7,_=>fun t k=>by cases t;rfl
 | n + 8,h=>absurd h (by omega)
def pc0 (t:E) (k:E2 → FR):FR:=N16.rec (motive:=fun _=>FR) (fun a0 _ _ _ _ _ _ _ _ _ _ _ _ _ _ _=>k a0) t
def pc1 (t:E) (k:E2 → FR):FR:=N16.rec (motive:=fun _=>FR) (fun _ a1 _ _ _ _ _ _ _ _ _ _ _ _ _ _=>k a1) t
def pc2 (t:E) (k:E2 → FR):FR:=N16.rec (motive:=fun _=>FR) (fun _ _ a2 _ _ _ _ _ _ _ _ _ _ _ _ _=>k a2) t
def pc3 (t:E) (k:E2 → FR):FR:=N16.rec (motive:=fun _=>FR) (fun _ _ _ a3 _ _ _ _ _ _ _ _ _ _ _ _=>k a3) t
def pc4 (t:E) (k:E2 → FR):FR:=N16.rec (motive:=fun _=>FR) (fun _ _ _ _ a4 _ _ _ _ _ _ _ _ _ _ _=>k a4) t
def pc5 (t:E) (k:E2 → FR):FR:=N16.rec (motive:=fun _=>FR) (fun _ _ _ _ _ a5 _ _ _ _ _ _ _ _ _ _=>k a5) t
def pc6 (t:E) (k:E2 → FR):FR:=N16.rec (motive:=fun _=>FR) (fun _ _ _ _ _ _ a6 _ _ _ _ _ _ _ _ _=>k a6) t
def pc7 (t:E) (k:E2 → FR):FR:=N16.rec (motive:=fun _=>FR) (fun _ _ _ _ _ _ _ a7 _ _ _ _ _ _ _ _=>k a7) t
def pc8 (t:E) (k:E2 → FR):FR:=N16.rec (motive:=fun _=>FR) (fun _ _ _ _ _ _ _ _ a8 _ _ _ _ _ _ _=>k a8) t
def pc9 (t:E) (k:E2 → FR):FR:=N16.rec (motive:=fun _=>FR) (fun _ _ _ _ _ _ _ _ _ a9 _ _ _ _ _ _=>k a9) t
def pc10 (t:E) (k:E2 → FR):FR:=N16.rec (motive:=fun _=>FR) (fun _ _ _ _ _ _ _ _ _ _ a10 _ _ _ _ _=>k a10) t
def pc11 (t:E) (k:E2 → FR):FR:=N16.rec (motive:=fun _=>FR) (fun _ _ _ _ _ _ _ _ _ _ _ a11 _ _ _ _=>k a11) t
def pc12 (t:E) (k:E2 → FR):FR:=N16.rec (motive:=fun _=>FR) (fun _ _ _ _ _ _ _ _ _ _ _ _ a12 _ _ _=>k a12) t
def pc13 (t:E) (k:E2 → FR):FR:=N16.rec (motive:=fun _=>FR) (fun _ _ _ _ _ _ _ _ _ _ _ _ _ a13 _ _=>k a13) t
def pc14 (t:E) (k:E2 → FR):FR:=N16.rec (motive:=fun _=>FR) (fun _ _ _ _ _ _ _ _ _ _ _ _ _ _ a14 _=>k a14) t
def pc15 (t:E) (k:E2 → FR):FR:=N16.rec (motive:=fun _=>FR) (fun _ _ _ _ _ _ _ _ _ _ _ _ _ _ _ a15=>k a15) t
def pcL:List (E → (E2 → FR) → FR):=[pc0,pc1,pc2,pc3,pc4,pc5,pc6,pc7,pc8,pc9,pc10,pc11,pc12,pc13,pc14,pc15]
def pcN (i:Nat):E → (E2 → FR) → FR:=pcL.getD i fun _ _=>.bad
theorem pc_at:∀ (i:Nat),i < 16 → ∀ (t:E) (k:E2 → FR),pcN i t k=k (t.L.getD i d2)
 | 0,_=>fun t k=>by cases t;rfl
 | 1,_=>fun t k=>by cases t;rfl
 | 2,_=>fun t k=>by cases t;rfl
 | 3,_=>fun t k=>by cases t;rfl
 | 4,_=>fun t k=>by cases t;rfl
 | 5,_=>fun t k=>by cases t;rfl
 | 6,_=>fun t k=>by cases t;rfl
 | 7,_=>fun t k=>by cases t;rfl
 | 8,_=>fun t k=>by cases t;rfl
 | 9,_=>fun t k=>by cases t;rfl
 | 10,_=>fun t k=>by cases t;rfl
 | 11,_=>fun t k=>by cases t;rfl
 | 12,_=>fun t k=>by cases t;rfl
 | 13,_=>fun t k=>by cases t;rfl
 | 14,_=>fun t k=>by cases t;rfl
 | 15,_=>fun t k=>by cases t;rfl
 | n + 16,h=>absurd h (by omega)
def wa0 (t:E1) (x:FV) (k:E1 → FR):FR:=N8.rec (motive:=fun _=>FR) (fun _ a1 a2 a3 a4 a5 a6 a7=>k ⟨x,a1,a2,a3,a4,a5,a6,a7⟩) t
def wa1 (t:E1) (x:FV) (k:E1 → FR):FR:=N8.rec (motive:=fun _=>FR) (fun a0 _ a2 a3 a4 a5 a6 a7=>k ⟨a0,x,a2,a3,a4,a5,a6,a7⟩) t
def wa2 (t:E1) (x:FV) (k:E1 → FR):FR:=N8.rec (motive:=fun _=>FR) (fun a0 a1 _ a3 a4 a5 a6 a7=>k ⟨a0,a1,x,a3,a4,a5,a6,a7⟩) t
def wa3 (t:E1) (x:FV) (k:E1 → FR):FR:=N8.rec (motive:=fun _=>FR) (fun a0 a1 a2 _ a4 a5 a6 a7=>k ⟨a0,a1,a2,x,a4,a5,a6,a7⟩) t
def wa4 (t:E1) (x:FV) (k:E1 → FR):FR:=N8.rec (motive:=fun _=>FR) (fun a0 a1 a2 a3 _ a5 a6 a7=>k ⟨a0,a1,a2,a3,x,a5,a6,a7⟩) t
def wa5 (t:E1) (x:FV) (k:E1 → FR):FR:=N8.rec (motive:=fun _=>FR) (fun a0 a1 a2 a3 a4 _ a6 a7=>k ⟨a0,a1,a2,a3,a4,x,a6,a7⟩) t
def wa6 (t:E1) (x:FV) (k:E1 → FR):FR:=N8.rec (motive:=fun _=>FR) (fun a0 a1 a2 a3 a4 a5 _ a7=>k ⟨a0,a1,a2,a3,a4,a5,x,a7⟩) t
def wa7 (t:E1) (x:FV) (k:E1 → FR):FR:=N8.rec (motive:=fun _=>FR) (fun a0 a1 a2 a3 a4 a5 a6 _=>k ⟨a0,a1,a2,a3,a4,a5,a6,x⟩) t
def waL:List (E1 → FV → (E1 → FR) → FR):=[wa0,wa1,wa2,wa3,wa4,wa5,wa6,wa7]
def waN (i:Nat):E1 → FV → (E1 → FR) → FR:=waL.getD i fun _ _ _=>.bad
theorem wa_at:∀ (i:Nat),i < 8 → ∀ (t:E1) (x:FV) (k:E1 → FR),∃ t',waN i t x k=k t' ∧ t'.L=t.L.set i x
 | 0,_=>fun t x k=>by cases t;exact ⟨_,rfl,rfl⟩
 | 1,_=>fun t x k=>by cases t;exact ⟨_,rfl,rfl⟩
 | 2,_=>fun t x k=>by cases t;exact ⟨_,rfl,rfl⟩
 | 3,_=>fun t x k=>by cases t;exact ⟨_,rfl,rfl⟩
 | 4,_=>fun t x k=>by cases t;exact ⟨_,rfl,rfl⟩
 | 5,_=>fun t x k=>by cases t;exact ⟨_,rfl,rfl⟩
 | 6,_=>fun t x k=>by cases t;exact ⟨_,rfl,rfl⟩
 | 7,_=>fun t x k=>by cases t;exact ⟨_,rfl,rfl⟩
 | n + 8,h=>absurd h (by omega)
def wb0 (t:E2) (x:E1) (k:E2 → FR):FR:=N8.rec (motive:=fun _=>FR) (fun _ a1 a2 a3 a4 a5 a6 a7=>k ⟨x,a1,a2,a3,a4,a5,a6,a7⟩) t
def wb1 (t:E2) (x:E1) (k:E2 → FR):FR:=N8.rec (motive:=fun _=>FR) (fun a0 _ a2 a3 a4 a5 a6 a7=>k ⟨a0,x,a2,a3,a4,a5,a6,a7⟩) t
def wb2 (t:E2) (x:E1) (k:E2 → FR):FR:=N8.rec (motive:=fun _=>FR) (fun a0 a1 _ a3 a4 a5 a6 a7=>k ⟨a0,a1,x,a3,a4,a5,a6,a7⟩) t
def wb3 (t:E2) (x:E1) (k:E2 → FR):FR:=N8.rec (motive:=fun _=>FR) (fun a0 a1 a2 _ a4 a5 a6 a7=>k ⟨a0,a1,a2,x,a4,a5,a6,a7⟩) t
def wb4 (t:E2) (x:E1) (k:E2 → FR):FR:=N8.rec (motive:=fun _=>FR) (fun a0 a1 a2 a3 _ a5 a6 a7=>k ⟨a0,a1,a2,a3,x,a5,a6,a7⟩) t
def wb5 (t:E2) (x:E1) (k:E2 → FR):FR:=N8.rec (motive:=fun _=>FR) (fun a0 a1 a2 a3 a4 _ a6 a7=>k ⟨a0,a1,a2,a3,a4,x,a6,a7⟩) t
def wb6 (t:E2) (x:E1) (k:E2 → FR):FR:=N8.rec (motive:=fun _=>FR) (fun a0 a1 a2 a3 a4 a5 _ a7=>k ⟨a0,a1,a2,a3,a4,a5,x,a7⟩) t
def wb7 (t:E2) (x:E1) (k:E2 → FR):FR:=N8.rec (motive:=fun _=>FR) (fun a0 a1 a2 a3 a4 a5 a6 _=>k ⟨a0,a1,a2,a3,a4,a5,a6,x⟩) t
def wbL:List (E2 → E1 → (E2 → FR) → FR):=[wb0,wb1,wb2,wb3,wb4,wb5,wb6,wb7]
def wbN (i:Nat):E2 → E1 → (E2 → FR) → FR:=wbL.getD i fun _ _ _=>.bad
theorem wb_at:∀ (i:Nat),i < 8 → ∀ (t:E2) (x:E1) (k:E2 → FR),∃ t',wbN i t x k=k t' ∧ t'.L=t.L.set i x
 | 0,_=>fun t x k=>by cases t;exact ⟨_,rfl,rfl⟩
 | 1,_=>fun t x k=>by cases t;exact ⟨_,rfl,rfl⟩
 | 2,_=>fun t x k=>by cases t;exact ⟨_,rfl,rfl⟩
 | 3,_=>fun t x k=>by cases t;exact ⟨_,rfl,rfl⟩
 | 4,_=>fun t x k=>by cases t;exact ⟨_,rfl,rfl⟩
 | 5,_=>fun t x k=>by cases t;exact ⟨_,rfl,rfl⟩
 | 6,_=>fun t x k=>by cases t;exact ⟨_,rfl,rfl⟩
 | 7,_=>fun t x k=>by cases t;exact ⟨_,rfl,rfl⟩
 | n + 8,h=>absurd h (by omega)
def wc0 (t:E) (x:E2) (k:E → FR):FR:=N16.rec (motive:=fun _=>FR) (fun _ a1 a2 a3 a4 a5 a6 a7 a8 a9 a10 a11 a12 a13 a14 a15=>k ⟨x,a1,a2,a3,a4,a5,a6,a7,a8,a9,a10,a11,a12,a13,a14,a15⟩) t
def wc1 (t:E) (x:E2) (k:E → FR):FR:=N16.rec (motive:=fun _=>FR) (fun a0 _ a2 a3 a4 a5 a6 a7 a8 a9 a10 a11 a12 a13 a14 a15=>k ⟨a0,x,a2,a3,a4,a5,a6,a7,a8,a9,a10,a11,a12,a13,a14,a15⟩) t
def wc2 (t:E) (x:E2) (k:E → FR):FR:=N16.rec (motive:=fun _=>FR) (fun a0 a1 _ a3 a4 a5 a6 a7 a8 a9 a10 a11 a12 a13 a14 a15=>k ⟨a0,a1,x,a3,a4,a5,a6,a7,a8,a9,a10,a11,a12,a13,a14,a15⟩) t
def wc3 (t:E) (x:E2) (k:E → FR):FR:=N16.rec (motive:=fun _=>FR) (fun a0 a1 a2 _ a4 a5 a6 a7 a8 a9 a10 a11 a12 a13 a14 a15=>k ⟨a0,a1,a2,x,a4,a5,a6,a7,a8,a9,a10,a11,a12,a13,a14,a15⟩) t
def wc4 (t:E) (x:E2) (k:E → FR):FR:=N16.rec (motive:=fun _=>FR) (fun a0 a1 a2 a3 _ a5 a6 a7 a8 a9 a10 a11 a12 a13 a14 a15=>k ⟨a0,a1,a2,a3,x,a5,a6,a7,a8,a9,a10,a11,a12,a13,a14,a15⟩) t
def wc5 (t:E) (x:E2) (k:E → FR):FR:=N16.rec (motive:=fun _=>FR) (fun a0 a1 a2 a3 a4 _ a6 a7 a8 a9 a10 a11 a12 a13 a14 a15=>k ⟨a0,a1,a2,a3,a4,x,a6,a7,a8,a9,a10,a11,a12,a13,a14,a15⟩) t
def wc6 (t:E) (x:E2) (k:E → FR):FR:=N16.rec (motive:=fun _=>FR) (fun a0 a1 a2 a3 a4 a5 _ a7 a8 a9 a10 a11 a12 a13 a14 a15=>k ⟨a0,a1,a2,a3,a4,a5,x,a7,a8,a9,a10,a11,a12,a13,a14,a15⟩) t
def wc7 (t:E) (x:E2) (k:E → FR):FR:=N16.rec (motive:=fun _=>FR) (fun a0 a1 a2 a3 a4 a5 a6 _ a8 a9 a10 a11 a12 a13 a14 a15=>k ⟨a0,a1,a2,a3,a4,a5,a6,x,a8,a9,a10,a11,a12,a13,a14,a15⟩) t
def wc8 (t:E) (x:E2) (k:E → FR):FR:=N16.rec (motive:=fun _=>FR) (fun a0 a1 a2 a3 a4 a5 a6 a7 _ a9 a10 a11 a12 a13 a14 a15=>k ⟨a0,a1,a2,a3,a4,a5,a6,a7,x,a9,a10,a11,a12,a13,a14,a15⟩) t
def wc9 (t:E) (x:E2) (k:E → FR):FR:=N16.rec (motive:=fun _=>FR) (fun a0 a1 a2 a3 a4 a5 a6 a7 a8 _ a10 a11 a12 a13 a14 a15=>k ⟨a0,a1,a2,a3,a4,a5,a6,a7,a8,x,a10,a11,a12,a13,a14,a15⟩) t
def wc10 (t:E) (x:E2) (k:E → FR):FR:=N16.rec (motive:=fun _=>FR) (fun a0 a1 a2 a3 a4 a5 a6 a7 a8 a9 _ a11 a12 a13 a14 a15=>k ⟨a0,a1,a2,a3,a4,a5,a6,a7,a8,a9,x,a11,a12,a13,a14,a15⟩) t
def wc11 (t:E) (x:E2) (k:E → FR):FR:=N16.rec (motive:=fun _=>FR) (fun a0 a1 a2 a3 a4 a5 a6 a7 a8 a9 a10 _ a12 a13 a14 a15=>k ⟨a0,a1,a2,a3,a4,a5,a6,a7,a8,a9,a10,x,a12,a13,a14,a15⟩) t
def wc12 (t:E) (x:E2) (k:E → FR):FR:=N16.rec (motive:=fun _=>FR) (fun a0 a1 a2 a3 a4 a5 a6 a7 a8 a9 a10 a11 _ a13 a14 a15=>k ⟨a0,a1,a2,a3,a4,a5,a6,a7,a8,a9,a10,a11,x,a13,a14,a15⟩) t
def wc13 (t:E) (x:E2) (k:E → FR):FR:=N16.rec (motive:=fun _=>FR) (fun a0 a1 a2 a3 a4 a5 a6 a7 a8 a9 a10 a11 a12 _ a14 a15=>k ⟨a0,a1,a2,a3,a4,a5,a6,a7,a8,a9,a10,a11,a12,x,a14,a15⟩) t
def wc14 (t:E) (x:E2) (k:E → FR):FR:=N16.rec (motive:=fun _=>FR) (fun a0 a1 a2 a3 a4 a5 a6 a7 a8 a9 a10 a11 a12 a13 _ a15=>k ⟨a0,a1,a2,a3,a4,a5,a6,a7,a8,a9,a10,a11,a12,a13,x,a15⟩) t
def wc15 (t:E) (x:E2) (k:E → FR):FR:=N16.rec (motive:=fun _=>FR) (fun a0 a1 a2 a3 a4 a5 a6 a7 a8 a9 a10 a11 a12 a13 a14 _=>k ⟨a0,a1,a2,a3,a4,a5,a6,a7,a8,a9,a10,a11,a12,a13,a14,x⟩) t
def wcL:List (E → E2 → (E → FR) → FR):=[wc0,wc1,wc2,wc3,wc4,wc5,wc6,wc7,wc8,wc9,wc10,wc11,wc12,wc13,wc14,wc15]
def wcN (i:Nat):E → E2 → (E → FR) → FR:=wcL.getD i fun _ _ _=>.bad
theorem wc_at:∀ (i:Nat),i < 16 → ∀ (t:E) (x:E2) (k:E → FR),∃ t',wcN i t x k=k t' ∧ t'.L=t.L.set i x
 | 0,_=>fun t x k=>by cases t;exact ⟨_,rfl,rfl⟩
 | 1,_=>fun t x k=>by cases t;exact ⟨_,rfl,rfl⟩
 | 2,_=>fun t x k=>by cases t;exact ⟨_,rfl,rfl⟩
 | 3,_=>fun t x k=>by cases t;exact ⟨_,rfl,rfl⟩
 | 4,_=>fun t x k=>by cases t;exact ⟨_,rfl,rfl⟩
 | 5,_=>fun t x k=>by cases t;exact ⟨_,rfl,rfl⟩
 | 6,_=>fun t x k=>by cases t;exact ⟨_,rfl,rfl⟩
 | 7,_=>fun t x k=>by cases t;exact ⟨_,rfl,rfl⟩
 | 8,_=>fun t x k=>by cases t;exact ⟨_,rfl,rfl⟩
 | 9,_=>fun t x k=>by cases t;exact ⟨_,rfl,rfl⟩
 | 10,_=>fun t x k=>by cases t;exact ⟨_,rfl,rfl⟩
 | 11,_=>fun t x k=>by cases t;exact ⟨_,rfl,rfl⟩
 | 12,_=>fun t x k=>by cases t;exact ⟨_,rfl,rfl⟩
 | 13,_=>fun t x k=>by cases t;exact ⟨_,rfl,rfl⟩
 | 14,_=>fun t x k=>by cases t;exact ⟨_,rfl,rfl⟩
 | 15,_=>fun t x k=>by cases t;exact ⟨_,rfl,rfl⟩
 | n + 16,h=>absurd h (by omega)
theorem N8.L_length {α:Type} (t:N8 α):t.L.length=8:=by cases t;rfl
theorem N16.L_length {α:Type} (t:N16 α):t.L.length=16:=by cases t;rfl
def E.at (e:E) (n:Nat):FV:=((((N16.L e).getD (n / 64) d2).L).getD (n / 8 % 8) d1).L.getD (n % 8) (.o .top)
abbrev Rd:=E → (FV → FR) → FR
abbrev Wr:=E → FV → (E → FR) → FR
def rdE (n:Nat):Rd:=fun e k=>pcN (n / 64) e fun a=>pbN (n / 8 % 8) a fun b=>paN (n % 8) b k
def wrE (n:Nat):Wr:=fun e x k=>pcN (n / 64) e fun a=>pbN (n / 8 % 8) a fun b=>waN (n % 8) b x fun b=>wbN (n / 8 % 8) a b fun a=>wcN (n / 64) e a k
theorem rdE_eq {n:Nat} (h:n < 1024) (e:E) (k:FV → FR):rdE n e k=k (e.at n):=by
 unfold rdE
 rw [pc_at _ (by omega),pb_at _ (Nat.mod_lt _ (by omega)),pa_at _ (Nat.mod_lt _ (by omega))];rfl
theorem getD_set {α:Type} {l:List α} {i j:Nat} {x d:α} (hi:i < l.length):(l.set i x).getD j d=if j=i then x else l.getD j d:=by
 by_cases h:j=i
 ·subst h;rw [if_pos rfl,List.getD_eq_getElem?_getD,List.getElem?_set_self hi];rfl
 ·rw [if_neg h,List.getD_eq_getElem?_getD,List.getElem?_set_ne (Ne.symm h),← List.getD_eq_getElem?_getD]
theorem wrE_eq {n:Nat} (h:n < 1024) (e:E) (x:FV) (k:E → FR):∃ e',wrE n e x k=k e' ∧ ∀ m,m < 1024 → e'.at m=if m=n then x else e.at m:=by
 unfold wrE
 rw [pc_at _ (by omega),pb_at _ (Nat.mod_lt _ (by omega))]
 obtain ⟨b',h1,h2⟩:=wa_at (n % 8) (Nat.mod_lt _ (by omega)) (((N16.L e).getD (n / 64) d2).L.getD (n / 8 % 8) d1) x fun b=>wbN (n / 8 % 8) ((N16.L e).getD (n / 64) d2) b fun a=>wcN (n / 64) e a k
 rw [h1]
 obtain ⟨a',h3,h4⟩:=wb_at (n / 8 % 8) (Nat.mod_lt _ (by omega)) ((N16.L e).getD (n / 64) d2) b' fun a=>wcN (n / 64) e a k
 rw [h3]
 obtain ⟨e',h5,h6⟩:=wc_at (n / 64) (by omega) e a' k
 refine ⟨e',h5,fun m hm=>?_⟩
 unfold E.at
 rw [h6,getD_set (by rw [N16.L_length];omega)]
 by_cases hc:m / 64=n / 64
 ·rw [if_pos hc,h4,getD_set (by rw [N8.L_length];omega)]
  by_cases hb:m / 8 % 8=n / 8 % 8
  ·rw [if_pos hb,h2,getD_set (by rw [N8.L_length];omega)]
   by_cases ha:m % 8=n % 8
   ·rw [if_pos ha,if_pos (by omega)]
   ·rw [if_neg ha,if_neg (by omega),hb,hc]
  ·rw [if_neg hb,if_neg (by omega),hc]
 ·rw [if_neg hc,if_neg (by omega)]
def e0:E:=⟨d2,d2,d2,d2,d2,d2,d2,d2,d2,d2,d2,d2,d2,d2,d2,d2⟩
theorem rep_getD {α:Type} (n i:Nat) (d:α):(List.replicate n d).getD i d=d:=by
 rw [List.getD_eq_getElem?_getD,List.getElem?_replicate];split <;> rfl
theorem e0_at (n:Nat):e0.at n=.o .top:=by
 unfold E.at
 rw [show N16.L e0=List.replicate 16 d2 from rfl,rep_getD,show N8.L d2=List.replicate 8 d1 from rfl,rep_getD,show N8.L d1=List.replicate 8 (.o .top) from rfl,rep_getD]
/-! Values,numbers,lists forced to their ends. -/
def fK (k:IntKind) (c:IntKind → FR):FR:=IntKind.rec (motive:=fun _=>FR) (c .i8) (c .i16) (c .i32) (c .i64) (c .u8) (c .u16) (c .u32) (c .u64) k
theorem fK_eq (k:IntKind) (c:IntKind → FR):fK k c=c k:=by cases k <;> rfl
def fB (b:Bool) (c:Bool → FR):FR:=Bool.rec (c false) (c true) b
theorem fB_eq (b:Bool) (c:Bool → FR):fB b c=c b:=by cases b <;> rfl
def fI (i:Int) (c:Int → FR):FR:=Int.rec (fun m=>fN m fun m=>c (.ofNat m)) (fun m=>fN m fun m=>c (.negSucc m)) i
theorem fI_eq (i:Int) (c:Int → FR):fI i c=c i:=by
 cases i with
 | ofNat m=>show fN m (fun m=>c (.ofNat m))=_;rw [Aj]
 | negSucc m=>show fN m (fun m=>c (.negSucc m))=_;rw [Aj]
def fIs (l:List Int):(List Int → FR) → FR:=List.rec (motive:=fun _=>(List Int → FR) → FR) (fun c=>c []) (fun i _ ih c=>fI i fun i=>ih fun l=>c (i :: l)) l
theorem fIs_eq:∀ (l:List Int) (c:List Int → FR),fIs l c=c l
 | [],_=>rfl
 | i :: l,c=>by
  show fI i (fun i=>fIs l fun l=>c (i :: l))=_
  rw [fI_eq,fIs_eq l]
def fFn (f:Fn) (c:Fn → FR):FR:=Fn.rec (motive:=fun _=>FR) (fun f=>fN f fun f=>c (.func f)) (fun s=>c (.method s)) (fun t s=>c (.methodOf t s)) (fun t p f q=>c (.via t p f q)) (fun l=>c (.yield l)) f
def fNl (j:Nl) (c:Nl → FR):FR:=Nl.rec (motive:=fun _=>FR) (c .top) (c .ptr) (c .sl) (c .map) (c .fn) (c .ifc) j
theorem fNl_eq (j:Nl) (c:Nl → FR):fNl j c=c j:=by cases j <;> rfl
def fV (v:FV):(FV → FR) → FR:=FV.rec (motive_1:=fun _=>(FV → FR) → FR) (motive_2:=fun _=>(List FV → FR) → FR)
 (fun k m c=>fK k fun k=>fN m fun m=>c (.n k m)) (fun k m c=>fK k fun k=>fN m fun m=>c (.z k m)) (fun t c=>fB t fun t=>c (.b t)) (fun s c=>fN s fun s=>c (.s s))
 (fun b o c=>fN b fun b=>fN o fun o=>c (.p b o)) (fun b o n k e z c=>fN b fun b=>fN o fun o=>fN n fun n=>fN k fun k=>fB e fun e=>fN z fun z=>c (.sl b o n k e z)) (fun b c=>fN b fun b=>c (.m b)) (fun b c=>fN b fun b=>c (.y b))
 (fun f _ _ ix iy c=>fFn f fun f=>ix fun x=>iy fun y=>c (.fn f x y)) (fun t _ iv c=>fN t fun t=>iv fun v=>c (.ifc t v)) (fun _ il c=>il fun l=>c (.agg l)) (fun s c=>fN s fun s=>c (.bs s))
 (fun k l c=>fK k fun k=>fIs l fun l=>c (.ints k l)) (fun _ il c=>il fun l=>c (.tup l)) (fun j c=>fNl j fun j=>c (.o j))
 (fun c=>c []) (fun _ _ iv il c=>iv fun v=>il fun l=>c (v :: l)) v
def fVs (l:List FV):(List FV → FR) → FR:=FV.rec_1 (motive_1:=fun _=>(FV → FR) → FR) (motive_2:=fun _=>(List FV → FR) → FR)
 (fun k m c=>fK k fun k=>fN m fun m=>c (.n k m)) (fun k m c=>fK k fun k=>fN m fun m=>c (.z k m)) (fun t c=>fB t fun t=>c (.b t)) (fun s c=>fN s fun s=>c (.s s))
 (fun b o c=>fN b fun b=>fN o fun o=>c (.p b o)) (fun b o n k e z c=>fN b fun b=>fN o fun o=>fN n fun n=>fN k fun k=>fB e fun e=>fN z fun z=>c (.sl b o n k e z)) (fun b c=>fN b fun b=>c (.m b)) (fun b c=>fN b fun b=>c (.y b))
 (fun f _ _ ix iy c=>fFn f fun f=>ix fun x=>iy fun y=>c (.fn f x y)) (fun t _ iv c=>fN t fun t=>iv fun v=>c (.ifc t v)) (fun _ il c=>il fun l=>c (.agg l)) (fun s c=>fN s fun s=>c (.bs s))
 (fun k l c=>fK k fun k=>fIs l fun l=>c (.ints k l)) (fun _ il c=>il fun l=>c (.tup l)) (fun j c=>fNl j fun j=>c (.o j))
 (fun c=>c []) (fun _ _ iv il c=>iv fun v=>il fun l=>c (v :: l)) l
theorem fFn_eq (f:Fn) (c:Fn → FR):fFn f c=c f:=by
 cases f with
 | func f=>show fN f (fun f=>c (.func f))=_;rw [Aj]
 | _=>rfl
mutual
theorem Fu:∀ (v:FV) (c:FV → FR),fV v c=c v
 | .n k m,c=>by show (fK k fun k=>fN m fun m=>c (.n k m))=_;rw [fK_eq,Aj]
 | .z k m,c=>by show (fK k fun k=>fN m fun m=>c (.z k m))=_;rw [fK_eq,Aj]
 | .b t,c=>by show (fB t fun t=>c (.b t))=_;rw [fB_eq]
 | .s s,c=>by show (fN s fun s=>c (.s s))=_;rw [Aj]
 | .p b o,c=>by show (fN b fun b=>fN o fun o=>c (.p b o))=_;rw [Aj,Aj]
 | .sl b o n k e z,c=>by show (fN b fun b=>fN o fun o=>fN n fun n=>fN k fun k=>fB e fun e=>fN z fun z=>c (.sl b o n k e z))=_;rw [Aj,Aj,Aj,Aj,fB_eq,Aj]
 | .m b,c=>by show (fN b fun b=>c (.m b))=_;rw [Aj]
 | .y b,c=>by show (fN b fun b=>c (.y b))=_;rw [Aj]
 | .fn f x y,c=>by show (fFn f fun f=>fVs x fun x=>fVs y fun y=>c (.fn f x y))=_;rw [fFn_eq,Ml x,Ml y]
 | .ifc t v,c=>by show (fN t fun t=>fV v fun v=>c (.ifc t v))=_;rw [Aj,Fu v]
 | .agg l,c=>by show (fVs l fun l=>c (.agg l))=_;rw [Ml l]
 | .bs s,c=>by show (fN s fun s=>c (.bs s))=_;rw [Aj]
 | .ints k l,c=>by show (fK k fun k=>fIs l fun l=>c (.ints k l))=_;rw [fK_eq,fIs_eq]
 | .tup l,c=>by show (fVs l fun l=>c (.tup l))=_;rw [Ml l]
 | .o j,c=>by show (fNl j fun j=>c (.o j))=_;rw [fNl_eq]
theorem Ml:∀ (l:List FV) (c:List FV → FR),fVs l c=c l
 | [],_=>rfl
 | v :: l,c=>by show (fV v fun v=>fVs l fun l=>c (v :: l))=_;rw [Fu v,Ml l]
end
def fPs (l:List (FV × FV)):(List (FV × FV) → FR) → FR:=List.rec (motive:=fun _=>(List (FV × FV) → FR) → FR) (fun c=>c []) (fun p _ ih c=>Prod.rec (fun x y=>fV x fun x=>fV y fun y=>ih fun l=>c ((x,y) :: l)) p) l
theorem fPs_eq:∀ (l:List (FV × FV)) (c:List (FV × FV) → FR),fPs l c=c l
 | [],_=>rfl
 | p :: l,c=>by
  show (fV p.1 fun x=>fV p.2 fun y=>fPs l fun l=>c ((x,y) :: l))=_
  rw [Fu,Fu,fPs_eq l]
def fTl (t:Tl) (c:Tl → FR):FR:=Tl.rec (motive:=fun _=>FR) (c .exact) (c .more) (c .ro) t
theorem fTl_eq (t:Tl) (c:Tl → FR):fTl t c=c t:=by cases t <;> rfl
def fO (o:FObj) (c:FObj → FR):FR:=FObj.rec (motive:=fun _=>FR) (c .dead) (fun l e t=>fVs l fun l=>fN e fun e=>fTl t fun t=>c (.cells l e t)) (fun s e t=>fN s fun s=>fN e fun e=>fTl t fun t=>c (.bs s e t)) (fun k l e t=>fK k fun k=>fIs l fun l=>fN e fun e=>fTl t fun t=>c (.ints k l e t)) (fun l=>fPs l fun l=>c (.map l)) (c .hid) o
theorem D6 (o:FObj) (c:FObj → FR):fO o c=c o:=by
 cases o with
 | dead=>rfl
 | cells l e t=>show (fVs l fun l=>fN e fun e=>fTl t fun t=>c (.cells l e t))=_;rw [Ml,Aj,fTl_eq]
 | bs s e t=>show (fN s fun s=>fN e fun e=>fTl t fun t=>c (.bs s e t))=_;rw [Aj,Aj,fTl_eq]
 | ints k l e t=>show (fK k fun k=>fIs l fun l=>fN e fun e=>fTl t fun t=>c (.ints k l e t))=_;rw [fK_eq,fIs_eq,Aj,fTl_eq]
 | map l=>show (fPs l fun l=>c (.map l))=_;rw [fPs_eq]
 | hid=>rfl
def βH (σ:AH):FH:=⟨σ.next,σ.mem.map βO⟩
theorem T.map_map_id {α β:Type} {f:α → β} {g:β → α} (h:∀ x,g (f x)=x):∀ t:T α,(t.map f).map g=t
 | .leaf=>rfl
 | .node v l r=>by
  rw [T.map,T.map,T.map_map_id h l,T.map_map_id h r]
  cases v with
  | none=>rfl
  | some x=>simp [h]
theorem αβH (σ:AH):αH (βH σ)=σ:=by
 obtain ⟨n,m⟩:=σ
 show (⟨n,(m.map βO).map αO⟩:AH)=_
 rw [T.map_map_id αβO]
def slV (r:Bool × AV) (c:FV → FR):FR:=Prod.rec (fun ok v=>Bool.rec .bad (fV (βV v) c) ok) r
theorem Dj (r:Bool × AV) (c:FV → FR):Sv (slV r c) c r:=by
 obtain ⟨ok,v⟩:=r
 cases ok
 ·exact .bad
 ·show Sv (fV (βV v) c) c _
  rw [Fu];exact .of (c:=c) (βV v) (by rw [αβ])
end
end Go.Proofs.YtfdfdagbeeeomaaDoor.V2
