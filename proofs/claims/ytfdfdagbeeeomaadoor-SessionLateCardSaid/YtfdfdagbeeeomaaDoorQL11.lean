/- Part 11 of the proof: texts of the proof. -/
import Derived.Test.YtfdfdagbeeeomaaDoorQL10
namespace Go.Proofs.YtfdfdagbeeeomaaDoor.V2.S
open Go
set_option maxRecDepth 100000
set_option linter.unusedVariables false
/-! A client,a server: what their blocks hold. -/
structure Cl where
 ses:Nat
 ep:Nat
 tok:Nat
 non:Nat
 hel:Bs
def clC (rb:Nat) (c:Cl) (hv:FV):List FV:=[.p rb 0,.n .u32 c.ses,.n .u32 c.ep,.n .u64 c.tok,.n .u64 c.non,hv]
def HelAt (m:T FObj) (N:Nat) (hv:FV) (x:Bs):Prop:=(x=[] ∧ hv=.o .sl) ∨ ∃ b,b < N ∧ hv=.sl b 0 x.length x.length false 1 ∧ Am m b (.bs (Ac x) 5 .more) ∧ x ≠ []
structure ClOk (c:Cl):Prop where
 s:c.ses < 4294967296
 e:c.ep < 4294967296
 t:c.tok < 18446744073709551616
 n:c.non < 18446744073709551616
 h:c.hel.length ≤ 10000
def ClAt (m:T FObj) (N cb rb:Nat) (c:Cl):Prop:=cb < N ∧ rb < N ∧ cb ≠ rb ∧ ClOk c ∧ ∃ hv,Am m cb (.cells (clC rb c hv) 78 .exact) ∧ HelAt m N hv c.hel
structure Sv where
 ses:Nat
 ep:Nat
 con:Nat
 took:Bool
 ls:Nat
 le:Nat
 ln:Nat
 wel:Bs
def svC (rb:Nat) (s:Sv) (wv:FV):List FV:=[.p rb 0,.n .u32 s.ses,.n .u32 s.ep,.n .u32 s.con,.b s.took,.n .u32 s.ls,.n .u32 s.le,.n .u64 s.ln,wv]
structure SvOk (v:Sv):Prop where
 s:v.ses < 4294967296
 e:v.ep < 4294967296
 c:v.con < 4294967296
 h:v.wel.length ≤ 10000
def SvAt (m:T FObj) (N sb rb:Nat) (s:Sv):Prop:=sb < N ∧ rb < N ∧ sb ≠ rb ∧ SvOk s ∧ ∃ wv,Am m sb (.cells (svC rb s wv) 93 .exact) ∧ HelAt m N wv s.wel
theorem HelAt.kp {m m':T FObj} {N:Nat} {hv:FV} {x:Bs} (h:HelAt m N hv x) (k:Kp N m m'):HelAt m' N hv x:=by
 rcases h with h | ⟨b,h1,h2,h3,h4⟩
 ·exact .inl h
 ·exact .inr ⟨b,h1,h2,k _ _ h1 h3,h4⟩
theorem HelAt.up {m:T FObj} {N N':Nat} {hv:FV} {x:Bs} (h:HelAt m N hv x) (k:N ≤ N'):HelAt m N' hv x:=by
 rcases h with h | ⟨b,h1,h2,h3,h4⟩
 ·exact .inl h
 ·exact .inr ⟨b,by omega,h2,h3,h4⟩
theorem HelAt.kq {m m':T FObj} {N n c:Nat} {hv:FV} {x:Bs} {l:List FV} {e:TypeId} {t:Tl} (h:HelAt m N hv x) (ha:Am m c (.cells l e t)) (k:Kq [c] n m m') (hn:N ≤ n):HelAt m' N hv x:=by
 rcases h with h | ⟨b,h1,h2,h3,h4⟩
 ·exact .inl h
 ·refine .inr ⟨b,h1,h2,k _ _ (by omega) (fun y hy=>?_) h3,h4⟩
  rw [List.mem_singleton.1 hy]
  rintro rfl
  unfold Am at h3 ha
  rw [h3] at ha;cases ha
theorem ClAt.kp {m m':T FObj} {N cb rb:Nat} {c:Cl} (h:ClAt m N cb rb c) (k:Kp N m m'):ClAt m' N cb rb c:=by
 obtain ⟨h1,h2,h3,h4,hv,h5,h6⟩:=h
 exact ⟨h1,h2,h3,h4,hv,k _ _ h1 h5,h6.kp k⟩
theorem ClAt.up {m:T FObj} {N N' cb rb:Nat} {c:Cl} (h:ClAt m N cb rb c) (k:N ≤ N'):ClAt m N' cb rb c:=by
 obtain ⟨h1,h2,h3,h4,hv,h5,h6⟩:=h
 exact ⟨by omega,by omega,h3,h4,hv,h5,h6.up k⟩
theorem SvAt.kp {m m':T FObj} {N sb rb:Nat} {s:Sv} (h:SvAt m N sb rb s) (k:Kp N m m'):SvAt m' N sb rb s:=by
 obtain ⟨h1,h2,h3,h4,hv,h5,h6⟩:=h
 exact ⟨h1,h2,h3,h4,hv,k _ _ h1 h5,h6.kp k⟩
theorem SvAt.up {m:T FObj} {N N' sb rb:Nat} {s:Sv} (h:SvAt m N sb rb s) (k:N ≤ N'):SvAt m N' sb rb s:=by
 obtain ⟨h1,h2,h3,h4,hv,h5,h6⟩:=h
 exact ⟨by omega,by omega,h3,h4,hv,h5,h6.up k⟩
theorem ClAt.kq {m m':T FObj} {N n sb cb rb:Nat} {c:Cl} {l:List FV} {e:TypeId} {t:Tl} (h:ClAt m N cb rb c) (ha:Am m sb (.cells l e t)) (k:Kq [sb] n m m') (hn:N ≤ n) (hne:cb ≠ sb):ClAt m' N cb rb c:=by
 obtain ⟨h1,h2,h3,h4,hv,h5,h6⟩:=h
 exact ⟨h1,h2,h3,h4,hv,k _ _ (by omega) (fun y hy=>by rw [List.mem_singleton.1 hy];exact hne) h5,h6.kq ha k hn⟩
theorem SvAt.kq {m m':T FObj} {N n sb cb rb:Nat} {s:Sv} {l:List FV} {e:TypeId} {t:Tl} (h:SvAt m N sb rb s) (ha:Am m cb (.cells l e t)) (k:Kq [cb] n m m') (hn:N ≤ n) (hne:sb ≠ cb):SvAt m' N sb rb s:=by
 obtain ⟨h1,h2,h3,h4,hv,h5,h6⟩:=h
 exact ⟨h1,h2,h3,h4,hv,k _ _ (by omega) (fun y hy=>by rw [List.mem_singleton.1 hy];exact hne) h5,h6.kq ha k hn⟩
theorem RingAt.kq {m m':T FObj} {N n rb c:Nat} {K:Bs} {l:List FV} {e:TypeId} {t:Tl} (h:RingAt m N rb K) (ha:Am m c (.cells l e t)) (k:Kq [c] n m m') (hn:N ≤ n) (hne:rb ≠ c):RingAt m' N rb K:=by
 obtain ⟨h1,v,h2,h3,h4⟩:=h
 exact ⟨h1,v,k _ _ (by omega) (fun y hy=>by rw [List.mem_singleton.1 hy];exact hne) h2,h3.kq ha k hn,h4⟩
/-! What they compute. -/
section
variable (Y:Cy) (K:Bs)
def Eb (c:Cl) (n:Nat) (a:Bs):Bs:=Ae n ++ Ae (if c.ses=0 then 0 else c.tok) ++ a
def dgH (c:Cl) (n:Nat) (a:Bs):Bs:=dgB Y K 1 c.ses c.ep (Eb c n a)
def Ca (c:Cl) (n:Nat) (a:Bs):Cl:={ c with non:=n,hel:=dgH Y K c n a }
end
theorem payH_len (c:Cl) (n:Nat) (a:Bs):(Eb c n a).length=16 + a.length:=by
 unfold Eb;rw [List.length_append,List.length_append,Ad,Ad]
theorem Mm (Y:Cy) (K:Bs) (k s e:Nat) (p:Bs):dgB Y K k s e p ≠ []:=fun h=>by have:=Lb Y K k s e p;rw [h] at this;simp at this;omega
end Go.Proofs.YtfdfdagbeeeomaaDoor.V2.S
namespace Go.Proofs.YtfdfdagbeeeomaaDoor.V2.S
open Go
set_option maxRecDepth 100000
set_option maxHeartbeats 4000000
set_option linter.unusedVariables false
attribute [local irreducible] fN fO nM gM pM Phi.fn mp bl At Bx Ce Ac C9 Dr
def M8 (H:HF):Prop:=∀ {n cb rb:Nat} {m:T FObj} {c:Cl} {hv:FV} {e:TypeId} {t:Tl},Am m cb (.cells (clC rb c hv) e t) → Ms H [.p cb 0] n m (.b false)
theorem nonec_s {O:Oz} (hO:O=zO) (Φ:Phi):M8 (p23 O Φ):=fun {n cb rb m c hv e t} ha k P hf=>by
 conv=>lhs;whnf
 refine fa0 hO ?_
 conv=>lhs;whnf
 refine ldC hO ha (by rfl) ?_
 conv=>lhs;whnf
 exact hf
def NewC (H:HF):Prop:=∀ {n rb s e t:Nat} {m:T FObj},rb < n → s < 4294967296 → e < 4294967296 → t < 18446744073709551616 → (s=0 ↔ e=0) → Dc 3 [] H [.p rb 0,.agg [.n .u32 s,.n .u32 e,.n .u64 t]] n m (fun r n' m'=>∃ cb,r=.tup [.p cb 0,.n .i64 0] ∧ n ≤ cb ∧ ClAt m' n' cb rb ⟨s,e,t,0,[]⟩)
theorem newc_s {O:Oz} (hO:O=zO) (Φ:Phi):NewC (p20 O Φ):=fun {n rb s e t m} hrb hs he ht hse k P hn hf=>by
 by_cases h0:s=0
 ·have h1:=hse.1 h0
  subst h0 h1
  conv=>lhs;whnf
  refine bxA hO (by omega) (by rfl) ?_
  conv=>lhs;whnf
  refine fa0 hO ?_
  conv=>lhs;whnf
  refine ldC hO (by exact asm) (by rfl) ?_
  conv=>lhs;whnf
  refine eqT hO (by omega) ?_
  conv=>lhs;whnf
  refine fa0 hO ?_
  conv=>lhs;whnf
  refine ldC hO (by exact asm) (by rfl) ?_
  conv=>lhs;whnf
  refine eqT hO (by omega) ?_
  conv=>lhs;whnf
  refine lnA hO (by exact asm) rfl rfl rfl ?_
  conv=>lhs;whnf
  refine ubu hO ?_
  conv=>lhs;whnf
  refine fe ?_
  conv=>lhs;whnf
  refine fe ?_
  conv=>lhs;whnf
  refine fe ?_
  conv=>lhs;whnf
  refine fe ?_
  conv=>lhs;whnf
  refine fe ?_
  conv=>lhs;whnf
  refine fe ?_
  conv=>lhs;whnf
  refine fe ?_
  conv=>lhs;whnf
  refine fe ?_
  conv=>lhs;whnf
  refine fe ?_
  conv=>lhs;whnf
  refine bxA hO (by omega) (by rfl) ?_
  conv=>lhs;whnf
  exact hf _ _ _ (by omega) (by omega) (by exact Kq.ml (Kq.ml kr)) ⟨n + 1,rfl,by omega,by omega,by omega,by omega,⟨hs,he,ht,(show 0 < 18446744073709551616 by decide),(show ([]:Bs).length ≤ 10000 by decide)⟩,_,(by exact asm),.inl ⟨rfl,rfl⟩⟩
 ·have h1:e ≠ 0:=fun h=>h0 (hse.2 h)
  conv=>lhs;whnf
  refine bxA hO (by omega) (by rfl) ?_
  conv=>lhs;whnf
  refine fa0 hO ?_
  conv=>lhs;whnf
  refine ldC hO (by exact asm) (by rfl) ?_
  conv=>lhs;whnf
  refine eqF hO h0 ?_
  conv=>lhs;whnf
  refine fa0 hO ?_
  conv=>lhs;whnf
  refine ldC hO (by exact asm) (by rfl) ?_
  conv=>lhs;whnf
  refine eqF hO (by omega) ?_
  conv=>lhs;whnf
  refine lnA hO (by exact asm) rfl rfl rfl ?_
  conv=>lhs;whnf
  refine ubu hO ?_
  conv=>lhs;whnf
  refine fe ?_
  conv=>lhs;whnf
  refine fe ?_
  conv=>lhs;whnf
  refine fe ?_
  conv=>lhs;whnf
  refine fe ?_
  conv=>lhs;whnf
  refine fe ?_
  conv=>lhs;whnf
  refine fe ?_
  conv=>lhs;whnf
  refine fe ?_
  conv=>lhs;whnf
  refine fe ?_
  conv=>lhs;whnf
  refine fe ?_
  conv=>lhs;whnf
  refine bxA hO (by omega) (by rfl) ?_
  conv=>lhs;whnf
  exact hf _ _ _ (by omega) (by omega) (by exact Kq.ml (Kq.ml kr)) ⟨n + 1,rfl,by omega,by omega,by omega,by omega,⟨hs,he,ht,(show 0 < 18446744073709551616 by decide),(show ([]:Bs).length ≤ 10000 by decide)⟩,_,(by exact asm),.inl ⟨rfl,rfl⟩⟩
def StartS (Y:Cy) (H:HF):Prop:=∀ {n cb rb non:Nat} {m:T FObj} {c:Cl} {K:Bs},Gl m → 4 ≤ n → 4 ≤ cb → ClAt m n cb rb c → RingAt m n rb K → non < 18446744073709551616 → Dc 500 [cb] H [.p cb 0,.n .u64 non,ask0] n m (fun r n' m'=>∃ b,r=.tup [.sl b 0 (dgH Y K c non ask0B).length (dgH Y K c non ask0B).length false 1,.n .i64 0] ∧ n ≤ b ∧ b < n' ∧ Am m' b (.bs (Ac (dgH Y K c non ask0B)) 5 .more) ∧ ClAt m' n' cb rb (Ca Y K c non ask0B))
theorem start_s {O:Oz} {Y:Cy} (hO:O=zO) (Φ:Phi) (HN:M8 (Phi.fn Φ 23)) (HBy:BytesA (Phi.fn Φ 24)) (H8:Hf (Phi.fn Φ 25) .u64 8 18446744073709551616 8 Ae) (HB:Ll (Phi.fn Φ 26)) (HD:It (Phi.fn Φ 27)) (HS:SealS Y (Phi.fn Φ 28)) (HC:F0 (Phi.fn Φ 29)):StartS Y (p6 O Φ):=fun {n cb rb non m c K} hG hn4 hc4 hC hR hnon k P hn hf=>by
 have hC0:=hC
 obtain ⟨hcb,hrb,hne,hok,hv,ha,hh⟩:=hC
 have hks:=hok.s
 have hke:=hok.e
 have hkt:=hok.t
 have hpl:=payH_len c non ask0B
 have hal:=Di
 have hpn:Eb c non ask0B ≠ []:=fun h=>by rw [h] at hpl;simp at hpl;omega
 have hdl:=Lb Y K 1 c.ses c.ep (Eb c non ask0B)
 have hdn:=Mm Y K 1 c.ses c.ep (Eb c non ask0B)
 by_cases h0:c.ses=0
 ·have hp:Ae non ++ Ae 0 ++ ask0B=Eb c non ask0B:=by unfold Eb;rw [if_pos h0]
  conv=>lhs;whnf
  refine bxA hO (by omega) (by rfl) ?_
  conv=>lhs;whnf
  (refine HN (rb:=rb) (c:=c) (hv:=hv) (by exact an ha) _ _ ?_)
  conv=>lhs;whnf
  refine lnA hO (by exact asm) rfl rfl rfl ?_
  conv=>lhs;whnf
  (refine HBy _ _ (by omega) _ _ (by omega) (fun v2 n2 m2 h2 g2 k2 q2=>?_);have k2p:=Kq.kp k2;obtain ⟨b2,rfl,d2,e2,f2⟩:=q2)
  conv=>lhs;whnf
  refine neF hO (by omega) ?_
  conv=>lhs;whnf
  refine fa0 hO ?_
  conv=>lhs;whnf
  refine faN hO ?_
  conv=>lhs;whnf
  refine ldC hO (by exact ka k2p (an ha)) (by rfl) ?_
  conv=>lhs;whnf
  refine fa0 hO ?_
  conv=>lhs;whnf
  refine faN hO ?_
  conv=>lhs;whnf
  refine ldC hO (by exact ka k2p (an ha)) (by rfl) ?_
  conv=>lhs;whnf
  refine eqT hO h0 ?_
  conv=>lhs;whnf
  refine alO hO (by omega) ?_
  conv=>lhs;whnf
  (refine H8 (a:=non) (bs:=[]) (WrA.new (by omega) (by exact asm)) hnon (by decide) _ _ (by omega) (fun v4 n4 m4 h4 g4 k4 q4=>?_);obtain ⟨rfl,w4⟩:=q4;have w4:=w4.to (List.nil_append _))
  conv=>lhs;whnf
  (refine H8 (a:=0) w4 (by omega) (by rw [Ad];omega) _ _ (by omega) (fun v5 n5 m5 h5 g5 k5 q5=>?_);obtain ⟨rfl,w5⟩:=q5)
  conv=>lhs;whnf
  (refine HB (x:=ask0B) w5 (Sl.own (x:=ask0B) (K:=5) (by exact ka k5 (ka k4 (an f2))) (by omega) (Nat.le_refl 5)) (fun h=>by cases h) (by rw [List.length_append,Ad,Ad];omega) _ _ (by omega) (fun v6 n6 m6 h6 g6 k6 q6=>?_);obtain ⟨rfl,w6⟩:=q6;have w6:=w6.to hp)
  conv=>lhs;whnf
  (refine HD w6 hpn (by omega) _ _ (by omega) (fun v7 n7 m7 h7 g7 k7 q7=>?_);obtain ⟨b7,rfl,d7,e7,f7,w7⟩:=q7)
  conv=>lhs;whnf
  refine fa0 hO ?_
  have A19:Am m7 cb _:=ka k7 (ka k6 (ka k5 (ka k4 (an (ka k2p (an ha))))))
  conv=>lhs;whnf
  refine stC hO A19 (by kernel_rfl) (fun _ _ _=>rfl) (fun _=>rfl) ?_
  conv=>lhs;whnf
  refine fa0 hO ?_
  conv=>lhs;whnf
  refine ldC hO (by exact asm) (by rfl) ?_
  conv=>lhs;whnf
  refine fa0 hO ?_
  conv=>lhs;whnf
  refine faN hO ?_
  conv=>lhs;whnf
  refine ldC hO (by exact asm) (by rfl) ?_
  conv=>lhs;whnf
  refine fa0 hO ?_
  conv=>lhs;whnf
  refine faN hO ?_
  conv=>lhs;whnf
  refine ldC hO (by exact asm) (by rfl) ?_
  conv=>lhs;whnf
  refine ubu hO ?_
  conv=>lhs;whnf
  (refine HS (k:=1) (s:=c.ses) (e:=c.ep) (b:=b7) (K:=K) (p:=Eb c non ask0B) (hG.kq (xs:=[cb]) (n:=n) (by exact Kq.mr (Kq.tp (Kq.tp (Kq.tp (Kq.tp (Kq.ml (Kq.tp (Kq.ml kr) k2p)) k4) k5) k6) k7)) hn4 (fun x hx=>by rw [List.mem_singleton.1 hx];omega)) (by omega) ((hR.kq ha (n:=n) (by exact Kq.mr (Kq.tp (Kq.tp (Kq.tp (Kq.tp (Kq.ml (Kq.tp (Kq.ml kr) k2p)) k4) k5) k6) k7)) (Nat.le_refl _) (by omega)).up (by omega)) (.inl rfl) hks hke (tl:=.more) (by exact an f7) e7 rfl (by omega) _ _ (by omega) (fun v8 n8 m8 h8 g8 k8 q8=>?_);have k8p:=Kq.kp k8;obtain ⟨b8,rfl,d8,e8,f8⟩:=q8)
  conv=>lhs;whnf
  refine fa0 hO ?_
  conv=>lhs;whnf
  refine stC hO (by exact ka k8p asm) (by kernel_rfl) (fun _ _ _=>rfl) (fun _=>rfl) ?_
  conv=>lhs;whnf
  refine fa0 hO ?_
  conv=>lhs;whnf
  refine ldC hO (by exact asm) (by rfl) ?_
  conv=>lhs;whnf
  (refine HC (x:=dgB Y K 1 c.ses c.ep (Eb c non ask0B)) (Sl.own (by exact an f8) e8 (Nat.le_refl _)) (fun h=>absurd h hdn) (by omega) _ _ (by omega) (fun v9 n9 m9 h9 g9 k9 q9=>?_);have k9p:=Kq.kp k9;obtain ⟨b9,rfl,c9,d9,e9⟩:=q9.ne hdn)
  conv=>lhs;whnf
  exact hf _ _ _ (by omega) (by omega) (by exact Kq.tp (Kq.mr (Kq.tp (Kq.mr (Kq.tp (Kq.tp (Kq.tp (Kq.tp (Kq.ml (Kq.tp (Kq.ml kr) k2p)) k4) k5) k6) k7)) k8p)) k9p) ⟨b9,rfl,by omega,by omega,e9,by omega,by omega,hne,⟨hks,hke,hkt,hnon,(show (dgB Y K 1 c.ses c.ep (Eb c non ask0B)).length ≤ 10000 by omega)⟩,.sl b8 0 (dgB Y K 1 c.ses c.ep (Eb c non ask0B)).length (dgB Y K 1 c.ses c.ep (Eb c non ask0B)).length false 1,(show Am _ cb (.cells [.p rb 0,.n .u32 c.ses,.n .u32 c.ep,.n .u64 c.tok,.n .u64 non,.sl b8 0 (dgB Y K 1 c.ses c.ep (Eb c non ask0B)).length (dgB Y K 1 c.ses c.ep (Eb c non ask0B)).length false 1] 78 .exact) from (by exact ka k9p asm)),.inr ⟨b8,by omega,rfl,(show Am _ b8 (.bs (Ac (dgB Y K 1 c.ses c.ep (Eb c non ask0B))) 5 .more) from (by exact ka k9p (an f8))),hdn⟩⟩
 ·have hp:Ae non ++ Ae c.tok ++ ask0B=Eb c non ask0B:=by unfold Eb;rw [if_neg h0]
  conv=>lhs;whnf
  refine bxA hO (by omega) (by rfl) ?_
  conv=>lhs;whnf
  (refine HN (rb:=rb) (c:=c) (hv:=hv) (by exact an ha) _ _ ?_)
  conv=>lhs;whnf
  refine lnA hO (by exact asm) rfl rfl rfl ?_
  conv=>lhs;whnf
  (refine HBy _ _ (by omega) _ _ (by omega) (fun v2 n2 m2 h2 g2 k2 q2=>?_);have k2p:=Kq.kp k2;obtain ⟨b2,rfl,d2,e2,f2⟩:=q2)
  conv=>lhs;whnf
  refine neF hO (by omega) ?_
  conv=>lhs;whnf
  refine fa0 hO ?_
  conv=>lhs;whnf
  refine faN hO ?_
  conv=>lhs;whnf
  refine ldC hO (by exact ka k2p (an ha)) (by rfl) ?_
  conv=>lhs;whnf
  refine fa0 hO ?_
  conv=>lhs;whnf
  refine faN hO ?_
  conv=>lhs;whnf
  refine ldC hO (by exact ka k2p (an ha)) (by rfl) ?_
  conv=>lhs;whnf
  refine eqF hO h0 ?_
  conv=>lhs;whnf
  refine alO hO (by omega) ?_
  conv=>lhs;whnf
  (refine H8 (a:=non) (bs:=[]) (WrA.new (by omega) (by exact asm)) hnon (by decide) _ _ (by omega) (fun v4 n4 m4 h4 g4 k4 q4=>?_);obtain ⟨rfl,w4⟩:=q4;have w4:=w4.to (List.nil_append _))
  conv=>lhs;whnf
  (refine H8 (a:=c.tok) w4 hkt (by rw [Ad];omega) _ _ (by omega) (fun v5 n5 m5 h5 g5 k5 q5=>?_);obtain ⟨rfl,w5⟩:=q5)
  conv=>lhs;whnf
  (refine HB (x:=ask0B) w5 (Sl.own (x:=ask0B) (K:=5) (by exact ka k5 (ka k4 (an f2))) (by omega) (Nat.le_refl 5)) (fun h=>by cases h) (by rw [List.length_append,Ad,Ad];omega) _ _ (by omega) (fun v6 n6 m6 h6 g6 k6 q6=>?_);obtain ⟨rfl,w6⟩:=q6;have w6:=w6.to hp)
  conv=>lhs;whnf
  (refine HD w6 hpn (by omega) _ _ (by omega) (fun v7 n7 m7 h7 g7 k7 q7=>?_);obtain ⟨b7,rfl,d7,e7,f7,w7⟩:=q7)
  conv=>lhs;whnf
  refine fa0 hO ?_
  have A19:Am m7 cb _:=ka k7 (ka k6 (ka k5 (ka k4 (an (ka k2p (an ha))))))
  conv=>lhs;whnf
  refine stC hO A19 (by kernel_rfl) (fun _ _ _=>rfl) (fun _=>rfl) ?_
  conv=>lhs;whnf
  refine fa0 hO ?_
  conv=>lhs;whnf
  refine ldC hO (by exact asm) (by rfl) ?_
  conv=>lhs;whnf
  refine fa0 hO ?_
  conv=>lhs;whnf
  refine faN hO ?_
  conv=>lhs;whnf
  refine ldC hO (by exact asm) (by rfl) ?_
  conv=>lhs;whnf
  refine fa0 hO ?_
  conv=>lhs;whnf
  refine faN hO ?_
  conv=>lhs;whnf
  refine ldC hO (by exact asm) (by rfl) ?_
  conv=>lhs;whnf
  refine ubu hO ?_
  conv=>lhs;whnf
  (refine HS (k:=1) (s:=c.ses) (e:=c.ep) (b:=b7) (K:=K) (p:=Eb c non ask0B) (hG.kq (xs:=[cb]) (n:=n) (by exact Kq.mr (Kq.tp (Kq.tp (Kq.tp (Kq.tp (Kq.ml (Kq.tp (Kq.ml kr) k2p)) k4) k5) k6) k7)) hn4 (fun x hx=>by rw [List.mem_singleton.1 hx];omega)) (by omega) ((hR.kq ha (n:=n) (by exact Kq.mr (Kq.tp (Kq.tp (Kq.tp (Kq.tp (Kq.ml (Kq.tp (Kq.ml kr) k2p)) k4) k5) k6) k7)) (Nat.le_refl _) (by omega)).up (by omega)) (.inl rfl) hks hke (tl:=.more) (by exact an f7) e7 rfl (by omega) _ _ (by omega) (fun v8 n8 m8 h8 g8 k8 q8=>?_);have k8p:=Kq.kp k8;obtain ⟨b8,rfl,d8,e8,f8⟩:=q8)
  conv=>lhs;whnf
  refine fa0 hO ?_
  conv=>lhs;whnf
  refine stC hO (by exact ka k8p asm) (by kernel_rfl) (fun _ _ _=>rfl) (fun _=>rfl) ?_
  conv=>lhs;whnf
  refine fa0 hO ?_
  conv=>lhs;whnf
  refine ldC hO (by exact asm) (by rfl) ?_
  conv=>lhs;whnf
  (refine HC (x:=dgB Y K 1 c.ses c.ep (Eb c non ask0B)) (Sl.own (by exact an f8) e8 (Nat.le_refl _)) (fun h=>absurd h hdn) (by omega) _ _ (by omega) (fun v9 n9 m9 h9 g9 k9 q9=>?_);have k9p:=Kq.kp k9;obtain ⟨b9,rfl,c9,d9,e9⟩:=q9.ne hdn)
  conv=>lhs;whnf
  exact hf _ _ _ (by omega) (by omega) (by exact Kq.tp (Kq.mr (Kq.tp (Kq.mr (Kq.tp (Kq.tp (Kq.tp (Kq.tp (Kq.ml (Kq.tp (Kq.ml kr) k2p)) k4) k5) k6) k7)) k8p)) k9p) ⟨b9,rfl,by omega,by omega,e9,by omega,by omega,hne,⟨hks,hke,hkt,hnon,(show (dgB Y K 1 c.ses c.ep (Eb c non ask0B)).length ≤ 10000 by omega)⟩,.sl b8 0 (dgB Y K 1 c.ses c.ep (Eb c non ask0B)).length (dgB Y K 1 c.ses c.ep (Eb c non ask0B)).length false 1,(show Am _ cb (.cells [.p rb 0,.n .u32 c.ses,.n .u32 c.ep,.n .u64 c.tok,.n .u64 non,.sl b8 0 (dgB Y K 1 c.ses c.ep (Eb c non ask0B)).length (dgB Y K 1 c.ses c.ep (Eb c non ask0B)).length false 1] 78 .exact) from (by exact ka k9p asm)),.inr ⟨b8,by omega,rfl,(show Am _ b8 (.bs (Ac (dgB Y K 1 c.ses c.ep (Eb c non ask0B))) 5 .more) from (by exact ka k9p (an f8))),hdn⟩⟩
end Go.Proofs.YtfdfdagbeeeomaaDoor.V2.S
namespace Go.Proofs.YtfdfdagbeeeomaaDoor.V2.S
open Go
set_option maxRecDepth 100000
set_option linter.unusedVariables false
/-! Blocks that hold arrays of bytes among other cells. -/
def nb (l:Bs):List FV:=l.map fun b=>.n .u8 b.toNat
def H5 (s e l:Nat) (up dn:Bs):List FV:=[.n .u32 s,.n .u32 e,.n .u32 l] ++ (nb up ++ nb dn)
def Gm (d:FV) (bg:Bool) (nx:Nat) (op:FV) (up dn:Bs):List FV:=[d,.b bg,.n .u32 nx,op] ++ (nb up ++ nb dn)
def z32:Bs:=List.replicate 32 0
theorem nb_len (l:Bs):(nb l).length=l.length:=List.length_map ..
theorem βαL:∀ {l:List FV},(∀ v ∈ l,βV (αV v)=v) → βL (αL l)=l
 | [],_=>rfl
 | v :: l,h=>by
  show βV (αV v) :: βL (αL l)=_
  rw [h v List.mem_cons_self,βαL fun w hw=>h w (List.mem_cons_of_mem _ hw)]
theorem nb_βα (l:Bs):∀ v ∈ nb l,βV (αV v)=v:=fun v hv=>by
 obtain ⟨b,_,rfl⟩:=List.mem_map.1 hv
 rfl
theorem αL_map:∀ l:List FV,αL l=l.map αV
 | []=>rfl
 | v :: l=>by rw [αL,αL_map l];rfl
theorem αL_app (a b:List FV):αL (a ++ b)=αL a ++ αL b:=by rw [αL_map,αL_map,αL_map,List.map_append]
theorem αL_nb (l:Bs):αL (nb l)=(bI l).map (AV.int .u8):=by
 rw [αL_map];unfold nb bI
 rw [List.map_map,List.map_map]
 rfl
theorem allInt_u8:∀ l:Bs,Ei .u8 ((bI l).map (AV.int .u8))=some (bI l)
 | []=>rfl
 | b :: l=>by
  show (if IntKind.u8=IntKind.u8 then (Ei .u8 ((bI l).map (AV.int .u8))).map ((b.toNat:Int) :: ·) else none)=_
  rw [if_pos rfl,allInt_u8 l];rfl
theorem agg_nb {l:Bs} (h:l ≠ []):βV (Ba (αL (nb l)))=.bs (Ac l):=by
 rw [αL_nb]
 cases l with
 | nil=>exact absurd rfl h
 | cons b l =>
  show βV (match Ei .u8 ((bI l).map (AV.int .u8)) with | some ns=>AV.ints .u8 ((b.toNat:Int) :: ns) | none=>_)=_
  rw [allInt_u8]
  show βV (.ints .u8 (bI (b :: l)))=_
  simp only [βV,packI_bI]
theorem one_nb (l:Bs) (r:FR):Cx (nb l) r=r:=by
 induction l with
 | nil=>rfl
 | cons b l ih=>show Cx (nb l) r=r;exact ih
theorem one_app:∀ (a b:List FV) (r:FR),(∀ r,Cx a r=r) → (∀ r,Cx b r=r) → Cx (a ++ b) r=r:=by
 intro a b r ha hb
 have h:∀ (a b:List FV) (r:FR),Cx (a ++ b) r=Cx a (Cx b r):=by
  intro a
  induction a with
  | nil=>intro b r;rfl
  | cons v a ih=>intro b r;show kC (Cx (a ++ b) r) (fun _=>.bad) .bad v=kC (Cx a (Cx b r)) (fun _=>.bad) .bad v;rw [ih]
 rw [h,hb,ha]
theorem aggBeg {s e l:Nat} {up dn:Bs} (hu:L32 up):βV (Ba (αL (H5 s e l up dn)))=.agg (H5 s e l up dn):=by
 have hb:βL (αL (H5 s e l up dn))=H5 s e l up dn:=βαL fun v hv=>by
  unfold H5 at hv
  rcases List.mem_append.1 hv with h | h
  ·simp only [List.mem_cons,List.not_mem_nil,or_false] at h
   rcases h with rfl | rfl | rfl <;> rfl
  ·rcases List.mem_append.1 h with h | h
   ·exact nb_βα _ _ h
   ·exact nb_βα _ _ h
 have h:Ba (αL (H5 s e l up dn))=.agg (αL (H5 s e l up dn)):=by
  obtain ⟨hu⟩:=hu
  cases up with
  | nil=>cases hu
  | cons b up=>rfl
 rw [h]
 show FV.agg (βL (αL (H5 s e l up dn)))=_
 rw [hb]
def SlV (v:FV):Prop:=v=.o .sl ∨ ∃ b o n k e z,v=.sl b o n k e z
theorem Mr {d op:FV} {bg:Bool} {nx:Nat} {up dn:Bs} (hd:SlV d) (ho:SlV op):βV (Ba (αL (Gm d bg nx op up dn)))=.agg (Gm d bg nx op up dn):=by
 have hb:βL (αL (Gm d bg nx op up dn))=Gm d bg nx op up dn:=βαL fun v hv=>by
  unfold Gm at hv
  rcases List.mem_append.1 hv with h | h
  ·simp only [List.mem_cons,List.not_mem_nil,or_false] at h
   rcases h with rfl | rfl | rfl | rfl
   ·rcases hd with rfl | ⟨_,_,_,_,_,_,rfl⟩ <;> rfl
   ·rfl
   ·rfl
   ·rcases ho with rfl | ⟨_,_,_,_,_,_,rfl⟩ <;> rfl
  ·rcases List.mem_append.1 h with h | h
   ·exact nb_βα _ _ h
   ·exact nb_βα _ _ h
 have h:Ba (αL (Gm d bg nx op up dn))=.agg (αL (Gm d bg nx op up dn)):=by
  rcases hd with rfl | ⟨_,_,_,_,_,_,rfl⟩ <;> rfl
 rw [h]
 show FV.agg (βL (αL (Gm d bg nx op up dn)))=_
 rw [hb]
theorem oneBeg (s e l:Nat) (up dn:Bs) (r:FR):Cx (H5 s e l up dn) r=r:=one_app _ _ r (fun _=>rfl) fun r=>one_app _ _ r (one_nb up) (one_nb dn)
theorem Fo {d op:FV} {bg:Bool} {nx:Nat} {up dn:Bs} (hd:SlV d) (ho:SlV op) (r:FR):Cx (Gm d bg nx op up dn) r=r:=one_app _ _ r (fun r=>by rcases hd with rfl | ⟨_,_,_,_,_,_,rfl⟩ <;> rcases ho with rfl | ⟨_,_,_,_,_,_,rfl⟩ <;> rfl) fun r=>one_app _ _ r (one_nb up) (one_nb dn)
theorem Fz {s e l:Nat} {up dn:Bs} (hu:L32 up) (hd:L32 dn):(H5 s e l up dn).length=67:=by
 unfold H5;rw [List.length_append,List.length_append,nb_len,nb_len,hu.h,hd.h];rfl
theorem B2 {d op:FV} {bg:Bool} {nx:Nat} {up dn:Bs} (hu:L32 up) (hd:L32 dn):(Gm d bg nx op up dn).length=68:=by
 unfold Gm;rw [List.length_append,List.length_append,nb_len,nb_len,hu.h,hd.h];rfl
theorem lay2 {pre A B:List AV} {z:AV} {a b:AV} (hA:A.length=32) (hB:B.length=32) (ha:a.known=true ∧ a.cells=A) (hb:b.known=true ∧ b.cells=B):Hm (pre ++ List.replicate 64 z) [(pre.length,32),(pre.length + 32,32)] [a,b]=(true,pre ++ (A ++ B)):=by
 have h1:(pre ++ List.replicate 64 z).take pre.length ++ A ++ (pre ++ List.replicate 64 z).drop (pre.length + 32)=pre ++ A ++ List.replicate 32 z:=by
  rw [List.take_left,List.drop_append,List.drop_of_length_le (show pre.length ≤ pre.length + 32 by omega),List.nil_append,show pre.length + 32 - pre.length=32 by omega,List.drop_replicate]
 have h2:(pre ++ A ++ List.replicate 32 z).take (pre.length + 32) ++ B ++ (pre ++ A ++ List.replicate 32 z).drop (pre.length + 32 + 32)=pre ++ (A ++ B):=by
  have e:(pre ++ A).length=pre.length + 32:=by rw [List.length_append,hA]
  rw [← e,List.take_left,List.drop_of_length_le (by rw [List.length_append,List.length_replicate];omega),List.append_nil,List.append_assoc]
 unfold Hm
 rw [ha.1,ha.2,hA,show Nat.beq 32 (pre.length,32).2=true from rfl,show Nat.ble ((pre.length,32).1 + (pre.length,32).2) (pre ++ List.replicate 64 z).length=true from A4 (by rw [List.length_append,List.length_replicate];show pre.length + 32 ≤ _;omega)]
 show Hm ((pre ++ List.replicate 64 z).take pre.length ++ A ++ (pre ++ List.replicate 64 z).drop (pre.length + 32)) [(pre.length + 32,32)] [b]=_
 rw [h1]
 unfold Hm
 rw [hb.1,hb.2,hB,show Nat.beq 32 (pre.length + 32,32).2=true from rfl,show Nat.ble ((pre.length + 32,32).1 + (pre.length + 32,32).2) (pre ++ A ++ List.replicate 32 z).length=true from A4 (by rw [List.length_append,List.length_append,List.length_replicate,hA];show pre.length + 32 + 32 ≤ _;omega)]
 show Hm ((pre ++ A ++ List.replicate 32 z).take (pre.length + 32) ++ B ++ (pre ++ A ++ List.replicate 32 z).drop (pre.length + 32 + 32)) [] []=_
 rw [h2];rfl
theorem bsKnown (x:Bs):(αV (.bs (Ac x))).known=true ∧ (αV (.bs (Ac x))).cells=(bI x).map (AV.int .u8):=by
 refine ⟨rfl,?_⟩
 show (AV.ints .u8 (A5 (Ac x))).cells=_
 rw [Lt];rfl
theorem bI_len (x:Bs):(bI x).length=x.length:=List.length_map ..
section
variable {O:Oz} (hO:O=zO) {P:FR} {c:FV → FR} {k:KV} {n:Nat} {m:T FObj}
include hO
theorem Ez {b N:Nat} {l0 l':List FV} {e:TypeId} {t:Tl} (ha:Am m b (.cells l0 e t)) (h0:l0.length=N) (h1:l'.length=N) (ho:∀ r,Cx l' r=r) (ht:∀ r,gW t r=r) (h:k (.tup []) ⟨n,mp m b (.cells l' e t)⟩=P):O.st N (.p b 0) (.agg l') ⟨n,m⟩ k=P:=by
 subst hO h0
 show (gM ⟨n,m⟩ b fun ob=>woF ob l0.length 0 (.agg l') fun ob=>pM ⟨n,m⟩ b ob fun σ=>k (.tup []) σ)=P
 rw [Eu ha]
 show gW t (Cx l' (A9 l' 0 fun q=>gT (Nat.beq q l0.length) (Be 0 l0 fun l1=>Bo (Nat.add 0 q) l0 fun l2=>A9 l1 q fun s1=>A9 l2 s1 fun s2=>A9 l0 0 fun s0=>gT (Nat.beq s2 s0 && Nat.ble (Nat.add 0 q) s0) (Dk l' l2 fun l2=>Dk l1 l2 fun l=>pM ⟨n,m⟩ b (.cells l e t) fun σ=>k (.tup []) σ))))=P
 rw [ht,ho,A0,Nat.zero_add,h1,gTt (b:=Nat.beq l0.length l0.length) (Nat.beq_refl _),Bq,B9,A0,A0,A0,Co,Co]
 have e1:List.drop (Nat.add 0 l0.length) l0=[]:=List.drop_of_length_le (by show l0.length ≤ 0 + l0.length;omega)
 rw [e1]
 have e2:(Nat.beq (l0.length + ([]:List FV).length + ([]:List FV).length) (0 + l0.length) && Nat.ble (Nat.add 0 l0.length) (0 + l0.length))=true:=by
  rw [Bool.and_eq_true]
  exact ⟨beqT' (by simp),A4 (by show 0 + l0.length ≤ 0 + l0.length;omega)⟩
 rw [List.take_zero,gTt e2,List.append_nil,List.nil_append,pM_mp];exact h
end
theorem allI_nb:∀ l:Bs,Gr (nb l)=true
 | []=>rfl
 | b :: l=>by show (Bool.rec false (Gr (nb l)) true:Bool)=true;exact allI_nb l
theorem agF_nb {x:Bs} {c:FV → FR} (h:x ≠ []):agF (nb x) c=c (.bs (Ac x)):=by
 cases x with
 | nil=>exact absurd rfl h
 | cons b x =>
  show (Bool.rec (c (.agg (nb (b :: x)))) (fV (βV (Ba (αL (nb (b :: x))))) c) (Gr (nb x)):FR)=_
  rw [allI_nb]
  show fV (βV (Ba (αL (nb (b :: x))))) c=_
  rw [Fu,agg_nb h]
theorem lnG {b N n:Nat} {m:T FObj} {c:FV → FR} {P:FR} {l:List FV} {e:TypeId} {t:Tl} (ha:Am m b (.cells l e t)) (hl:l.length=N) (hN:Nat.ble 1 N=true) (hg:βV (Ba (αL l))=.agg l) (h:c (.agg l)=P):lnF N (.p b 0) ⟨n,m⟩ c=P:=lnA (O:=zO) (n:=n) rfl ha hl hN hg h
section
variable {O:Oz} (hO:O=zO) {P:FR} {c:FV → FR} {k:KV} {n:Nat} {m:T FObj}
include hO
theorem ln32c {b off:Nat} {pre post:List FV} {x:Bs} {e:TypeId} {t:Tl} (ha:Am m b (.cells (pre ++ (nb x ++ post)) e t)) (hx:L32 x) (ho:pre.length=off) (h:c (.bs (Ac x))=P):O.ln 32 (.p b off) ⟨n,m⟩ c=P:=by
 subst hO ho
 show (gM ⟨n,m⟩ b fun ob=>FObj.rec (motive:=fun _=>FR) .bad
 (fun l _ _=>Bo pre.length l fun l=>Be 32 l fun l=>A9 l 0 fun m=>Bool.rec .bad (agF l c) (Nat.beq m 32 && Nat.ble 1 32))
 (fun s _ _=>Bool.rec .bad (fN (At s pre.length 32) fun m=>c (.bs m)) (Nat.ble (Nat.add pre.length 32) (bl s)))
 (fun k l e t=>slV ((αO (.ints k l e t)).readOk std pre.length 32,(αO (.ints k l e t)).read std pre.length 32) c) (fun _=>.bad) .bad ob)=P
 rw [Eu ha]
 show (Bo pre.length (pre ++ (nb x ++ post)) fun l=>Be 32 l fun l=>A9 l 0 fun m=>Bool.rec .bad (agF l c) (Nat.beq m 32 && Nat.ble 1 32))=P
 have hl:(nb x).length=32:=by rw [nb_len,hx.h]
 have hne:x ≠ []:=fun h=>by have:=hx.h;rw [h] at this;cases this
 rw [B9,Bq,A0,List.drop_left,List.take_left' hl,hl]
 show agF (nb x) c=P
 rw [agF_nb hne];exact h
theorem buBeg {s e l:Nat} {up dn:Bs} (hu:L32 up) (hd:L32 dn) (h:k (.agg (H5 s e l up dn)) ⟨n,m⟩=P):O.bu zF67 zA67 [(0,1),(1,1),(2,1),(3,32),(35,32)] [.n .u32 s,.n .u32 e,.n .u32 l,.bs (Ac up),.bs (Ac dn)] ⟨n,m⟩ k=P:=by
 subst hO
 show slV (Al std (.build ([.int .u32 0,.int .u32 0,.int .u32 0] ++ List.replicate 64 (.int .u8 0)) [(0,1),(1,1),(2,1),(3,32),(35,32)]) [.int .u32 (Int.ofNat s),.int .u32 (Int.ofNat e),.int .u32 (Int.ofNat l),αV (.bs (Ac up)),αV (.bs (Ac dn))]) (fun v=>k v ⟨n,m⟩)=P
 have h1:Hm ([.int .u32 0,.int .u32 0,.int .u32 0] ++ List.replicate 64 (.int .u8 0)) [(0,1),(1,1),(2,1),(3,32),(35,32)] [.int .u32 (Int.ofNat s),.int .u32 (Int.ofNat e),.int .u32 (Int.ofNat l),αV (.bs (Ac up)),αV (.bs (Ac dn))]=(true,αL (H5 s e l up dn)):=by
  have:=lay2 (pre:=[.int .u32 (Int.ofNat s),.int .u32 (Int.ofNat e),.int .u32 (Int.ofNat l)]) (z:=.int .u8 0) (by rw [List.length_map,bI_len,hu.h]) (by rw [List.length_map,bI_len,hd.h]) (bsKnown up) (bsKnown dn)
  unfold H5
  rw [αL_app,αL_app,αL_nb,αL_nb]
  exact this
 have h2:Al std (.build ([.int .u32 0,.int .u32 0,.int .u32 0] ++ List.replicate 64 (.int .u8 0)) [(0,1),(1,1),(2,1),(3,32),(35,32)]) [.int .u32 (Int.ofNat s),.int .u32 (Int.ofNat e),.int .u32 (Int.ofNat l),αV (.bs (Ac up)),αV (.bs (Ac dn))]=(true,Ba (αL (H5 s e l up dn))):=by
  show (match Hm ([.int .u32 0,.int .u32 0,.int .u32 0] ++ List.replicate 64 (.int .u8 0)) [(0,1),(1,1),(2,1),(3,32),(35,32)] [.int .u32 (Int.ofNat s),.int .u32 (Int.ofNat e),.int .u32 (Int.ofNat l),αV (.bs (Ac up)),αV (.bs (Ac dn))] with | (ok,l)=>(ok,Ba l))=_
  rw [h1]
 rw [h2]
 show fV (βV (Ba (αL (H5 s e l up dn)))) (fun v=>k v ⟨n,m⟩)=P
 rw [Fu,aggBeg hu];exact h
theorem buRep {d op:FV} {bg:Bool} {nx:Nat} {up dn:Bs} (hsd:SlV d) (hso:SlV op) (hu:L32 up) (hd:L32 dn) (h:k (.agg (Gm d bg nx op up dn)) ⟨n,m⟩=P):O.bu Jc zA68 [(0,1),(1,1),(2,2),(4,32),(36,32)] [d,.b bg,.agg [.n .u32 nx,op],.bs (Ac up),.bs (Ac dn)] ⟨n,m⟩ k=P:=by
 subst hO
 have h1:Hm ([.nilsl,.bool false,.int .u32 0,.nilsl] ++ List.replicate 64 (.int .u8 0)) [(0,1),(1,1),(2,2),(4,32),(36,32)] [αV d,.bool bg,.agg [.int .u32 (Int.ofNat nx),αV op],αV (.bs (Ac up)),αV (.bs (Ac dn))]=(true,αL (Gm d bg nx op up dn)):=by
  have:=lay2 (pre:=[αV d,.bool bg,.int .u32 (Int.ofNat nx),αV op]) (z:=.int .u8 0) (by rw [List.length_map,bI_len,hu.h]) (by rw [List.length_map,bI_len,hd.h]) (bsKnown up) (bsKnown dn)
  unfold Gm
  rw [αL_app,αL_app,αL_nb,αL_nb]
  rcases hsd with rfl | ⟨_,_,_,_,_,_,rfl⟩ <;> exact this
 have h2:Al std (.build ([.nilsl,.bool false,.int .u32 0,.nilsl] ++ List.replicate 64 (.int .u8 0)) [(0,1),(1,1),(2,2),(4,32),(36,32)]) [αV d,.bool bg,.agg [.int .u32 (Int.ofNat nx),αV op],αV (.bs (Ac up)),αV (.bs (Ac dn))]=(true,Ba (αL (Gm d bg nx op up dn))):=by
  show (match Hm ([.nilsl,.bool false,.int .u32 0,.nilsl] ++ List.replicate 64 (.int .u8 0)) [(0,1),(1,1),(2,2),(4,32),(36,32)] [αV d,.bool bg,.agg [.int .u32 (Int.ofNat nx),αV op],αV (.bs (Ac up)),αV (.bs (Ac dn))] with | (ok,l)=>(ok,Ba l))=_
  rw [h1]
 have h3:zO.bu Jc zA68 [(0,1),(1,1),(2,2),(4,32),(36,32)] [d,.b bg,.agg [.n .u32 nx,op],.bs (Ac up),.bs (Ac dn)] ⟨n,m⟩ k=slV (Al std (.build ([.nilsl,.bool false,.int .u32 0,.nilsl] ++ List.replicate 64 (.int .u8 0)) [(0,1),(1,1),(2,2),(4,32),(36,32)]) [αV d,.bool bg,.agg [.int .u32 (Int.ofNat nx),αV op],αV (.bs (Ac up)),αV (.bs (Ac dn))]) (fun v=>k v ⟨n,m⟩):=by
  rcases hsd with rfl | ⟨_,_,_,_,_,_,rfl⟩ <;> rfl
 rw [h3,h2]
 show fV (βV (Ba (αL (Gm d bg nx op up dn)))) (fun v=>k v ⟨n,m⟩)=P
 rw [Fu,Mr hsd hso];exact h
theorem eqSame {x:Bs} (hx:L32 x) (h:k (.b true) ⟨n,m⟩=P):O.pq (.eqF false [.int,.int,.int,.int,.int,.int,.int,.int,.int,.int,.int,.int,.int,.int,.int,.int,.int,.int,.int,.int,.int,.int,.int,.int,.int,.int,.int,.int,.int,.int,.int,.int]) [.bs (Ac x),.bs (Ac x)] ⟨n,m⟩ k=P:=by
 subst hO
 show gT (true && Nat.beq (bl (Ac x)) 32 && Nat.beq (bl (Ac x)) 32 && bok (Ac x) && bok (Ac x)) (Bool.rec (k (.b false) ⟨n,m⟩) (k (.b true) ⟨n,m⟩) (Nat.beq (Ac x) (Ac x)))=P
 rw [Ck,hx.h,bok_pack,show Nat.beq (Ac x) (Ac x)=true from Nat.beq_refl _];exact h
end
theorem zF67_eq:zF67=H5 0 0 0 z32 z32:=rfl
section
variable {O:Oz} (hO:O=zO) {P:FR} {k:KV} {n:Nat} {m:T FObj}
include hO
theorem buZ67 (h:k (.agg zF67) ⟨n,m⟩=P):O.bu zF67 zA67 [] [] ⟨n,m⟩ k=P:=buE hO zF67 (fun _ _=>rfl) (by rw [zF67_eq];exact aggBeg L32.z) h
theorem buD68 {d:FV} (hd:SlV d) (h:k (.agg (Gm d false 0 (.o .sl) z32 z32)) ⟨n,m⟩=P):O.bu Jc zA68 [(0,1)] [d] ⟨n,m⟩ k=P:=by
 refine buE hO (Gm d false 0 (.o .sl) z32 z32) (fun _ _=>?_) (Mr hd (.inl rfl)) h
 rcases hd with rfl | ⟨_,_,_,_,_,_,rfl⟩ <;> rfl
end
theorem I1 {m:T FObj} {N rb c:Nat} {x:Bs} {K:IntKind} {l:List Int} {e:TypeId} {t:Tl} {o:FObj} (h:RdB m N rb x) (ha:Am m c (.ints K l e t)) (hm:c < 1000000):RdB (mp m c o) N rb x:=by
 obtain ⟨h1,v,h2,h3⟩:=h
 have hne:∀ b,∀ p:FObj,Am m b p → (∀ K l e t,p ≠ .ints K l e t) → b ≠ c:=by
  rintro b p hp hq rfl
  unfold Am at hp ha
  rw [hp] at ha
  exact hq _ _ _ _ (Option.some.inj ha)
 refine ⟨h1,v,Ir hm (hne _ _ h2 (fun _ _ _ _ h=>by cases h)) h2,?_⟩
 rcases h3 with h | ⟨b,o',L,K',fl,l',el,tl,g1,g2,g3,g4,g6,g5⟩
 ·exact .inl h
 ·exact .inr ⟨b,o',L,K',fl,l',el,tl,g1,g2,Ir hm (hne _ _ g3 (fun _ _ _ _ h=>by cases h)) g3,g4,g6,g5⟩
def Ea (cn sn tk ls:Nat):Bs:=Ae cn ++ (Ae sn ++ (Ae tk ++ Ak ls))
theorem Fj (cn sn tk ls:Nat):(Ea cn sn tk ls).length=28:=rfl
theorem L32.way (Y:Cy) (K:Bs) (w s e c v:Nat):L32 (Lo Y K w s e c v):=L32.der Y K _ _
theorem L32.z':L32 z32:=⟨List.length_replicate⟩
end Go.Proofs.YtfdfdagbeeeomaaDoor.V2.S
namespace Go.Proofs.YtfdfdagbeeeomaaDoor.V2.S
open Go
set_option maxRecDepth 100000
set_option linter.unusedVariables false
theorem eqH {O:Oz} (hO:O=zO) {P:FR} {k:KV} {n:Nat} {m:T FObj} {a b c a' b' c':Nat} (h1:a=a' ∧ b=b' ∧ c=c' → k (.b true) ⟨n,m⟩=P) (h0:¬ (a=a' ∧ b=b' ∧ c=c') → k (.b false) ⟨n,m⟩=P):O.pq (.eqF false [.int,.int,.int]) [.agg [.n .u32 a,.n .u32 b,.n .u64 c],.agg [.n .u32 a',.n .u32 b',.n .u64 c']] ⟨n,m⟩ k=P:=by
 subst hO
 show slV (Al std (.eqF false [.int,.int,.int]) [.agg [.int .u32 (Int.ofNat a),.int .u32 (Int.ofNat b),.int .u64 (Int.ofNat c)],.agg [.int .u32 (Int.ofNat a'),.int .u32 (Int.ofNat b'),.int .u64 (Int.ofNat c')]]) (fun v=>k v ⟨n,m⟩)=P
 have e:Al std (.eqF false [.int,.int,.int]) [.agg [.int .u32 (Int.ofNat a),.int .u32 (Int.ofNat b),.int .u64 (Int.ofNat c)],.agg [.int .u32 (Int.ofNat a'),.int .u32 (Int.ofNat b'),.int .u64 (Int.ofNat c')]]=(true,.bool (decide (a=a' ∧ b=b' ∧ c=c'))):=by
  show ((true:Bool),AV.bool (decide (Int.ofNat a=Int.ofNat a') && (decide (Int.ofNat b=Int.ofNat b') && (decide (Int.ofNat c=Int.ofNat c') && true))))=_
  congr 2
  rw [Bool.eq_iff_iff]
  simp only [Bool.and_eq_true,decide_eq_true_eq,Int.ofNat.injEq,and_true]
 rw [e]
 show fV (.b (decide (a=a' ∧ b=b' ∧ c=c'))) (fun v=>k v ⟨n,m⟩)=P
 rw [Fu]
 by_cases h:a=a' ∧ b=b' ∧ c=c'
 ·rw [decide_eq_true h];exact h1 h
 ·rw [decide_eq_false h];exact h0 h
/-! What a server answers. -/
section
variable (Y:Cy) (K:Bs)
def Acc (v:Sv) (s e t:Nat):Prop:=v.ep < 4294967295 ∧ ((s=0 ∧ e=0 ∧ t=0 ∧ v.con=0) ∨ (s ≠ 0 ∧ s=v.ses ∧ v.con ≤ e ∧ 1 ≤ e ∧ e ≤ v.ep ∧ t=Bf Y K s e))
def Rej (v:Sv) (s e t:Nat):Prop:=v.ep < 4294967295 ∧ ((s=0 ∧ e=0 ∧ t=0 ∧ v.con ≠ 0) ∨ (s ≠ 0 ∧ s=v.ses ∧ e < v.con))
def Gv (v:Sv) (cn sn:Nat):Bs:=dgB Y K 2 v.ses (v.ep + 1) (Ea cn sn (Bf Y K v.ses (v.ep + 1)) 0)
def Jl (v:Sv) (s e cn sn:Nat):Sv:=⟨v.ses,v.ep + 1,v.con,true,s,e,cn,Gv Y K v cn sn⟩
end
theorem Sv.same {v:Sv} (h:v.con=v.ep):({ v with con:=v.ep }:Sv)=v:=by
 cases v;cases h;rfl
noncomputable def lnFx (n:Nat) (x:FV) (σ:FH) (c:FV → FR):FR:=kP (fun b off=>gM σ b fun ob=>FObj.rec (motive:=fun _=>FR) .bad
 (fun l _ _=>Bo off l fun l=>Be n l fun l=>A9 l 0 fun m=>Bool.rec .bad (agF l c) (Nat.beq m n && Nat.ble 1 n))
 (fun s _ _=>Bool.rec .bad (fN (At s off n) fun m=>c (.bs m)) (Nat.ble (Nat.add off n) (bl s)))
 (fun k l e t=>slV ((αO (.ints k l e t)).readOk std off n,(αO (.ints k l e t)).read std off n) c) (fun _=>.bad) .bad ob) x
theorem lnF_x {q:Nat} {x:FV} {σ:FH} {c:FV → FR} {P:FR} (h:lnFx q x σ c=P):lnF q x σ c=P:=h
theorem agF3 {a b d:Nat} {c:FV → FR}:agF [.n .u32 a,.n .u32 b,.n .u64 d] c=c (.agg [.n .u32 a,.n .u32 b,.n .u64 d]):=by
 show fV (βV (Ba (αL [.n .u32 a,.n .u32 b,.n .u64 d]))) c=_
 rw [Fu];rfl
theorem Mc {O:Oz} (hO:O=zO) {P:FR} {c:FV → FR} {n:Nat} {m:T FObj} {b off x y z:Nat} {l:List FV} {e:TypeId} {t:Tl} (ha:Am m b (.cells l e t)) (hr:(l.drop off).take 3=[.n .u32 x,.n .u32 y,.n .u64 z]) (h:c (.agg [.n .u32 x,.n .u32 y,.n .u64 z])=P):O.ln 3 (.p b off) ⟨n,m⟩ c=P:=by
 subst hO
 show (gM ⟨n,m⟩ b fun ob=>FObj.rec (motive:=fun _=>FR) .bad
 (fun l _ _=>Bo off l fun l=>Be 3 l fun l=>A9 l 0 fun m=>Bool.rec .bad (agF l c) (Nat.beq m 3 && Nat.ble 1 3))
 (fun s _ _=>Bool.rec .bad (fN (At s off 3) fun m=>c (.bs m)) (Nat.ble (Nat.add off 3) (bl s)))
 (fun k l e t=>slV ((αO (.ints k l e t)).readOk std off 3,(αO (.ints k l e t)).read std off 3) c) (fun _=>.bad) .bad ob)=P
 rw [Eu ha]
 show (Bo off l fun l=>Be 3 l fun l=>A9 l 0 fun m=>Bool.rec .bad (agF l c) (Nat.beq m 3 && Nat.ble 1 3))=P
 rw [B9,Bq,hr,A0]
 show agF [.n .u32 x,.n .u32 y,.n .u64 z] c=P
 rw [agF3];exact h
/-! Guards: a rule whose facts are looked for by tactics must not be tried where it cannot stand. -/
theorem Mq {O:Oz} {P:FR} {x:FV} {σ:FH} {c:FV → FR} (h:O.ln 3 x σ c=P):O.ln 3 x σ c=P:=h
theorem Iq {O:Oz} {P:FR} {x y:FV} {σ:FH} {k:KV} (h:O.st 68 x y σ k=P):O.st 68 x y σ k=P:=h
theorem atS67 {O:Oz} {P:FR} {x y:FV} {σ:FH} {k:KV} (h:O.st 67 x y σ k=P):O.st 67 x y σ k=P:=h
theorem atG68 {P:FR} {x:FV} {σ:FH} {c:FV → FR} (h:lnF 68 x σ c=P):lnF 68 x σ c=P:=h
theorem atG67 {P:FR} {x:FV} {σ:FH} {c:FV → FR} (h:lnF 67 x σ c=P):lnF 67 x σ c=P:=h
end Go.Proofs.YtfdfdagbeeeomaaDoor.V2.S
namespace Go.Proofs.YtfdfdagbeeeomaaDoor.V2.S
open Go
set_option maxRecDepth 100000
set_option maxHeartbeats 4000000
set_option linter.unusedVariables false
attribute [local irreducible] fN fO nM gM pM Phi.fn mp bl At Bx Ce Ac C9 Dr
def NoneV (H:HF):Prop:=∀ {n sb rb:Nat} {m:T FObj} {v:Sv} {wv:FV} {e:TypeId} {t:Tl},Am m sb (.cells (svC rb v wv) e t) → Ms H [.p sb 0] n m (.b false)
theorem nonev_s {O:Oz} (hO:O=zO) (Φ:Phi):NoneV (p30 O Φ):=fun {n sb rb m v wv e t} ha k P hf=>by
 conv=>lhs;whnf
 refine fa0 hO ?_
 conv=>lhs;whnf
 refine ldC hO ha (by rfl) ?_
 conv=>lhs;whnf
 exact hf
def NewV (H:HF):Prop:=∀ {n rb:Nat} {m:T FObj},rb < n → Dc 3 [] H [.p rb 0,.ints .u32 [Int.ofNat 5,Int.ofNat 0,Int.ofNat 0]] n m (fun r n' m'=>∃ sb,r=.tup [.p sb 0,.n .i64 0] ∧ n ≤ sb ∧ SvAt m' n' sb rb ⟨5,0,0,false,0,0,0,[]⟩)
theorem newv_s {O:Oz} (hO:O=zO) (Φ:Phi):NewV (p21 O Φ):=fun {n rb m} hrb k P hn hf=>by
 conv=>lhs;whnf
 refine ubx hO ?_
 conv=>lhs;whnf
 refine (D6 _ _).trans ?_
 conv=>lhs;whnf
 refine (Bg (by omega)).trans ?_
 conv=>lhs;whnf
 refine fa0 hO ?_
 conv=>lhs;whnf
 refine ldI hO (by exact asm) (by rfl) ?_
 conv=>lhs;whnf
 refine eqF hO (by omega) ?_
 conv=>lhs;whnf
 refine fa0 hO ?_
 conv=>lhs;whnf
 refine ldI hO (by exact asm) (by rfl) ?_
 conv=>lhs;whnf
 refine fa0 hO ?_
 conv=>lhs;whnf
 refine ldI hO (by exact asm) (by rfl) ?_
 conv=>lhs;whnf
 refine gtF hO (by omega) ?_
 conv=>lhs;whnf
 refine uln hO ?_
 conv=>lhs;whnf
 refine Aq (by exact asm) ?_
 conv=>lhs;whnf
 refine fe ?_
 conv=>lhs;whnf
 refine fe ?_
 conv=>lhs;whnf
 refine fe ?_
 conv=>lhs;whnf
 refine ubu hO ?_
 conv=>lhs;whnf
 refine fe ?_
 conv=>lhs;whnf
 refine fe ?_
 conv=>lhs;whnf
 refine fe ?_
 conv=>lhs;whnf
 refine fe ?_
 conv=>lhs;whnf
 refine fe ?_
 conv=>lhs;whnf
 refine fe ?_
 conv=>lhs;whnf
 refine fe ?_
 conv=>lhs;whnf
 refine fe ?_
 conv=>lhs;whnf
 refine bxA hO (by omega) (by rfl) ?_
 conv=>lhs;whnf
 exact hf _ _ _ (by omega) (by omega) (by exact Kq.ml (Kq.ml kr)) ⟨n + 1,rfl,by omega,by omega,by omega,by omega,⟨(show 5 < 4294967296 by decide),(show 0 < 4294967296 by decide),(show 0 < 4294967296 by decide),(show ([]:Bs).length ≤ 10000 by decide)⟩,_,(by exact asm),.inl ⟨rfl,rfl⟩⟩
def ConfV (H:HF):Prop:=∀ {n sb rb:Nat} {m:T FObj} {v:Sv},SvAt m n sb rb v → Dc 0 [sb] H [.p sb 0] n m (fun r n' m'=>r=.b (decide (v.con ≠ v.ep)) ∧ SvAt m' n' sb rb { v with con:=v.ep })
theorem confv_s {O:Oz} (hO:O=zO) (Φ:Phi) (HN:NoneV (Phi.fn Φ 30)):ConfV (p9 O Φ):=fun {n sb rb m v} hV k P hn hf=>by
 obtain ⟨hsb,hrb,hne,hok,wv,ha,hw⟩:=hV
 have hq:∀ o,Kq [sb] n m (mp m sb o):=fun o=>Kq.mp kr (.inr (by simp)) (by omega)
 conv=>lhs;whnf
 (refine HN (rb:=rb) (v:=v) ha _ _ ?_)
 conv=>lhs;whnf
 refine fa0 hO ?_
 conv=>lhs;whnf
 refine faN hO ?_
 conv=>lhs;whnf
 refine ldC hO ha (by rfl) ?_
 conv=>lhs;whnf
 refine fa0 hO ?_
 conv=>lhs;whnf
 refine faN hO ?_
 conv=>lhs;whnf
 refine ldC hO ha (by rfl) ?_
 conv=>lhs;whnf
 refine eqB hO (fun h8=>?_) (fun h8=>?_)
 ·conv=>lhs;whnf
  (have e:v.con=v.ep:=(by assumption);have hs:SvAt m n sb rb { v with con:=v.ep }:=(by rw [Sv.same e];exact ⟨hsb,hrb,hne,hok,wv,ha,hw⟩);exact hf _ _ _ (by omega) (by omega) kr ⟨by rw [decide_eq_false (fun h=>h e)],hs⟩)
 ·conv=>lhs;whnf
  refine fa0 hO ?_
  conv=>lhs;whnf
  refine faN hO ?_
  conv=>lhs;whnf
  refine ldC hO ha (by rfl) ?_
  conv=>lhs;whnf
  refine fa0 hO ?_
  conv=>lhs;whnf
  refine faN hO ?_
  conv=>lhs;whnf
  refine stC hO ha (by kernel_rfl) (fun _ _ _=>rfl) (fun _=>rfl) ?_
  conv=>lhs;whnf
  (have e:v.con ≠ v.ep:=(by assumption);exact hf _ _ _ (by omega) (by omega) (hq _) ⟨by rw [decide_eq_true e],hsb,hrb,hne,⟨hok.s,hok.e,hok.e,hok.h⟩,wv,asm,hw.kq ha (hq _) (Nat.le_refl _)⟩)
def MarkV (H:HF):Prop:=∀ {n sb rb:Nat} {m:T FObj} {v:Sv},SvAt m n sb rb v → Ret 1 H [.p sb 0] n m (.ints .u32 [Int.ofNat v.ses,Int.ofNat v.ep,Int.ofNat v.con])
theorem markv_s {O:Oz} (hO:O=zO) (Φ:Phi) (HN:NoneV (Phi.fn Φ 30)):MarkV (p10 O Φ):=fun {n sb rb m v} hV k P hn hf=>by
 obtain ⟨hsb,hrb,hne,hok,wv,ha,hw⟩:=hV
 conv=>lhs;whnf
 refine alO hO (by omega) ?_
 conv=>lhs;whnf
 (refine HN (rb:=rb) (v:=v) (wv:=wv) (by exact an ha) _ _ ?_)
 conv=>lhs;whnf
 refine fa0 hO ?_
 conv=>lhs;whnf
 refine uln hO ?_
 conv=>lhs;whnf
 refine Aq (by exact an ha) ?_
 conv=>lhs;whnf
 refine fe ?_
 conv=>lhs;whnf
 refine fe ?_
 conv=>lhs;whnf
 refine fe ?_
 conv=>lhs;whnf
 refine fe ?_
 conv=>lhs;whnf
 refine fe ?_
 conv=>lhs;whnf
 refine fe ?_
 conv=>lhs;whnf
 refine ust hO ?_
 conv=>lhs;whnf
 refine Aq (by exact asm) ?_
 conv=>lhs;whnf
 refine (D6 _ _).trans ?_
 conv=>lhs;whnf
 refine pM_mp.trans ?_
 conv=>lhs;whnf
 refine Aq (by exact asm) ?_
 conv=>lhs;whnf
 refine fe ?_
 conv=>lhs;whnf
 refine fe ?_
 conv=>lhs;whnf
 refine fe ?_
 conv=>lhs;whnf
 exact hf _ _ (by omega) (by omega) (by exact Kq.kp (Kq.ml (Kq.ml kr)))
def AccV (Y:Cy) (H:HF):Prop:=∀ {n sb rb s e cn t:Nat} {m:T FObj} {K:Bs} {v:Sv},Gl m → 4 ≤ n → SvAt m n sb rb v → RingAt m n rb K → s < 4294967296 → e < 4294967296 → Acc Y K v s e t → Ret 300 H [.p sb 0,.agg [.n .u32 s,.n .u32 e,.n .u64 cn],.n .u64 t,ask0,.n .u32 0] n m (.b true)
theorem accv_s {O:Oz} {Y:Cy} (hO:O=zO) (Φ:Phi) (HF:FitsA (Phi.fn Φ 56)) (HT:TokenS Y (Phi.fn Φ 38)):AccV Y (p37 O Φ):=fun {n sb rb s e cn t m K v} hG hn4 hV hR hs he hA k P hn hf=>by
 obtain ⟨hsb,hrb,hne,hok,wv,ha,hw⟩:=hV
 obtain ⟨hep,⟨rfl,rfl,rfl,hc⟩ | ⟨h0,rfl,h1,h2,h3,rfl⟩⟩:=hA
 ·conv=>lhs;whnf
  refine bxA hO (by omega) (by rfl) ?_
  conv=>lhs;whnf
  refine bxA hO (by omega) (by rfl) ?_
  conv=>lhs;whnf
  refine lnA hO (by exact asm) rfl rfl rfl ?_
  conv=>lhs;whnf
  (refine HF _ _ _ _ (by omega) (fun n1 m1 h1 g1 k1=>?_))
  conv=>lhs;whnf
  refine neF hO (by omega) ?_
  conv=>lhs;whnf
  refine fa0 hO ?_
  conv=>lhs;whnf
  refine faN hO ?_
  conv=>lhs;whnf
  refine ldC hO (by exact ka k1 (an (an ha))) (by rfl) ?_
  conv=>lhs;whnf
  refine eqF hO (by omega) ?_
  conv=>lhs;whnf
  refine fa0 hO ?_
  conv=>lhs;whnf
  refine ldC hO (by exact ka k1 (an asm)) (by rfl) ?_
  conv=>lhs;whnf
  refine eqT hO (by omega) ?_
  conv=>lhs;whnf
  refine fa0 hO ?_
  conv=>lhs;whnf
  refine ldC hO (by exact ka k1 (an asm)) (by rfl) ?_
  conv=>lhs;whnf
  refine eqT hO (by omega) ?_
  conv=>lhs;whnf
  refine eqT hO (by omega) ?_
  conv=>lhs;whnf
  refine fa0 hO ?_
  conv=>lhs;whnf
  refine faN hO ?_
  conv=>lhs;whnf
  refine ldC hO (by exact ka k1 (an (an ha))) (by rfl) ?_
  conv=>lhs;whnf
  refine eqT hO hc ?_
  conv=>lhs;whnf
  exact hf _ _ (by omega) (by omega) (by exact Kq.kp (Kq.tp (Kq.ml (Kq.ml kr)) k1))
 ·conv=>lhs;whnf
  refine bxA hO (by omega) (by rfl) ?_
  conv=>lhs;whnf
  refine bxA hO (by omega) (by rfl) ?_
  conv=>lhs;whnf
  refine lnA hO (by exact asm) rfl rfl rfl ?_
  conv=>lhs;whnf
  (refine HF _ _ _ _ (by omega) (fun n1 m1 h1 g1 k1=>?_))
  conv=>lhs;whnf
  refine neF hO (by omega) ?_
  conv=>lhs;whnf
  refine fa0 hO ?_
  conv=>lhs;whnf
  refine faN hO ?_
  conv=>lhs;whnf
  refine ldC hO (by exact ka k1 (an (an ha))) (by rfl) ?_
  conv=>lhs;whnf
  refine eqF hO (by omega) ?_
  conv=>lhs;whnf
  refine fa0 hO ?_
  conv=>lhs;whnf
  refine ldC hO (by exact ka k1 (an asm)) (by rfl) ?_
  conv=>lhs;whnf
  refine eqF hO (by omega) ?_
  conv=>lhs;whnf
  refine fa0 hO ?_
  conv=>lhs;whnf
  refine ldC hO (by exact ka k1 (an asm)) (by rfl) ?_
  conv=>lhs;whnf
  refine fa0 hO ?_
  conv=>lhs;whnf
  refine faN hO ?_
  conv=>lhs;whnf
  refine ldC hO (by exact ka k1 (an (an ha))) (by rfl) ?_
  conv=>lhs;whnf
  refine mxI hO ?_
  conv=>lhs;whnf
  refine geT hO (by omega) ?_
  conv=>lhs;whnf
  refine fa0 hO ?_
  conv=>lhs;whnf
  refine ldC hO (by exact ka k1 (an asm)) (by rfl) ?_
  conv=>lhs;whnf
  refine fa0 hO ?_
  conv=>lhs;whnf
  refine faN hO ?_
  conv=>lhs;whnf
  refine ldC hO (by exact ka k1 (an (an ha))) (by rfl) ?_
  conv=>lhs;whnf
  refine leT hO h3 ?_
  conv=>lhs;whnf
  refine fa0 hO ?_
  conv=>lhs;whnf
  refine ldC hO (by exact ka k1 (an asm)) (by rfl) ?_
  conv=>lhs;whnf
  refine fa0 hO ?_
  conv=>lhs;whnf
  refine faN hO ?_
  conv=>lhs;whnf
  refine ldC hO (by exact ka k1 (an (an ha))) (by rfl) ?_
  conv=>lhs;whnf
  refine eqT hO (by omega) ?_
  conv=>lhs;whnf
  refine fa0 hO ?_
  conv=>lhs;whnf
  refine ldC hO (by exact ka k1 (an (an ha))) (by rfl) ?_
  conv=>lhs;whnf
  refine fa0 hO ?_
  conv=>lhs;whnf
  refine ldC hO (by exact ka k1 (an asm)) (by rfl) ?_
  conv=>lhs;whnf
  refine fa0 hO ?_
  conv=>lhs;whnf
  refine ldC hO (by exact ka k1 (an asm)) (by rfl) ?_
  conv=>lhs;whnf
  (refine HT (K:=K) (hG.kp (n:=n) (by exact Kq.kp (Kq.tp (Kq.ml (Kq.ml kr)) k1)) hn4) (by omega) ((hR.kp (by exact Kq.kp (Kq.tp (Kq.ml (Kq.ml kr)) k1))).up (by omega)) hs he _ _ (by omega) (fun n2 m2 h2 g2 k2=>?_))
  conv=>lhs;whnf
  refine eqT hO (by omega) ?_
  conv=>lhs;whnf
  exact hf _ _ (by omega) (by omega) (by exact Kq.kp (Kq.tp (Kq.tp (Kq.ml (Kq.ml kr)) k1) k2))
def RejV (Y:Cy) (H:HF):Prop:=∀ {n sb rb s e cn t:Nat} {m:T FObj} {K:Bs} {v:Sv},Gl m → 4 ≤ n → SvAt m n sb rb v → RingAt m n rb K → s < 4294967296 → e < 4294967296 → Rej v s e t → Ret 300 H [.p sb 0,.agg [.n .u32 s,.n .u32 e,.n .u64 cn],.n .u64 t,ask0,.n .u32 0] n m (.b false)
theorem rejv_s {O:Oz} {Y:Cy} (hO:O=zO) (Φ:Phi) (HF:FitsA (Phi.fn Φ 56)):RejV Y (p37 O Φ):=fun {n sb rb s e cn t m K v} hG hn4 hV hR hs he hA k P hn hf=>by
 obtain ⟨hsb,hrb,hne,hok,wv,ha,hw⟩:=hV
 obtain ⟨hep,⟨rfl,rfl,rfl,hc⟩ | ⟨h0,rfl,h1⟩⟩:=hA
 ·conv=>lhs;whnf
  refine bxA hO (by omega) (by rfl) ?_
  conv=>lhs;whnf
  refine bxA hO (by omega) (by rfl) ?_
  conv=>lhs;whnf
  refine lnA hO (by exact asm) rfl rfl rfl ?_
  conv=>lhs;whnf
  (refine HF _ _ _ _ (by omega) (fun n1 m1 h1 g1 k1=>?_))
  conv=>lhs;whnf
  refine neF hO (by omega) ?_
  conv=>lhs;whnf
  refine fa0 hO ?_
  conv=>lhs;whnf
  refine faN hO ?_
  conv=>lhs;whnf
  refine ldC hO (by exact ka k1 (an (an ha))) (by rfl) ?_
  conv=>lhs;whnf
  refine eqF hO (by omega) ?_
  conv=>lhs;whnf
  refine fa0 hO ?_
  conv=>lhs;whnf
  refine ldC hO (by exact ka k1 (an asm)) (by rfl) ?_
  conv=>lhs;whnf
  refine eqT hO (by omega) ?_
  conv=>lhs;whnf
  refine fa0 hO ?_
  conv=>lhs;whnf
  refine ldC hO (by exact ka k1 (an asm)) (by rfl) ?_
  conv=>lhs;whnf
  refine eqT hO (by omega) ?_
  conv=>lhs;whnf
  refine eqT hO (by omega) ?_
  conv=>lhs;whnf
  refine fa0 hO ?_
  conv=>lhs;whnf
  refine faN hO ?_
  conv=>lhs;whnf
  refine ldC hO (by exact ka k1 (an (an ha))) (by rfl) ?_
  conv=>lhs;whnf
  refine eqF hO (by omega) ?_
  conv=>lhs;whnf
  exact hf _ _ (by omega) (by omega) (by exact Kq.kp (Kq.tp (Kq.ml (Kq.ml kr)) k1))
 ·conv=>lhs;whnf
  refine bxA hO (by omega) (by rfl) ?_
  conv=>lhs;whnf
  refine bxA hO (by omega) (by rfl) ?_
  conv=>lhs;whnf
  refine lnA hO (by exact asm) rfl rfl rfl ?_
  conv=>lhs;whnf
  (refine HF _ _ _ _ (by omega) (fun n1 m1 h1 g1 k1=>?_))
  conv=>lhs;whnf
  refine neF hO (by omega) ?_
  conv=>lhs;whnf
  refine fa0 hO ?_
  conv=>lhs;whnf
  refine faN hO ?_
  conv=>lhs;whnf
  refine ldC hO (by exact ka k1 (an (an ha))) (by rfl) ?_
  conv=>lhs;whnf
  refine eqF hO (by omega) ?_
  conv=>lhs;whnf
  refine fa0 hO ?_
  conv=>lhs;whnf
  refine ldC hO (by exact ka k1 (an asm)) (by rfl) ?_
  conv=>lhs;whnf
  refine eqF hO (by omega) ?_
  conv=>lhs;whnf
  refine fa0 hO ?_
  conv=>lhs;whnf
  refine ldC hO (by exact ka k1 (an asm)) (by rfl) ?_
  conv=>lhs;whnf
  refine fa0 hO ?_
  conv=>lhs;whnf
  refine faN hO ?_
  conv=>lhs;whnf
  refine ldC hO (by exact ka k1 (an (an ha))) (by rfl) ?_
  conv=>lhs;whnf
  refine mxI hO ?_
  conv=>lhs;whnf
  refine geF hO (by omega) ?_
  conv=>lhs;whnf
  refine fa0 hO ?_
  conv=>lhs;whnf
  refine ldC hO (by exact ka k1 (an asm)) (by rfl) ?_
  conv=>lhs;whnf
  refine fa0 hO ?_
  conv=>lhs;whnf
  refine faN hO ?_
  conv=>lhs;whnf
  refine ldC hO (by exact ka k1 (an (an ha))) (by rfl) ?_
  conv=>lhs;whnf
  refine eqT hO (by omega) ?_
  conv=>lhs;whnf
  exact hf _ _ (by omega) (by omega) (by exact Kq.kp (Kq.tp (Kq.ml (Kq.ml kr)) k1))
end Go.Proofs.YtfdfdagbeeeomaaDoor.V2.S
namespace Go.Proofs.YtfdfdagbeeeomaaDoor.V2.S
open Go
set_option maxRecDepth 100000
set_option maxHeartbeats 4000000
set_option linter.unusedVariables false
attribute [local irreducible] fN fO nM gM pM Phi.fn mp bl At Bx Ce Ac C9 Dr
def J5 (cn tk:Nat):Bs:=Ae cn ++ (Ae tk ++ ask0B)
theorem D5 (cn tk:Nat):(J5 cn tk).length=21:=rfl
def KeyV (Y:Cy) (H:HF):Prop:=∀ {n sb rb b1 b2 b3 b4 w s e S E C cn sn:Nat} {m:T FObj} {K:Bs} {l:List FV} {e0 e1 e2 e3 e4:TypeId} {t0 t1 t2 t3 t4:Tl},Gl m → 4 ≤ n → RingAt m n rb K → sb < n → b1 < n → b2 < n → b3 < n → b4 < n → Am m b1 (.cells [.p sb 0] e1 t1) → Am m sb (.cells (.p rb 0 :: l) e0 t0) → Am m b2 (.ints .u32 [Int.ofNat S,Int.ofNat E,Int.ofNat C] e2 t2) → Am m b3 (.cells [.n .u32 s,.n .u32 e,.n .u64 cn] e3 t3) → Am m b4 (.ints .u64 [Int.ofNat sn] e4 t4) → w < 2 → S < 4294967296 → E < 4294967296 → cn < 18446744073709551616 → sn < 18446744073709551616 → Ret 150 H [.n .i64 w,.p b1 0,.p b2 0,.p b3 0,.p b4 0] n m (.bs (Ac (Lo Y K w S E cn sn)))
theorem keyv_s {O:Oz} {Y:Cy} (hO:O=zO) (Φ:Phi) (HW:WayS Y (Phi.fn Φ 41)):KeyV Y (p40 O Φ):=fun {n sb rb b1 b2 b3 b4 w s e S E C cn sn m K l e0 e1 e2 e3 e4 t0 t1 t2 t3 t4} hG hn4 hR hsb hb1 hb2 hb3 hb4 a1 a0 a2 a3 a4 hw hs he hcn hsn Kk P hn hf=>by
 have hway:=L32.way Y K w S E cn sn
 conv=>lhs;whnf
 ((refine al32 hO (by omega) ?_))
 conv=>lhs;whnf
 refine ldC hO (by exact an a1) (by rfl) ?_
 conv=>lhs;whnf
 refine fa0 hO ?_
 conv=>lhs;whnf
 refine ldC hO (by exact an a0) (by rfl) ?_
 conv=>lhs;whnf
 refine fa0 hO ?_
 conv=>lhs;whnf
 refine ldI hO (by exact an a2) (by rfl) ?_
 conv=>lhs;whnf
 refine fa0 hO ?_
 conv=>lhs;whnf
 refine ldI hO (by exact an a2) (by rfl) ?_
 conv=>lhs;whnf
 refine fa0 hO ?_
 conv=>lhs;whnf
 refine ldC hO (by exact an a3) (by rfl) ?_
 conv=>lhs;whnf
 refine ldI hO (by exact an a4) (by rfl) ?_
 conv=>lhs;whnf
 (refine HW (hG.kp (n:=n) (by exact Kq.kp (Kq.ml kr)) hn4) (by omega) ((hR.kp (by exact Kq.kp (Kq.ml kr))).up (by omega)) hw hs he hcn hsn _ _ (by omega) (fun n1 m1 h1 g1 k1=>?_))
 conv=>lhs;whnf
 refine st32 hO (by exact ka k1 asm) (by first | assumption | exact L32.z) (by assumption) (fun _=>rfl) ?_
 conv=>lhs;whnf
 refine Aq (by exact asm) ?_
 conv=>lhs;whnf
 ((refine Ie (by assumption) ?_))
 conv=>lhs;whnf
 ((refine fnP (by assumption) ?_))
 conv=>lhs;whnf
 exact hf _ _ (by omega) (by omega) (by exact Kq.kp (Kq.ml (Kq.tp (Kq.ml kr) k1)))
end Go.Proofs.YtfdfdagbeeeomaaDoor.V2.S
namespace Go.Proofs.YtfdfdagbeeeomaaDoor.V2.S
open Go
theorem RingAt.kc {m m':T FObj} {N rb c:Nat} {K:Bs} {l:List FV} {e:TypeId} {t:Tl} (h:RingAt m N rb K) (k:Kq [c] N m m') (ha:Am m c (.cells l e t)) (hne:rb ≠ c):RingAt m' N rb K:=h.kq ha k (Nat.le_refl _) hne
theorem ClAt.kc {m m':T FObj} {N cb rb sb:Nat} {c:Cl} {l:List FV} {e:TypeId} {t:Tl} (h:ClAt m N cb rb c) (k:Kq [sb] N m m') (ha:Am m sb (.cells l e t)) (hne:cb ≠ sb):ClAt m' N cb rb c:=h.kq ha k (Nat.le_refl _) hne
theorem SvAt.kc {m m':T FObj} {N sb rb cb:Nat} {s:Sv} {l:List FV} {e:TypeId} {t:Tl} (h:SvAt m N sb rb s) (k:Kq [cb] N m m') (ha:Am m cb (.cells l e t)) (hne:sb ≠ cb):SvAt m' N sb rb s:=h.kq ha k (Nat.le_refl _) hne
theorem stN {O:Oz} (hO:O=zO) {P:FR} {k:KV} {n:Nat} {m:T FObj} {b off N:Nat} {l0 l' l1:List FV} {e:TypeId} {t:Tl} (ha:Am m b (.cells l0 e t)) (h0:Nat.ble (off + N) l0.length=true) (h1:l'.length=N) (ho:∀ r,Cx l' r=r) (ht:∀ r,gW t r=r) (hl:l0.take off ++ (l' ++ l0.drop (off + N))=l1) (h:k (.tup []) ⟨n,mp m b (.cells l1 e t)⟩=P):O.st N (.p b off) (.agg l') ⟨n,m⟩ k=P:=by
 subst hO hl
 rw [Nat.ble_eq] at h0
 show (gM ⟨n,m⟩ b fun ob=>woF ob N off (.agg l') fun ob=>pM ⟨n,m⟩ b ob fun σ=>k (.tup []) σ)=P
 rw [Eu ha]
 show gW t (Cx l' (A9 l' 0 fun q=>gT (Nat.beq q N) (Be off l0 fun l1=>Bo (Nat.add off q) l0 fun l2=>A9 l1 q fun s1=>A9 l2 s1 fun s2=>A9 l0 0 fun s0=>gT (Nat.beq s2 s0 && Nat.ble (Nat.add off q) s0) (Dk l' l2 fun l2=>Dk l1 l2 fun l=>pM ⟨n,m⟩ b (.cells l e t) fun σ=>k (.tup []) σ))))=P
 rw [ht,ho,A0,Nat.zero_add,h1,gTt (b:=Nat.beq N N) (Nat.beq_refl _),Bq,B9,A0,A0,A0,Co,Co]
 have e2:(Nat.beq (N + (l0.take off).length + (l0.drop (Nat.add off N)).length) (0 + l0.length) && Nat.ble (Nat.add off N) (0 + l0.length))=true:=by
  rw [Bool.and_eq_true]
  refine ⟨beqT' ?_,A4 (by show off + N ≤ 0 + l0.length;omega)⟩
  rw [List.length_take,List.length_drop,Nat.min_eq_left (by omega)]
  show N + off + (l0.length - (off + N))=_
  omega
 rw [gTt e2,pM_mp];exact h
theorem eqI3 {O:Oz} (hO:O=zO) {neg:Bool} {P:FR} {k:KV} {n:Nat} {m:T FObj} {K:IntKind} {l l':List Int} (hl:l=l') (hn:l.length=3) (h:k (.b (!neg)) ⟨n,m⟩=P):O.pq (.eqF neg [.int,.int,.int]) [.ints K l,.ints K l'] ⟨n,m⟩ k=P:=by
 subst hO hl
 match l,hn with
 | [a,b,c],_ =>
  show slV (Al std (.eqF neg [.int,.int,.int]) [.ints K [a,b,c],.ints K [a,b,c]]) (fun v=>k v ⟨n,m⟩)=P
  have e:Al std (.eqF neg [.int,.int,.int]) [.ints K [a,b,c],.ints K [a,b,c]]=(true,.bool (!neg)):=by
   cases neg <;> simp [Al,B3,Ax,B5,std,AV.cells,CK.isInt]
  rw [e]
  cases neg <;> exact h
def Au:Bs:=[UInt8.ofNat 115,UInt8.ofNat 101,UInt8.ofNat 99,UInt8.ofNat 114,UInt8.ofNat 101,UInt8.ofNat 116]
theorem bs6 {O:Oz} (hO:O=zO) {P:FR} {k:KV} {n:Nat} {m:T FObj} (hn:n < 1000000) (h:k (.sl n 0 6 6 true 1) ⟨n + 1,mp m n (.bs (Ac Au) 5 .exact)⟩=P):O.bs 5 1 6 [.n .u8 115,.n .u8 101,.n .u8 99,.n .u8 114,.n .u8 101,.n .u8 116] ⟨n,m⟩ k=P:=by
 subst hO
 show (nM ⟨n,m⟩ (βO (AObj.of (αL [.n .u8 115,.n .u8 101,.n .u8 99,.n .u8 114,.n .u8 101,.n .u8 116]) 5 .exact)) fun b σ=>k (.sl b 0 6 6 true 1) σ)=P
 rw [show βO (AObj.of (αL [.n .u8 115,.n .u8 101,.n .u8 99,.n .u8 114,.n .u8 101,.n .u8 116]) 5 .exact)=.bs (Ac Au) 5 .exact from rfl,Bg hn];exact h
theorem atStA {O:Oz} {P:FR} {N b off:Nat} {l:List FV} {σ:FH} {k:KV} (h:O.st N (.p b off) (.agg l) σ k=P):O.st N (.p b off) (.agg l) σ k=P:=h
theorem Fd:zF67.length=67:=by rw [zF67_eq];exact Fz L32.z' L32.z'
theorem oneZ67 (r:FR):Cx zF67 r=r:=by rw [zF67_eq];exact oneBeg _ _ _ _ _ r
theorem SvAt.kcl {m m':T FObj} {N N' sb rb rb' cb:Nat} {s:Sv} {c:Cl} (h:SvAt m N sb rb s) (k:Kq [cb] N m m') (hc:ClAt m N' cb rb' c) (hne:sb ≠ cb):SvAt m' N sb rb s:=by
 obtain ⟨_,_,_,_,hv,ha,_⟩:=hc
 exact h.kc k ha hne
theorem ClAt.ksv {m m':T FObj} {N N' sb rb rb' cb:Nat} {s:Sv} {c:Cl} (h:ClAt m N cb rb c) (k:Kq [sb] N m m') (hc:SvAt m N' sb rb' s) (hne:cb ≠ sb):ClAt m' N cb rb c:=by
 obtain ⟨_,_,_,_,hv,ha,_⟩:=hc
 exact h.kc k ha hne
theorem RingAt.kcl {m m':T FObj} {N N' rb rb' cb:Nat} {K:Bs} {c:Cl} (h:RingAt m N rb K) (k:Kq [cb] N m m') (hc:ClAt m N' cb rb' c) (hne:rb ≠ cb):RingAt m' N rb K:=by
 obtain ⟨_,_,_,_,hv,ha,_⟩:=hc
 exact h.kc k ha hne
theorem RingAt.ksv {m m':T FObj} {N N' rb rb' sb:Nat} {K:Bs} {s:Sv} (h:RingAt m N rb K) (k:Kq [sb] N m m') (hc:SvAt m N' sb rb' s) (hne:rb ≠ sb):RingAt m' N rb K:=by
 obtain ⟨_,_,_,_,hv,ha,_⟩:=hc
 exact h.kc k ha hne
theorem lnZ67 {b n:Nat} {m:T FObj} {c:FV → FR} {P:FR} {e:TypeId} {t:Tl} (ha:Am m b (.cells zF67 e t)) (h:c (.agg zF67)=P):lnF 67 (.p b 0) ⟨n,m⟩ c=P:=lnG ha Fd rfl (by rw [zF67_eq];exact aggBeg L32.z') h
theorem stZ67 {O:Oz} (hO:O=zO) {P:FR} {k:KV} {n:Nat} {m:T FObj} {b:Nat} {l0:List FV} {e:TypeId} {t:Tl} (ha:Am m b (.cells l0 e t)) (h0:l0.length=67) (ht:∀ r,gW t r=r) (h:k (.tup []) ⟨n,mp m b (.cells zF67 e t)⟩=P):O.st 67 (.p b 0) (.agg zF67) ⟨n,m⟩ k=P:=Ez hO ha h0 Fd oneZ67 ht h
theorem atS32 {O:Oz} {P:FR} {x y:FV} {σ:FH} {k:KV} (h:O.st 32 x y σ k=P):O.st 32 x y σ k=P:=h
theorem atL32 {O:Oz} {P:FR} {x:FV} {σ:FH} {c:FV → FR} (h:O.ln 32 x σ c=P):O.ln 32 x σ c=P:=h
end Go.Proofs.YtfdfdagbeeeomaaDoor.V2.S
namespace Go.Proofs.YtfdfdagbeeeomaaDoor.V2.S
open Go
set_option maxRecDepth 100000
set_option maxHeartbeats 4000000
set_option linter.unusedVariables false
attribute [local irreducible] fN fO nM gM pM Phi.fn mp bl At Bx Ce Ac C9 Dr lnF
def RingS (H:HF):Prop:=∀ {n:Nat} {m:T FObj},Dc 6 [] H [] n m (fun r n' m'=>∃ rb,r=.p rb 0 ∧ n ≤ rb ∧ RingAt m' n' rb Au)
theorem ring_s {O:Oz} (hO:O=zO) (Φ:Phi) (HN:NewG (Phi.fn Φ 45)):RingS (p12 O Φ):=fun {n m} k P hn hf=>by
 conv=>lhs;whnf
 refine bs6 hO (by omega) ?_
 conv=>lhs;whnf
 refine brecBT (by omega) ?_
 conv=>lhs;whnf
 refine Aq (by exact asm) ?_
 conv=>lhs;whnf
 (refine HN (K:=Au) (by exact Sl.ownE (by exact asm) (by omega) (by decide) (by omega)) (by decide) (by decide) _ _ (by omega) (fun v4 n4 m4 h4 g4 k4 q4=>?_);obtain ⟨rb,rfl,c4,r4⟩:=q4)
 conv=>lhs;whnf
 exact hf _ _ _ (by omega) (by omega) (by exact Kq.tr (Kq.ml kr) (Kq.s0 k4)) (by exact ⟨_,⟨rfl,⟨(by omega),r4⟩⟩⟩)
def PairS (H:HF):Prop:=∀ {n:Nat} {m:T FObj},Dc 12 [] H [] n m (fun r n' m'=>∃ rb cb sb,r=.tup [.p cb 0,.p sb 0] ∧ n ≤ rb ∧ rb < cb ∧ cb < sb ∧ RingAt m' n' rb Au ∧ ClAt m' n' cb rb ⟨0,0,0,0,[]⟩ ∧ SvAt m' n' sb rb ⟨5,0,0,false,0,0,0,[]⟩)
theorem pair_s {O:Oz} (hO:O=zO) (Φ:Phi) (HR:RingS (Phi.fn Φ 12)) (HC:NewC (Phi.fn Φ 20)) (HV:NewV (Phi.fn Φ 21)):PairS (p5 O Φ):=fun {n m} k P hn hf=>by
 conv=>lhs;whnf
 refine HR _ _ (by omega) (fun v1 n1 m1 h1 g1 k1 q1=>?_);obtain ⟨rb1,⟨rfl,⟨q1a,q1b⟩⟩⟩:=q1;have z1:=q1b.1
 conv=>lhs;whnf
 refine ubu hO ?_
 conv=>lhs;whnf
 refine fe ?_
 conv=>lhs;whnf
 refine fe ?_
 conv=>lhs;whnf
 refine fe ?_
 conv=>lhs;whnf
 refine HC z1 (by omega) (by omega) (by omega) (by omega) _ _ (by omega) (fun v6 n6 m6 h6 g6 k6 q6=>?_);obtain ⟨cb6,⟨rfl,⟨q6a,q6b⟩⟩⟩:=q6;have z6:=q6b.1
 conv=>lhs;whnf
 refine ubu hO ?_
 conv=>lhs;whnf
 refine fe ?_
 conv=>lhs;whnf
 refine fe ?_
 conv=>lhs;whnf
 refine fe ?_
 conv=>lhs;whnf
 refine HV (by omega) _ _ (by omega) (fun v11 n11 m11 h11 g11 k11 q11=>?_);obtain ⟨sb11,⟨rfl,⟨q11a,q11b⟩⟩⟩:=q11
 conv=>lhs;whnf
 refine neF hO (by omega) ?_
 conv=>lhs;whnf
 refine neF hO (by omega) ?_
 conv=>lhs;whnf
 exact hf _ _ _ (by omega) (by omega) (by exact Kq.tr (Kq.tr (Kq.s0 k1) (Kq.s0 k6)) (Kq.s0 k11)) (by exact ⟨_,⟨_,⟨_,⟨rfl,⟨q1a,⟨(by omega),⟨(by omega),⟨(q1b.kp (by exact Kq.kp (Kq.tr (Kq.s0 k6) (Kq.s0 k11)))).up (by omega),⟨(q6b.kp (by exact Kq.kp (Kq.s0 k11))).up h11,q11b⟩⟩⟩⟩⟩⟩⟩⟩⟩)
end Go.Proofs.YtfdfdagbeeeomaaDoor.V2.S
namespace Go.Proofs.YtfdfdagbeeeomaaDoor.V2.S
open Go
set_option maxRecDepth 100000
set_option maxHeartbeats 4000000
set_option linter.unusedVariables false
attribute [local irreducible] fN fO nM gM pM Phi.fn mp bl At Bx Ce Ac C9 Dr lnF
def TakeR0 (Y:Cy) (H:HF):Prop:=∀ {n sb rb:Nat} {m:T FObj} {v:Sv} {K:Bs} {dv:FV} {s e cn tk sn:Nat},Gl m → 4 ≤ n → 4 ≤ sb → SvAt m n sb rb v → RingAt m n rb K → s < 4294967296 → e < 4294967296 → cn < 18446744073709551616 → tk < 18446744073709551616 → sn < 18446744073709551616 → Sl m n dv (dgB Y K 1 s e (J5 cn tk)) → v.took=true → v.ls=s → v.le=e → v.ln=cn → v.wel ≠ [] → Dc 500 [sb] H [.p sb 0,dv,.n .u64 sn,.n .u32 0] n m (fun r n' m'=>(∃ b,r=.tup [.agg (Gm (.sl b 0 v.wel.length v.wel.length false 1) false 0 (.o .sl) z32 z32),.n .i64 0] ∧ n ≤ b ∧ b < n' ∧ Am m' b (.bs (Ac v.wel) 5 .more)) ∧ SvAt m' n' sb rb v)
theorem taker0_s {O:Oz} {Y:Cy} (hO:O=zO) (Φ:Phi) (HN:NoneV (Phi.fn Φ 30)) (HO:M7 Y (Phi.fn Φ 31)) (HR:NewR (Phi.fn Φ 32)) (H8:Hs (Phi.fn Φ 33)) (HE:ErrR (Phi.fn Φ 34)) (HT:RestR (Phi.fn Φ 36)) (HP:ParseA (Phi.fn Φ 35)) (HC:F0 (Phi.fn Φ 29)):TakeR0 Y (p7 O Φ):=fun {n sb rb m v K dv s e cn tk sn} hG hn4 hs4 hV hR hs he hcn htk hsn hdv e1 e2 e3 e4 hw k P hn hf=>by
 have hV0:=hV
 obtain ⟨hsb,hrb,hne,hok,wv,ha,hwl⟩:=hV
 have hwn:=hok.h
 rcases hwl with ⟨hh,_⟩ | ⟨wb,hh1,rfl,hh2,hh3⟩
 ·exact absurd hh hw
 have ha:Am m sb (.cells [.p rb 0,.n .u32 v.ses,.n .u32 v.ep,.n .u32 v.con,.b true,.n .u32 v.ls,.n .u32 v.le,.n .u64 v.ln,.sl wb 0 v.wel.length v.wel.length false 1] 93 .exact):=by unfold svC at ha;rw [e1] at ha;exact ha
 conv=>lhs;whnf
 refine ubx hO ?_
 conv=>lhs;whnf
 refine (Bg (by omega)).trans ?_
 conv=>lhs;whnf
 refine bxI hO (by omega) ?_
 conv=>lhs;whnf
 refine alO hO (by omega) ?_
 conv=>lhs;whnf
 refine ldC hO (an (an asm)) (by rfl) ?_
 conv=>lhs;whnf
 (refine HN (rb:=rb) (v:=⟨v.ses,v.ep,v.con,true,v.ls,v.le,v.ln,v.wel⟩) (wv:=.sl wb 0 v.wel.length v.wel.length false 1) (an (an (an ha))) _ _ ?_)
 conv=>lhs;whnf
 refine ldC hO (an (an asm)) (by rfl) ?_
 conv=>lhs;whnf
 refine fa0 hO ?_
 conv=>lhs;whnf
 refine ldC hO (an (an (an ha))) (by rfl) ?_
 conv=>lhs;whnf
 refine bs1 hO (by omega) (by omega) ?_
 conv=>lhs;whnf
 (refine HO (k:=1) (s:=s) (e:=e) (K:=K) (p:=J5 cn tk) (hG.kp (n:=4) (Kq.kp (Kq.ml (Kq.ml (Kq.ml (Kq.ml kr))))) (by omega)) (by omega) ((hR.kp (Kq.kp (Kq.ml (Kq.ml (Kq.ml (Kq.ml kr)))))).up (by omega)) (.inl rfl) hs he (fun h=>by cases h) (by rw [D5];decide) ((hdv.kp (Kq.kp (Kq.ml (Kq.ml (Kq.ml (Kq.ml kr)))))).up (by omega)) ⟨by omega,.inl ⟨rfl,rfl,asm⟩⟩ _ _ (by omega) (fun v11 n11 m11 h11 g11 k11 q11=>?_);obtain ⟨b11,rfl,d11,e11,f11⟩:=q11)
 conv=>lhs;whnf
 refine alO hO (by omega) ?_
 conv=>lhs;whnf
 refine ust hO ?_
 conv=>lhs;whnf
 refine Aq asm ?_
 conv=>lhs;whnf
 refine fe ?_
 conv=>lhs;whnf
 refine fe ?_
 conv=>lhs;whnf
 refine fe ?_
 conv=>lhs;whnf
 refine fe ?_
 conv=>lhs;whnf
 refine fe ?_
 conv=>lhs;whnf
 refine fe ?_
 conv=>lhs;whnf
 refine fe ?_
 conv=>lhs;whnf
 refine fe ?_
 conv=>lhs;whnf
 refine fe ?_
 conv=>lhs;whnf
 refine fe ?_
 conv=>lhs;whnf
 refine fe ?_
 conv=>lhs;whnf
 refine fe ?_
 conv=>lhs;whnf
 refine fe ?_
 conv=>lhs;whnf
 refine fe ?_
 conv=>lhs;whnf
 refine pM_mp.trans ?_
 conv=>lhs;whnf
 refine neF hO (by omega) ?_
 conv=>lhs;whnf
 refine fa0 hO ?_
 conv=>lhs;whnf
 refine ldC hO asm (by rfl) ?_
 conv=>lhs;whnf
 (refine HR (x:=J5 cn tk) (Sl.own (an (an f11)) (by omega) (by omega)) (fun h=>by cases h) (by rw [D5];decide) _ _ (by omega) (fun v33 n33 m33 h33 g33 k33 q33=>?_);obtain ⟨rd,rfl,c33,r33⟩:=q33;have z33:=r33.1)
 conv=>lhs;whnf
 refine fa0 hO ?_
 conv=>lhs;whnf
 refine ldC hO (Kq.a0 k33 asm) (by rfl) ?_
 conv=>lhs;whnf
 refine fa0 hO ?_
 conv=>lhs;whnf
 refine ldC hO (Kq.a0 k33 asm) (by rfl) ?_
 conv=>lhs;whnf
 refine alO hO (by omega) ?_
 conv=>lhs;whnf
 (refine H8 (a:=cn) (y:=Ae tk ++ ask0B) ((r33.kp (Kq.kp (Kq.ml kr))).up (by omega)) hcn (by simp only [List.length_append,Ad,Di];omega) _ _ (by omega) (fun v39 n39 m39 h39 g39 k39 q39=>?_);obtain ⟨rfl,r39⟩:=q39)
 conv=>lhs;whnf
 refine ldC hO (Kq.a1 k39 (an (Kq.a0 k33 asm))) (by rfl) ?_
 conv=>lhs;whnf
 refine rcE hO (by kernel_rfl) rfl ?_
 conv=>lhs;whnf
 refine ldC hO (Kq.a1 k39 (an (Kq.a0 k33 asm))) (by rfl) ?_
 conv=>lhs;whnf
 refine rcE hO (by kernel_rfl) rfl ?_
 conv=>lhs;whnf
 refine ubu hO ?_
 conv=>lhs;whnf
 refine fe ?_
 conv=>lhs;whnf
 refine fe ?_
 conv=>lhs;whnf
 refine fe ?_
 conv=>lhs;whnf
 refine ust hO ?_
 conv=>lhs;whnf
 refine Aq (Kq.a1 k39 asm) ?_
 conv=>lhs;whnf
 refine fe ?_
 conv=>lhs;whnf
 refine fe ?_
 conv=>lhs;whnf
 refine fe ?_
 conv=>lhs;whnf
 refine fe ?_
 conv=>lhs;whnf
 refine fe ?_
 conv=>lhs;whnf
 refine fe ?_
 conv=>lhs;whnf
 refine pM_mp.trans ?_
 conv=>lhs;whnf
 (refine H8 (a:=tk) (y:=ask0B) (RdB.mp r39 (Kq.a1 k39 asm) (by omega) (by omega)) htk (by simp only [List.length_append,Ad,Di];omega) _ _ (by omega) (fun v57 n57 m57 h57 g57 k57 q57=>?_);obtain ⟨rfl,r57⟩:=q57)
 conv=>lhs;whnf
 refine HE r57 _ _ ?_
 conv=>lhs;whnf
 refine neF hO (by omega) ?_
 conv=>lhs;whnf
 (refine HT (y:=ask0B) r57 (fun h=>by cases h) (by decide) _ _ (by omega) (fun v60 n60 m60 h60 g60 k60 q60=>?_);obtain ⟨⟨b60,rfl,d60,e60,f60⟩,r60⟩:=q60)
 conv=>lhs;whnf
 (refine HP (by omega) (Sl.own (x:=ask0B) (K:=5) f60 (by omega) (Nat.le_refl 5)) _ _ (by omega) (fun v61 n61 m61 h61 g61 k61 q61=>?_);obtain rfl:=q61)
 conv=>lhs;whnf
 refine alO hO (by omega) ?_
 conv=>lhs;whnf
 refine ust hO ?_
 conv=>lhs;whnf
 refine Aq asm ?_
 conv=>lhs;whnf
 refine fe ?_
 conv=>lhs;whnf
 refine fe ?_
 conv=>lhs;whnf
 refine fe ?_
 conv=>lhs;whnf
 refine fe ?_
 conv=>lhs;whnf
 refine pM_mp.trans ?_
 conv=>lhs;whnf
 refine neF hO (by omega) ?_
 conv=>lhs;whnf
 refine ldC hO (an (an (Kq.a0 k61 (Kq.a1 k60 (Kq.a1 k57 (an (Kq.a1 k39 (an (Kq.a0 k33 (an (an (Kq.a0 k11 (an (an (an asm))))))))))))))) (by rfl) ?_
 conv=>lhs;whnf
 refine fa0 hO ?_
 conv=>lhs;whnf
 refine ldC hO (an (an (Kq.a0 k61 (Kq.a1 k60 (Kq.a1 k57 (an (Kq.a1 k39 (an (Kq.a0 k33 (an (an (Kq.a0 k11 (an (an (an (an ha)))))))))))))))) (by rfl) ?_
 conv=>lhs;whnf
 refine ldC hO (an (an (Kq.a0 k61 (Kq.a1 k60 (Kq.a1 k57 (an (Kq.a1 k39 (an (Kq.a0 k33 (an (an (Kq.a0 k11 (an (an (an asm))))))))))))))) (by rfl) ?_
 conv=>lhs;whnf
 refine fa0 hO ?_
 conv=>lhs;whnf
 ((refine Mq ?_);refine Mc hO (an (an (Kq.a0 k61 (Kq.a1 k60 (Kq.a1 k57 (an (Kq.a1 k39 (an (Kq.a0 k33 (an (an (Kq.a0 k11 (an (an (an (an ha)))))))))))))))) rfl ?_)
 conv=>lhs;whnf
 ((refine Mq ?_);refine Mc hO (an (an (Kq.a0 k61 (Kq.a1 k60 (Kq.a1 k57 asm))))) rfl ?_)
 conv=>lhs;whnf
 refine eqH hO (fun h78=>?_) (fun h78=>absurd (show v.ls=s ∧ v.le=e ∧ v.ln=cn from ⟨e2,e3,e4⟩) h78)
 conv=>lhs;whnf
 refine ldC hO (an (an (Kq.a0 k61 (Kq.a1 k60 (Kq.a1 k57 (an (Kq.a1 k39 (an (Kq.a0 k33 (an (an (Kq.a0 k11 (an (an (an asm))))))))))))))) (by rfl) ?_
 conv=>lhs;whnf
 refine fa0 hO ?_
 conv=>lhs;whnf
 refine ldC hO (an (an (Kq.a0 k61 (Kq.a1 k60 (Kq.a1 k57 (an (Kq.a1 k39 (an (Kq.a0 k33 (an (an (Kq.a0 k11 (an (an (an (an ha)))))))))))))))) (by rfl) ?_
 conv=>lhs;whnf
 (refine HC (x:=v.wel) (Sl.own (an (an (Kq.a0 k61 (Kq.a1 k60 (Kq.a1 k57 (an (Kq.a1 k39 (an (Kq.a0 k33 (an (an (Kq.a0 k11 (an (an (an (an hh2)))))))))))))))) (by omega) (by omega)) (fun h=>absurd h hw) (by omega) _ _ (by omega) (fun v82 n82 m82 h82 g82 k82 q82=>?_);obtain ⟨b82,rfl,c82,d82,e82⟩:=q82.ne hw)
 conv=>lhs;whnf
 refine buD68 hO (Or.inr ⟨_,_,_,_,_,_,rfl⟩) ?_
 conv=>lhs;whnf
 ((refine Iq ?_);refine Ez hO (N:=68) (Kq.a0 k82 (an (an (Kq.a0 k61 (Kq.a1 k60 (Kq.a1 k57 (an (Kq.a1 k39 (an (Kq.a0 k33 (an (an (Kq.a0 k11 (an asm)))))))))))))) (by kernel_rfl) (B2 L32.z' L32.z') (Fo (Or.inr ⟨_,_,_,_,_,_,rfl⟩) (Or.inl rfl)) (fun _=>rfl) ?_)
 conv=>lhs;whnf
 ((refine atG68 ?_);refine lnG (N:=68) asm (B2 L32.z' L32.z') (by kernel_rfl) (Mr (Or.inr ⟨_,_,_,_,_,_,rfl⟩) (Or.inl rfl)) ?_)
 conv=>lhs;whnf
 exact hf _ _ _ (by omega) (by omega) (Kq.ml (Kq.tr (Kq.ml (Kq.ml (Kq.tr (Kq.tr (Kq.tr (Kq.ml (Kq.tr (Kq.ml (Kq.tr (Kq.ml (Kq.ml (Kq.tr (Kq.ml (Kq.ml (Kq.ml (Kq.ml kr)))) (Kq.s0 k11)))) (Kq.s0 k33))) (Kq.s2 k39))) (Kq.s2 k57)) (Kq.s2 k60)) (Kq.s0 k61)))) (Kq.s0 k82))) (⟨⟨_,⟨rfl,⟨(by omega),⟨d82,an e82⟩⟩⟩⟩,(hV0.kp (Kq.kp (Kq.ml (Kq.tr (Kq.ml (Kq.ml (Kq.tr (Kq.tr (Kq.tr (Kq.ml (Kq.tr (Kq.ml (Kq.tr (Kq.ml (Kq.ml (Kq.tr (Kq.ml (Kq.ml (Kq.ml (Kq.ml kr)))) (Kq.s0 k11)))) (Kq.s0 k33))) (Kq.s2 k39))) (Kq.s2 k57)) (Kq.s2 k60)) (Kq.s0 k61)))) (Kq.s0 k82))))).up (by omega)⟩)
end Go.Proofs.YtfdfdagbeeeomaaDoor.V2.S
namespace Go.Proofs.YtfdfdagbeeeomaaDoor.V2.S
open Go
set_option maxRecDepth 100000
set_option maxHeartbeats 4000000
set_option linter.unusedVariables false
attribute [local irreducible] fN fO nM gM pM Phi.fn mp bl At Bx Ce Ac C9 Dr lnF
def TakeA (Y:Cy) (H:HF):Prop:=∀ {n sb rb:Nat} {m:T FObj} {v:Sv} {K:Bs} {dv:FV} {s e cn tk sn:Nat},Gl m → 4 ≤ n → 4 ≤ sb → SvAt m n sb rb v → RingAt m n rb K → s < 4294967296 → e < 4294967296 → cn < 18446744073709551616 → tk < 18446744073709551616 → sn < 18446744073709551616 → Sl m n dv (dgB Y K 1 s e (J5 cn tk)) → (v.took=true → ¬ (v.ls=s ∧ v.le=e ∧ v.ln=cn)) → Acc Y K v s e tk → Dc 2500 [sb] H [.p sb 0,dv,.n .u64 sn,.n .u32 0] n m (fun r n' m'=>(∃ b,r=.tup [.agg (Gm (.sl b 0 (Gv Y K v cn sn).length (Gv Y K v cn sn).length false 1) true 1 (.o .sl) (Lo Y K 0 v.ses (v.ep + 1) cn sn) (Lo Y K 1 v.ses (v.ep + 1) cn sn)),.n .i64 0] ∧ n ≤ b ∧ b < n' ∧ Am m' b (.bs (Ac (Gv Y K v cn sn)) 5 .more)) ∧ SvAt m' n' sb rb (Jl Y K v s e cn sn))
theorem takea_s {O:Oz} {Y:Cy} (hO:O=zO) (Φ:Phi) (HN:NoneV (Phi.fn Φ 30)) (HO:M7 Y (Phi.fn Φ 31)) (HR:NewR (Phi.fn Φ 32)) (H8:Hs (Phi.fn Φ 33)) (HE:ErrR (Phi.fn Φ 34)) (HT:RestR (Phi.fn Φ 36)) (HP:ParseA (Phi.fn Φ 35)) (HC:F0 (Phi.fn Φ 29)) (HTk:AccV Y (Phi.fn Φ 37)) (HW8:Hf (Phi.fn Φ 25) .u64 8 18446744073709551616 8 Ae) (HW4:Hf (Phi.fn Φ 39) .u32 4 4294967296 4 Ak) (HD:It (Phi.fn Φ 27)) (HS:SealS Y (Phi.fn Φ 28)) (HTo:TokenS Y (Phi.fn Φ 38)) (HK:KeyV Y (Phi.fn Φ 40)):TakeA Y (p7 O Φ):=fun {n sb rb m v K dv s e cn tk sn} hG hn4 hs4 hV hR hs he hcn htk hsn hdv e2 hA k P hn hf=>by
 have hV0:=hV
 obtain ⟨hsb,hrb,hne,hok,wv,ha,hwl⟩:=hV
 have hwn:=hok.h
 have hvs:=hok.s
 have hve:=hok.e
 have hvc:=hok.c
 have hvp:=hA.1
 have hw0:=L32.way Y K 0 v.ses (v.ep + 1) cn sn
 have hw1:=L32.way Y K 1 v.ses (v.ep + 1) cn sn
 have htt:Bf Y K v.ses (v.ep + 1) < 18446744073709551616:=by unfold Bf;exact E6 Y _ _
 have hpw:Ae cn ++ Ae sn ++ Ae (Bf Y K v.ses (v.ep + 1)) ++ Ak 0=Ea cn sn (Bf Y K v.ses (v.ep + 1)) 0:=by unfold Ea;simp only [List.append_assoc]
 have hpl:=Fj cn sn (Bf Y K v.ses (v.ep + 1)) 0
 have hpn:Ea cn sn (Bf Y K v.ses (v.ep + 1)) 0 ≠ []:=fun h=>by rw [h] at hpl;cases hpl
 have hdl:(Gv Y K v cn sn).length=63:=by unfold Gv;rw [Lb,hpl]
 have hdn:Gv Y K v cn sn ≠ []:=fun h=>by rw [h] at hdl;cases hdl
 have hwt:(Jl Y K v s e cn sn).wel=Gv Y K v cn sn:=rfl
 have hvk:SvOk (Jl Y K v s e cn sn):=⟨hvs,(show v.ep + 1 < 4294967296 by omega),hvc,(show (Gv Y K v cn sn).length ≤ 10000 by omega)⟩
 cases ht:v.took
 ·have ha:Am m sb (.cells [.p rb 0,.n .u32 v.ses,.n .u32 v.ep,.n .u32 v.con,.b false,.n .u32 v.ls,.n .u32 v.le,.n .u64 v.ln,wv] 93 .exact):=by unfold svC at ha;rw [ht] at ha;exact ha
  conv=>lhs;whnf
  refine ubx hO ?_
  conv=>lhs;whnf
  refine (Bg (by omega)).trans ?_
  conv=>lhs;whnf
  refine bxI hO (by omega) ?_
  conv=>lhs;whnf
  refine alO hO (by omega) ?_
  conv=>lhs;whnf
  refine ldC hO (by exact an (an asm)) (by rfl) ?_
  conv=>lhs;whnf
  (refine HN (rb:=rb) (v:=⟨v.ses,v.ep,v.con,false,v.ls,v.le,v.ln,v.wel⟩) (wv:=wv) (by exact an (an (an ha))) _ _ ?_)
  conv=>lhs;whnf
  refine ldC hO (by exact an (an asm)) (by rfl) ?_
  conv=>lhs;whnf
  refine fa0 hO ?_
  conv=>lhs;whnf
  refine ldC hO (by exact an (an (an ha))) (by rfl) ?_
  conv=>lhs;whnf
  refine bs1 hO (by omega) (by omega) ?_
  conv=>lhs;whnf
  (refine HO (k:=1) (s:=s) (e:=e) (K:=K) (p:=J5 cn tk) (by exact hG.kp (n:=4) (by exact Kq.kp (Kq.ml (Kq.ml (Kq.ml (Kq.ml kr))))) (by omega)) (by omega) (by exact (hR.kp (by exact Kq.kp (Kq.ml (Kq.ml (Kq.ml (Kq.ml kr)))))).up (by omega)) (.inl rfl) hs he (fun h=>by cases h) (by rw [D5];decide) (by exact (hdv.kp (by exact Kq.kp (Kq.ml (Kq.ml (Kq.ml (Kq.ml kr)))))).up (by omega)) ⟨by omega,.inl ⟨rfl,rfl,(by exact asm)⟩⟩ _ _ (by omega) (fun v11 n11 m11 h11 g11 k11 q11=>?_);obtain ⟨b11,rfl,d11,e11,f11⟩:=q11)
  have G11:Gl m11:=(by exact hG.kp (n:=4) (by exact Kq.kp (Kq.tr (Kq.ml (Kq.ml (Kq.ml (Kq.ml kr)))) (Kq.s0 k11))) (by omega))
  have R11:RingAt m11 n11 rb K:=(by exact (hR.kp (by exact Kq.kp (Kq.tr (Kq.ml (Kq.ml (Kq.ml (Kq.ml kr)))) (Kq.s0 k11)))).up (by omega))
  have K11:Kq [sb] n m m11:=(by exact Kq.tr (Kq.ml (Kq.ml (Kq.ml (Kq.ml kr)))) (Kq.s0 k11))
  conv=>lhs;whnf
  refine alO hO (by omega) ?_
  conv=>lhs;whnf
  refine ust hO ?_
  conv=>lhs;whnf
  refine Aq (by exact asm) ?_
  conv=>lhs;whnf
  refine fe ?_
  conv=>lhs;whnf
  refine fe ?_
  conv=>lhs;whnf
  refine fe ?_
  conv=>lhs;whnf
  refine fe ?_
  conv=>lhs;whnf
  refine fe ?_
  conv=>lhs;whnf
  refine fe ?_
  conv=>lhs;whnf
  refine fe ?_
  conv=>lhs;whnf
  refine fe ?_
  conv=>lhs;whnf
  refine fe ?_
  conv=>lhs;whnf
  refine fe ?_
  conv=>lhs;whnf
  refine fe ?_
  conv=>lhs;whnf
  refine fe ?_
  conv=>lhs;whnf
  refine fe ?_
  conv=>lhs;whnf
  refine fe ?_
  conv=>lhs;whnf
  refine pM_mp.trans ?_
  conv=>lhs;whnf
  refine neF hO (by omega) ?_
  conv=>lhs;whnf
  refine fa0 hO ?_
  conv=>lhs;whnf
  refine ldC hO (by exact asm) (by rfl) ?_
  conv=>lhs;whnf
  (refine HR (x:=J5 cn tk) (by exact Sl.own (by exact an (an f11)) (by omega) (by omega)) (fun h=>by cases h) (by rw [D5];decide) _ _ (by omega) (fun v33 n33 m33 h33 g33 k33 q33=>?_);obtain ⟨rd,rfl,c33,r33⟩:=q33;have z33:=r33.1)
  have G33:Gl m33:=(by exact G11.kp (n:=4) (by exact Kq.kp (Kq.tr (Kq.ml (Kq.ml kr)) (Kq.s0 k33))) (by omega))
  have R33:RingAt m33 n33 rb K:=(by exact (R11.kp (by exact Kq.kp (Kq.tr (Kq.ml (Kq.ml kr)) (Kq.s0 k33)))).up (by omega))
  have K33:Kq [sb] n m m33:=(by exact Kq.tr (Kq.ml (Kq.ml (Kq.s1 K11))) (Kq.s0 k33))
  conv=>lhs;whnf
  refine fa0 hO ?_
  conv=>lhs;whnf
  refine ldC hO (by exact Kq.a0 k33 asm) (by rfl) ?_
  conv=>lhs;whnf
  refine fa0 hO ?_
  conv=>lhs;whnf
  refine ldC hO (by exact Kq.a0 k33 asm) (by rfl) ?_
  conv=>lhs;whnf
  refine alO hO (by omega) ?_
  conv=>lhs;whnf
  (refine H8 (a:=cn) (y:=Ae tk ++ ask0B) (by exact (r33.kp (by exact Kq.kp (Kq.ml kr))).up (by omega)) hcn (by simp only [List.length_append,Ad,Di];omega) _ _ (by omega) (fun v39 n39 m39 h39 g39 k39 q39=>?_);obtain ⟨rfl,r39⟩:=q39)
  have G39:Gl m39:=(by exact G33.kp (n:=4) (by exact Kq.kp (Kq.tr (Kq.ml kr) (Kq.s2 k39))) (by omega))
  have R39:RingAt m39 n39 rb K:=(by exact (R11.kp (by exact Kq.kp (Kq.tr (Kq.ml (Kq.tr (Kq.ml (Kq.ml kr)) (Kq.s0 k33))) (Kq.s2 k39)))).up (by omega))
  have K39:Kq [sb] n m m39:=(by exact Kq.tr (Kq.ml (Kq.s1 K33)) (Kq.s2 k39))
  have A40:Am m39 n11 _:=Kq.a1 k39 (an (Kq.a0 k33 asm))
  conv=>lhs;whnf
  refine ldC hO A40 (by rfl) ?_
  conv=>lhs;whnf
  refine rcE hO (by kernel_rfl) rfl ?_
  conv=>lhs;whnf
  refine ldC hO A40 (by rfl) ?_
  conv=>lhs;whnf
  refine rcE hO (by kernel_rfl) rfl ?_
  conv=>lhs;whnf
  refine ubu hO ?_
  conv=>lhs;whnf
  refine fe ?_
  conv=>lhs;whnf
  refine fe ?_
  conv=>lhs;whnf
  refine fe ?_
  conv=>lhs;whnf
  ((refine atStA ?_);refine stN hO (by exact Kq.a1 k39 asm) (by rfl) (by rfl) (fun _=>rfl) (fun _=>rfl) (by rfl) ?_)
  conv=>lhs;whnf
  (refine H8 (a:=tk) (y:=ask0B) (by exact RdB.mp r39 (by exact Kq.a1 k39 asm) (by omega) (by omega)) htk (by simp only [List.length_append,Ad,Di];omega) _ _ (by omega) (fun v49 n49 m49 h49 g49 k49 q49=>?_);obtain ⟨rfl,r49⟩:=q49)
  have G49:Gl m49:=(by exact G39.kp (n:=4) (by exact Kq.kp (Kq.tr (Kq.ml kr) (Kq.s2 k49))) (by omega))
  have R49:RingAt m49 n49 rb K:=(by exact (R11.kp (by exact Kq.kp (Kq.tr (Kq.ml (Kq.tr (Kq.ml (Kq.tr (Kq.ml (Kq.ml kr)) (Kq.s0 k33))) (Kq.s2 k39))) (Kq.s2 k49)))).up (by omega))
  have K49:Kq [sb] n m m49:=(by exact Kq.tr (Kq.ml (Kq.s1 K39)) (Kq.s2 k49))
  conv=>lhs;whnf
  refine HE (y:=ask0B) r49 _ _ ?_
  conv=>lhs;whnf
  refine neF hO (by omega) ?_
  conv=>lhs;whnf
  (refine HT (y:=ask0B) r49 (fun h=>by cases h) (by decide) _ _ (by omega) (fun v52 n52 m52 h52 g52 k52 q52=>?_);obtain ⟨⟨b52,rfl,d52,e52,f52⟩,r52⟩:=q52)
  have G52:Gl m52:=(by exact G49.kp (n:=4) (by exact Kq.kp (Kq.s2 k52)) (by omega))
  have R52:RingAt m52 n52 rb K:=(by exact (R11.kp (by exact Kq.kp (Kq.tr (Kq.tr (Kq.ml (Kq.tr (Kq.ml (Kq.tr (Kq.ml (Kq.ml kr)) (Kq.s0 k33))) (Kq.s2 k39))) (Kq.s2 k49)) (Kq.s2 k52)))).up (by omega))
  have K52:Kq [sb] n m m52:=(by exact Kq.tr (Kq.s1 K49) (Kq.s2 k52))
  conv=>lhs;whnf
  (refine HP (by omega) (Sl.own (x:=ask0B) (K:=5) f52 e52 (Nat.le_refl 5)) _ _ (by omega) (fun v53 n53 m53 h53 g53 k53 q53=>?_);obtain rfl:=q53)
  have G53:Gl m53:=(by exact G52.kp (n:=4) (by exact Kq.kp (Kq.s0 k53)) (by omega))
  have R53:RingAt m53 n53 rb K:=(by exact (R52.kp (by exact Kq.kp (Kq.s0 k53))).up h53)
  have K53:Kq [sb] n m m53:=(by exact Kq.tr (Kq.s1 K52) (Kq.s0 k53))
  conv=>lhs;whnf
  refine alO hO (by omega) ?_
  conv=>lhs;whnf
  refine ust hO ?_
  conv=>lhs;whnf
  refine Aq (by exact asm) ?_
  conv=>lhs;whnf
  refine fe ?_
  conv=>lhs;whnf
  refine fe ?_
  conv=>lhs;whnf
  refine fe ?_
  conv=>lhs;whnf
  refine fe ?_
  conv=>lhs;whnf
  refine pM_mp.trans ?_
  conv=>lhs;whnf
  refine neF hO (by omega) ?_
  have A63:Am m53 n _:=Kq.a0 k53 (Kq.a1 k52 (Kq.a1 k49 (an (Kq.a1 k39 (an (Kq.a0 k33 (an (an (Kq.a0 k11 (an (an (an asm))))))))))))
  conv=>lhs;whnf
  refine ldC hO (by exact an (an A63)) (by rfl) ?_
  conv=>lhs;whnf
  refine fa0 hO ?_
  have A65:Am m53 sb _:=Kq.a0 k53 (Kq.a1 k52 (Kq.a1 k49 (an (Kq.a1 k39 (an (Kq.a0 k33 (an (an (Kq.a0 k11 (an (an (an (an ha)))))))))))))
  conv=>lhs;whnf
  refine ldC hO (by exact an (an A65)) (by rfl) ?_
  conv=>lhs;whnf
  refine ldC hO (by exact an (an A63)) (by rfl) ?_
  have A67:Am m53 n33 _:=Kq.a0 k53 (Kq.a1 k52 (Kq.a1 k49 asm))
  conv=>lhs;whnf
  ((refine Mq ?_);refine Mc hO (by exact an (an A67)) rfl ?_)
  conv=>lhs;whnf
  refine lnA hO (by exact asm) rfl rfl rfl ?_
  conv=>lhs;whnf
  (refine HTk (cn:=cn) (by exact G53.kp (n:=4) (by exact Kq.kp (Kq.ml (Kq.ml kr))) (by omega)) (by omega) (by exact (hV0.kp (by exact Kq.kp (Kq.ml (Kq.ml (Kq.tr (Kq.tr (Kq.tr (Kq.ml (Kq.tr (Kq.ml (Kq.tr (Kq.ml (Kq.ml (Kq.tr (Kq.ml (Kq.ml (Kq.ml (Kq.ml kr)))) (Kq.s0 k11)))) (Kq.s0 k33))) (Kq.s2 k39))) (Kq.s2 k49)) (Kq.s2 k52)) (Kq.s0 k53)))))).up (by omega)) (by exact (R53.kp (by exact Kq.kp (Kq.ml (Kq.ml kr)))).up (by omega)) hs he hA _ _ (by omega) (fun n69 m69 h69 g69 k69=>?_))
  have G69:Gl m69:=(by exact G53.kp (n:=4) (by exact Kq.kp (Kq.tp (Kq.ml (Kq.ml kr)) k69)) (by omega))
  have R69:RingAt m69 n69 rb K:=(by exact (R53.kp (by exact Kq.kp (Kq.tp (Kq.ml (Kq.ml kr)) k69))).up (by omega))
  have K69:Kq [sb] n m m69:=(by exact Kq.tp (Kq.ml (Kq.ml (Kq.s1 K53))) k69)
  conv=>lhs;whnf
  refine ldC hO (by exact ka k69 (an (an A63))) (by rfl) ?_
  conv=>lhs;whnf
  refine fa0 hO ?_
  conv=>lhs;whnf
  refine faN hO ?_
  conv=>lhs;whnf
  refine ldC hO (by exact ka k69 (an (an A65))) (by rfl) ?_
  conv=>lhs;whnf
  refine adU hO (by omega) ?_
  conv=>lhs;whnf
  refine fa0 hO ?_
  conv=>lhs;whnf
  refine faN hO ?_
  conv=>lhs;whnf
  refine stC hO (by exact ka k69 (an (an A65))) (by kernel_rfl) (fun _ _ _=>rfl) (fun _=>rfl) ?_
  conv=>lhs;whnf
  refine ldC hO (by exact an (ka k69 (an (an A63)))) (by rfl) ?_
  conv=>lhs;whnf
  refine fa0 hO ?_
  conv=>lhs;whnf
  refine uln hO ?_
  conv=>lhs;whnf
  refine lnF_x ?_
  conv=>lhs;whnf
  refine Aq (by exact asm) ?_
  conv=>lhs;whnf
  refine fe ?_
  conv=>lhs;whnf
  refine fe ?_
  conv=>lhs;whnf
  refine fe ?_
  conv=>lhs;whnf
  refine fe ?_
  conv=>lhs;whnf
  refine fe ?_
  conv=>lhs;whnf
  refine fe ?_
  conv=>lhs;whnf
  refine alO hO (by omega) ?_
  conv=>lhs;whnf
  refine ust hO ?_
  conv=>lhs;whnf
  refine Aq (by exact asm) ?_
  conv=>lhs;whnf
  refine (D6 _ _).trans ?_
  conv=>lhs;whnf
  refine pM_mp.trans ?_
  conv=>lhs;whnf
  refine alO hO (by omega) ?_
  conv=>lhs;whnf
  refine fa0 hO ?_
  conv=>lhs;whnf
  refine ldC hO (by exact an (an (an (an (ka k69 (an (an A67))))))) (by rfl) ?_
  have A97:Am m69 (n + 1) _:=ka k69 (an (an (Kq.a0 k53 (Kq.a1 k52 (Kq.a1 k49 (an (Kq.a1 k39 (an (Kq.a0 k33 (an (an (Kq.a0 k11 (an (an asm))))))))))))))
  conv=>lhs;whnf
  refine ldI hO (by exact an (an (an (an A97)))) (by rfl) ?_
  conv=>lhs;whnf
  refine ldC hO (by exact an (an (an (an (ka k69 (an (an A63))))))) (by rfl) ?_
  conv=>lhs;whnf
  refine fa0 hO ?_
  conv=>lhs;whnf
  refine ldC hO (by exact an (an (an asm))) (by rfl) ?_
  conv=>lhs;whnf
  refine fa0 hO ?_
  conv=>lhs;whnf
  refine ldI hO (by exact an asm) (by rfl) ?_
  conv=>lhs;whnf
  refine fa0 hO ?_
  conv=>lhs;whnf
  refine ldI hO (by exact an asm) (by rfl) ?_
  conv=>lhs;whnf
  refine HW8 (bs:=[]) (by exact WrA.new (by omega) (by exact asm)) hcn (by simp only [List.length_append,List.length_cons,List.length_nil,Ad,Ai,Bc,Bj];omega) _ _ (by omega) (fun v105 n105 m105 h105 g105 k105 q105=>?_);obtain ⟨rfl,q105a⟩:=q105;try rw [List.nil_append] at q105a
  have G105:Gl m105:=(by exact G69.kp (n:=4) (by exact Kq.kp (Kq.tp (Kq.ml (Kq.ml (Kq.ml (Kq.ml kr)))) k105)) (by omega))
  have R105:RingAt m105 n105 rb K:=(by exact (R69.kc (by exact Kq.tp (Kq.ml (Kq.ml (Kq.ml (Kq.mr kr)))) k105) (by exact ka k69 (an (an A65))) (by omega)).up (by omega))
  have K105:Kq [sb] n m m105:=(by exact Kq.tp (Kq.ml (Kq.ml (Kq.ml (Kq.mr (Kq.s1 K69))))) k105)
  conv=>lhs;whnf
  refine ldI hO (by exact ka k105 (an (an (an (an A97))))) (by rfl) ?_
  conv=>lhs;whnf
  refine rcE hO (by kernel_rfl) rfl ?_
  have A108:Am m105 n _:=ka k105 (an (an (an (an (ka k69 (an (an A63)))))))
  conv=>lhs;whnf
  refine ldC hO A108 (by rfl) ?_
  conv=>lhs;whnf
  refine rcE hO (by kernel_rfl) rfl ?_
  conv=>lhs;whnf
  refine ldC hO (by exact ka k105 (an (an (an asm)))) (by rfl) ?_
  conv=>lhs;whnf
  refine rcE hO (by kernel_rfl) rfl ?_
  conv=>lhs;whnf
  refine ldI hO (by exact ka k105 (an asm)) (by rfl) ?_
  conv=>lhs;whnf
  refine rcE hO (by kernel_rfl) rfl ?_
  conv=>lhs;whnf
  refine ldI hO (by exact ka k105 (an asm)) (by rfl) ?_
  conv=>lhs;whnf
  refine rcE hO (by kernel_rfl) rfl ?_
  conv=>lhs;whnf
  refine HW8 (bs:=Ae cn) q105a hsn (by simp only [List.length_append,List.length_cons,List.length_nil,Ad,Ai,Bc,Bj];omega) _ _ (by omega) (fun v116 n116 m116 h116 g116 k116 q116=>?_);obtain ⟨rfl,q116a⟩:=q116;try rw [List.nil_append] at q116a
  have G116:Gl m116:=(by exact G105.kp (n:=4) (by exact Kq.kp (Kq.dp k116)) (by omega))
  have R116:RingAt m116 n116 rb K:=(by exact (R69.kc (by exact Kq.tp (Kq.tp (Kq.ml (Kq.ml (Kq.ml (Kq.mr kr)))) k105) k116) (by exact ka k69 (an (an A65))) (by omega)).up (by omega))
  have K116:Kq [sb] n m m116:=(by exact Kq.tp (Kq.s1 K105) k116)
  conv=>lhs;whnf
  refine ldC hO (by exact ka k116 A108) (by rfl) ?_
  conv=>lhs;whnf
  refine rcE hO (by kernel_rfl) rfl ?_
  have A119:Am m116 sb _:=ka k116 (ka k105 (an (an (an asm))))
  conv=>lhs;whnf
  refine ldC hO A119 (by rfl) ?_
  conv=>lhs;whnf
  refine rcE hO (by kernel_rfl) rfl ?_
  have A121:Am m116 n69 _:=ka k116 (ka k105 (an asm))
  conv=>lhs;whnf
  refine ldI hO A121 (by rfl) ?_
  conv=>lhs;whnf
  refine rcE hO (by kernel_rfl) rfl ?_
  conv=>lhs;whnf
  refine ldI hO A121 (by rfl) ?_
  conv=>lhs;whnf
  refine rcE hO (by kernel_rfl) rfl ?_
  conv=>lhs;whnf
  (refine HTo G116 (by omega) R116 hvs (by omega) _ _ (by omega) (fun n125 m125 h125 g125 k125=>?_))
  have G125:Gl m125:=(by exact G116.kp (n:=4) (by exact Kq.kp (Kq.dp k125)) (by omega))
  have R125:RingAt m125 n125 rb K:=(by exact (R116.kp (by exact Kq.kp (Kq.dp k125))).up h125)
  have K125:Kq [sb] n m m125:=(by exact Kq.tp (Kq.s1 K116) k125)
  conv=>lhs;whnf
  refine HW8 (bs:=Ae cn ++ Ae sn) (by exact (q116a.kp (by exact Kq.kp (Kq.dp k125))).up h125) htt (by simp only [List.length_append,List.length_cons,List.length_nil,Ad,Ai,Bc,Bj];omega) _ _ (by omega) (fun v126 n126 m126 h126 g126 k126 q126=>?_);obtain ⟨rfl,q126a⟩:=q126;try rw [List.nil_append] at q126a
  have G126:Gl m126:=(by exact G125.kp (n:=4) (by exact Kq.kp (Kq.dp k126)) (by omega))
  have R126:RingAt m126 n126 rb K:=(by exact (R69.kc (by exact Kq.tp (Kq.tp (Kq.tp (Kq.tp (Kq.ml (Kq.ml (Kq.ml (Kq.mr kr)))) k105) k116) k125) k126) (by exact ka k69 (an (an A65))) (by omega)).up (by omega))
  have K126:Kq [sb] n m m126:=(by exact Kq.tp (Kq.s1 K125) k126)
  conv=>lhs;whnf
  refine HW4 (bs:=Ae cn ++ Ae sn ++ Ae (Bf Y K v.ses (v.ep + 1))) q126a (by omega) (by simp only [List.length_append,List.length_cons,List.length_nil,Ad,Ai,Bc,Bj];omega) _ _ (by omega) (fun v127 n127 m127 h127 g127 k127 q127=>?_);obtain ⟨rfl,q127a⟩:=q127;have q127a:=q127a.to hpw
  have G127:Gl m127:=(by exact G126.kp (n:=4) (by exact Kq.kp (Kq.dp k127)) (by omega))
  have R127:RingAt m127 n127 rb K:=(by exact (R69.kc (by exact Kq.tp (Kq.tp (Kq.tp (Kq.tp (Kq.tp (Kq.ml (Kq.ml (Kq.ml (Kq.mr kr)))) k105) k116) k125) k126) k127) (by exact ka k69 (an (an A65))) (by omega)).up (by omega))
  have K127:Kq [sb] n m m127:=(by exact Kq.tp (Kq.s1 K126) k127)
  conv=>lhs;whnf
  refine HD (bs:=Ea cn sn (Bf Y K v.ses (v.ep + 1)) 0) q127a (by assumption) (by omega) _ _ (by omega) (fun v128 n128 m128 h128 g128 k128 q128=>?_);obtain ⟨b128,⟨rfl,⟨q128a,⟨q128b,⟨q128c,q128d⟩⟩⟩⟩⟩:=q128
  have G128:Gl m128:=(by exact G127.kp (n:=4) (by exact Kq.kp (Kq.dp k128)) (by omega))
  have R128:RingAt m128 n128 rb K:=(by exact (R69.kc (by exact Kq.tp (Kq.tp (Kq.tp (Kq.tp (Kq.tp (Kq.tp (Kq.ml (Kq.ml (Kq.ml (Kq.mr kr)))) k105) k116) k125) k126) k127) k128) (by exact ka k69 (an (an A65))) (by omega)).up (by omega))
  have K128:Kq [sb] n m m128:=(by exact Kq.tp (Kq.s1 K127) k128)
  have A129:Am m128 n _:=ka k128 (ka k127 (ka k126 (ka k125 (ka k116 A108))))
  conv=>lhs;whnf
  refine ldC hO A129 (by rfl) ?_
  conv=>lhs;whnf
  refine ldC hO A129 (by rfl) ?_
  have A131:Am m128 n33 _:=ka k128 (ka k127 (ka k126 (ka k125 (ka k116 (ka k105 (an (an (an (an (ka k69 (an (an A67))))))))))))
  conv=>lhs;whnf
  ((refine Mq ?_);refine Mc hO A131 rfl ?_)
  conv=>lhs;whnf
  refine fa0 hO ?_
  have A133:Am m128 sb _:=ka k128 (ka k127 (ka k126 (ka k125 A119)))
  conv=>lhs;whnf
  refine stC hO A133 (by kernel_rfl) (fun _ _ _=>rfl) (fun _=>rfl) ?_
  conv=>lhs;whnf
  refine ldC hO (by exact an A129) (by rfl) ?_
  conv=>lhs;whnf
  refine rcE hO (by kernel_rfl) rfl ?_
  conv=>lhs;whnf
  ((refine Mq ?_);refine Mc hO (by exact an A131) rfl ?_)
  conv=>lhs;whnf
  refine rcE hO (by kernel_rfl) rfl ?_
  conv=>lhs;whnf
  refine fa0 hO ?_
  conv=>lhs;whnf
  ((refine atStA ?_);refine stN hO (by exact asm) (by rfl) (by rfl) (fun _=>rfl) (fun _=>rfl) (by rfl) ?_)
  conv=>lhs;whnf
  refine ldC hO (by exact an (an A129)) (by rfl) ?_
  conv=>lhs;whnf
  refine ldC hO (by exact an (an A129)) (by rfl) ?_
  conv=>lhs;whnf
  refine fa0 hO ?_
  conv=>lhs;whnf
  refine ldC hO (by exact asm) (by rfl) ?_
  conv=>lhs;whnf
  refine fa0 hO ?_
  have A145:Am m128 n69 _:=ka k128 (ka k127 (ka k126 (ka k125 A121)))
  conv=>lhs;whnf
  refine ldI hO (by exact an (an A145)) (by rfl) ?_
  conv=>lhs;whnf
  refine fa0 hO ?_
  conv=>lhs;whnf
  refine ldI hO (by exact an (an A145)) (by rfl) ?_
  conv=>lhs;whnf
  refine ubu hO ?_
  conv=>lhs;whnf
  (refine HS (k:=2) (s:=v.ses) (e:=v.ep + 1) (p:=Ea cn sn (Bf Y K v.ses (v.ep + 1)) 0) (by exact G128.kp (n:=4) (by exact Kq.kp (Kq.ml (Kq.ml kr))) (by omega)) (by omega) (by exact (R128.kc (by exact Kq.mr (Kq.mr kr)) A133 (by omega)).up (by omega)) (by omega) hvs (by omega) (by exact an (an q128c)) q128b rfl (by rw [Fj];decide) _ _ (by omega) (fun v149 n149 m149 h149 g149 k149 q149=>?_);rw [show dgB Y K 2 v.ses (v.ep + 1) (Ea cn sn (Bf Y K v.ses (v.ep + 1)) 0)=Gv Y K v cn sn by unfold Gv;rfl] at q149;obtain ⟨b149,rfl,d149,e149,f149⟩:=q149)
  have G149:Gl m149:=(by exact G128.kp (n:=4) (by exact Kq.kp (Kq.tr (Kq.ml (Kq.ml kr)) (Kq.s0 k149))) (by omega))
  have R149:RingAt m149 n149 rb K:=(by exact (R128.kc (by exact Kq.tr (Kq.mr (Kq.mr kr)) (Kq.s0 k149)) A133 (by omega)).up h149)
  have K149:Kq [sb] n m m149:=(by exact Kq.tr (Kq.mr (Kq.mr (Kq.s1 K128))) (Kq.s0 k149))
  conv=>lhs;whnf
  refine ldC hO (by exact Kq.a0 k149 (an (an A129))) (by rfl) ?_
  conv=>lhs;whnf
  refine rcE hO (by kernel_rfl) rfl ?_
  conv=>lhs;whnf
  refine fa0 hO ?_
  conv=>lhs;whnf
  refine stC hO (by exact Kq.a0 k149 asm) (by kernel_rfl) (fun _ _ _=>rfl) (fun _=>rfl) ?_
  conv=>lhs;whnf
  refine ldC hO (by exact an (Kq.a0 k149 (an (an A129)))) (by rfl) ?_
  conv=>lhs;whnf
  refine fa0 hO ?_
  conv=>lhs;whnf
  refine ldC hO (by exact asm) (by rfl) ?_
  have A157:Am m149 n53 _:=Kq.a0 k149 (an (an (ka k128 (ka k127 (ka k126 (ka k125 (ka k116 (ka k105 (an (an (an (an (ka k69 asm)))))))))))))
  conv=>lhs;whnf
  refine lnA hO (by exact an A157) rfl rfl rfl ?_
  conv=>lhs;whnf
  (refine HC (x:=Gv Y K v cn sn) (by exact Sl.own (by exact an f149) e149 (by omega)) (fun h=>absurd h hdn) (by omega) _ _ (by omega) (fun v158 n158 m158 h158 g158 k158 q158=>?_);obtain ⟨b158,rfl,c158,d158,e158⟩:=q158.ne hdn)
  have G158:Gl m158:=(by exact G149.kp (n:=4) (by exact Kq.kp (Kq.tr (Kq.ml kr) (Kq.s0 k158))) (by omega))
  have R158:RingAt m158 n158 rb K:=(by exact (R149.kc (by exact Kq.tr (Kq.mr kr) (Kq.s0 k158)) (by exact Kq.a0 k149 asm) (by omega)).up h158)
  have K158:Kq [sb] n m m158:=(by exact Kq.tr (Kq.mr (Kq.s1 K149)) (Kq.s0 k158))
  conv=>lhs;whnf
  refine lnA hO (by exact Kq.a0 k158 (an A157)) rfl rfl rfl ?_
  conv=>lhs;whnf
  refine rcE hO (by kernel_rfl) rfl ?_
  conv=>lhs;whnf
  refine HK (sb:=sb) (rb:=rb) (s:=s) (e:=e) (S:=v.ses) (E:=v.ep + 1) (C:=v.con) (cn:=cn) (sn:=sn) (K:=K) (e0:=93) (e1:=24) (e2:=48) (e3:=91) (e4:=22) (t0:=Tl.exact) (t1:=Tl.exact) (t2:=Tl.exact) (t3:=Tl.exact) (t4:=Tl.exact) G158 (by omega) R158 (by omega) (by omega) (by omega) (by omega) (by omega) (by exact Kq.a0 k158 (an (Kq.a0 k149 (an (an A129))))) (by exact Kq.a0 k158 asm) (by exact Kq.a0 k158 (an (Kq.a0 k149 (an (an A145))))) (by exact Kq.a0 k158 (an (Kq.a0 k149 (an (an A131))))) (by exact Kq.a0 k158 (an (Kq.a0 k149 (an (an (ka k128 (ka k127 (ka k126 (ka k125 (ka k116 (ka k105 (an (an (an (an A97))))))))))))))) (by omega) hvs (by omega) hcn hsn _ _ (by omega) (fun n161 m161 h161 g161 k161=>?_)
  have G161:Gl m161:=(by exact G158.kp (n:=4) (by exact Kq.kp (Kq.dp k161)) (by omega))
  have R161:RingAt m161 n161 rb K:=(by exact (R158.kp (by exact Kq.kp (Kq.dp k161))).up h161)
  have K161:Kq [sb] n m m161:=(by exact Kq.tp (Kq.s1 K158) k161)
  have A162:Am m161 n53 _:=ka k161 (Kq.a0 k158 (an A157))
  conv=>lhs;whnf
  refine lnA hO A162 rfl rfl rfl ?_
  conv=>lhs;whnf
  refine rcE hO (by kernel_rfl) rfl ?_
  conv=>lhs;whnf
  refine HK (sb:=sb) (rb:=rb) (s:=s) (e:=e) (S:=v.ses) (E:=v.ep + 1) (C:=v.con) (cn:=cn) (sn:=sn) (K:=K) (e0:=93) (e1:=24) (e2:=48) (e3:=91) (e4:=22) (t0:=Tl.exact) (t1:=Tl.exact) (t2:=Tl.exact) (t3:=Tl.exact) (t4:=Tl.exact) G161 (by omega) R161 (by omega) (by omega) (by omega) (by omega) (by omega) (by exact ka k161 (Kq.a0 k158 (an (Kq.a0 k149 (an (an A129)))))) (by exact ka k161 (Kq.a0 k158 asm)) (by exact ka k161 (Kq.a0 k158 (an (Kq.a0 k149 (an (an A145)))))) (by exact ka k161 (Kq.a0 k158 (an (Kq.a0 k149 (an (an A131)))))) (by exact ka k161 (Kq.a0 k158 (an (Kq.a0 k149 (an (an (ka k128 (ka k127 (ka k126 (ka k125 (ka k116 (ka k105 (an (an (an (an A97)))))))))))))))) (by omega) hvs (by omega) hcn hsn _ _ (by omega) (fun n164 m164 h164 g164 k164=>?_)
  have G164:Gl m164:=(by exact G161.kp (n:=4) (by exact Kq.kp (Kq.dp k164)) (by omega))
  have R164:RingAt m164 n164 rb K:=(by exact (R161.kp (by exact Kq.kp (Kq.dp k164))).up h164)
  have K164:Kq [sb] n m m164:=(by exact Kq.tp (Kq.s1 K161) k164)
  conv=>lhs;whnf
  refine lnA hO (by exact ka k164 A162) rfl rfl rfl ?_
  conv=>lhs;whnf
  refine rcE hO (by kernel_rfl) rfl ?_
  conv=>lhs;whnf
  refine buRep hO (by exact Or.inr ⟨_,_,_,_,_,_,rfl⟩) (by exact Or.inl rfl) hw0 hw1 ?_
  have A168:Am m164 (n + 1 + 1) _:=ka k164 (ka k161 (Kq.a0 k158 (an (Kq.a0 k149 (an (an (ka k128 (ka k127 (ka k126 (ka k125 (ka k116 (ka k105 (an (an (an (an (ka k69 (an (an (Kq.a0 k53 (Kq.a1 k52 (Kq.a1 k49 (an (Kq.a1 k39 (an (Kq.a0 k33 (an (an (Kq.a0 k11 (an asm))))))))))))))))))))))))))))))
  conv=>lhs;whnf
  ((refine Iq ?_);refine Ez hO (N:=68) A168 (by kernel_rfl) (B2 hw0 hw1) (Fo (by exact Or.inr ⟨_,_,_,_,_,_,rfl⟩) (by exact Or.inl rfl)) (fun _=>rfl) ?_)
  conv=>lhs;whnf
  ((refine atG68 ?_);refine lnG (N:=68) (by exact asm) (B2 hw0 hw1) (by kernel_rfl) (Mr (by exact Or.inr ⟨_,_,_,_,_,_,rfl⟩) (by exact Or.inl rfl)) ?_)
  conv=>lhs;whnf
  exact hf _ _ _ (by omega) (by omega) (by exact Kq.ml (Kq.s1 K164)) (by exact ⟨⟨_,⟨rfl,⟨(by omega),⟨(by omega),an (ka k164 (ka k161 e158))⟩⟩⟩⟩,⟨(by omega),⟨(by omega),⟨(by omega),⟨hvk,⟨_,⟨an (ka k164 (ka k161 (Kq.a0 k158 asm))),.inr (⟨_,⟨(by omega),⟨rfl,⟨an (ka k164 (ka k161 (Kq.a0 k158 (an f149)))),(by assumption)⟩⟩⟩⟩)⟩⟩⟩⟩⟩⟩⟩)
 ·have ha:Am m sb (.cells [.p rb 0,.n .u32 v.ses,.n .u32 v.ep,.n .u32 v.con,.b true,.n .u32 v.ls,.n .u32 v.le,.n .u64 v.ln,wv] 93 .exact):=by unfold svC at ha;rw [ht] at ha;exact ha
  have e2:=e2 ht
  conv=>lhs;whnf
  refine ubx hO ?_
  conv=>lhs;whnf
  refine (Bg (by omega)).trans ?_
  conv=>lhs;whnf
  refine bxI hO (by omega) ?_
  conv=>lhs;whnf
  refine alO hO (by omega) ?_
  conv=>lhs;whnf
  refine ldC hO (by exact an (an asm)) (by rfl) ?_
  conv=>lhs;whnf
  (refine HN (rb:=rb) (v:=⟨v.ses,v.ep,v.con,true,v.ls,v.le,v.ln,v.wel⟩) (wv:=wv) (by exact an (an (an ha))) _ _ ?_)
  conv=>lhs;whnf
  refine ldC hO (by exact an (an asm)) (by rfl) ?_
  conv=>lhs;whnf
  refine fa0 hO ?_
  conv=>lhs;whnf
  refine ldC hO (by exact an (an (an ha))) (by rfl) ?_
  conv=>lhs;whnf
  refine bs1 hO (by omega) (by omega) ?_
  conv=>lhs;whnf
  (refine HO (k:=1) (s:=s) (e:=e) (K:=K) (p:=J5 cn tk) (by exact hG.kp (n:=4) (by exact Kq.kp (Kq.ml (Kq.ml (Kq.ml (Kq.ml kr))))) (by omega)) (by omega) (by exact (hR.kp (by exact Kq.kp (Kq.ml (Kq.ml (Kq.ml (Kq.ml kr)))))).up (by omega)) (.inl rfl) hs he (fun h=>by cases h) (by rw [D5];decide) (by exact (hdv.kp (by exact Kq.kp (Kq.ml (Kq.ml (Kq.ml (Kq.ml kr)))))).up (by omega)) ⟨by omega,.inl ⟨rfl,rfl,(by exact asm)⟩⟩ _ _ (by omega) (fun v11 n11 m11 h11 g11 k11 q11=>?_);obtain ⟨b11,rfl,d11,e11,f11⟩:=q11)
  have G11:Gl m11:=(by exact hG.kp (n:=4) (by exact Kq.kp (Kq.tr (Kq.ml (Kq.ml (Kq.ml (Kq.ml kr)))) (Kq.s0 k11))) (by omega))
  have R11:RingAt m11 n11 rb K:=(by exact (hR.kp (by exact Kq.kp (Kq.tr (Kq.ml (Kq.ml (Kq.ml (Kq.ml kr)))) (Kq.s0 k11)))).up (by omega))
  have K11:Kq [sb] n m m11:=(by exact Kq.tr (Kq.ml (Kq.ml (Kq.ml (Kq.ml kr)))) (Kq.s0 k11))
  conv=>lhs;whnf
  refine alO hO (by omega) ?_
  conv=>lhs;whnf
  refine ust hO ?_
  conv=>lhs;whnf
  refine Aq (by exact asm) ?_
  conv=>lhs;whnf
  refine fe ?_
  conv=>lhs;whnf
  refine fe ?_
  conv=>lhs;whnf
  refine fe ?_
  conv=>lhs;whnf
  refine fe ?_
  conv=>lhs;whnf
  refine fe ?_
  conv=>lhs;whnf
  refine fe ?_
  conv=>lhs;whnf
  refine fe ?_
  conv=>lhs;whnf
  refine fe ?_
  conv=>lhs;whnf
  refine fe ?_
  conv=>lhs;whnf
  refine fe ?_
  conv=>lhs;whnf
  refine fe ?_
  conv=>lhs;whnf
  refine fe ?_
  conv=>lhs;whnf
  refine fe ?_
  conv=>lhs;whnf
  refine fe ?_
  conv=>lhs;whnf
  refine pM_mp.trans ?_
  conv=>lhs;whnf
  refine neF hO (by omega) ?_
  conv=>lhs;whnf
  refine fa0 hO ?_
  conv=>lhs;whnf
  refine ldC hO (by exact asm) (by rfl) ?_
  conv=>lhs;whnf
  (refine HR (x:=J5 cn tk) (by exact Sl.own (by exact an (an f11)) (by omega) (by omega)) (fun h=>by cases h) (by rw [D5];decide) _ _ (by omega) (fun v33 n33 m33 h33 g33 k33 q33=>?_);obtain ⟨rd,rfl,c33,r33⟩:=q33;have z33:=r33.1)
  have G33:Gl m33:=(by exact G11.kp (n:=4) (by exact Kq.kp (Kq.tr (Kq.ml (Kq.ml kr)) (Kq.s0 k33))) (by omega))
  have R33:RingAt m33 n33 rb K:=(by exact (R11.kp (by exact Kq.kp (Kq.tr (Kq.ml (Kq.ml kr)) (Kq.s0 k33)))).up (by omega))
  have K33:Kq [sb] n m m33:=(by exact Kq.tr (Kq.ml (Kq.ml (Kq.s1 K11))) (Kq.s0 k33))
  conv=>lhs;whnf
  refine fa0 hO ?_
  conv=>lhs;whnf
  refine ldC hO (by exact Kq.a0 k33 asm) (by rfl) ?_
  conv=>lhs;whnf
  refine fa0 hO ?_
  conv=>lhs;whnf
  refine ldC hO (by exact Kq.a0 k33 asm) (by rfl) ?_
  conv=>lhs;whnf
  refine alO hO (by omega) ?_
  conv=>lhs;whnf
  (refine H8 (a:=cn) (y:=Ae tk ++ ask0B) (by exact (r33.kp (by exact Kq.kp (Kq.ml kr))).up (by omega)) hcn (by simp only [List.length_append,Ad,Di];omega) _ _ (by omega) (fun v39 n39 m39 h39 g39 k39 q39=>?_);obtain ⟨rfl,r39⟩:=q39)
  have G39:Gl m39:=(by exact G33.kp (n:=4) (by exact Kq.kp (Kq.tr (Kq.ml kr) (Kq.s2 k39))) (by omega))
  have R39:RingAt m39 n39 rb K:=(by exact (R11.kp (by exact Kq.kp (Kq.tr (Kq.ml (Kq.tr (Kq.ml (Kq.ml kr)) (Kq.s0 k33))) (Kq.s2 k39)))).up (by omega))
  have K39:Kq [sb] n m m39:=(by exact Kq.tr (Kq.ml (Kq.s1 K33)) (Kq.s2 k39))
  have A40:Am m39 n11 _:=Kq.a1 k39 (an (Kq.a0 k33 asm))
  conv=>lhs;whnf
  refine ldC hO A40 (by rfl) ?_
  conv=>lhs;whnf
  refine rcE hO (by kernel_rfl) rfl ?_
  conv=>lhs;whnf
  refine ldC hO A40 (by rfl) ?_
  conv=>lhs;whnf
  refine rcE hO (by kernel_rfl) rfl ?_
  conv=>lhs;whnf
  refine ubu hO ?_
  conv=>lhs;whnf
  refine fe ?_
  conv=>lhs;whnf
  refine fe ?_
  conv=>lhs;whnf
  refine fe ?_
  conv=>lhs;whnf
  ((refine atStA ?_);refine stN hO (by exact Kq.a1 k39 asm) (by rfl) (by rfl) (fun _=>rfl) (fun _=>rfl) (by rfl) ?_)
  conv=>lhs;whnf
  (refine H8 (a:=tk) (y:=ask0B) (by exact RdB.mp r39 (by exact Kq.a1 k39 asm) (by omega) (by omega)) htk (by simp only [List.length_append,Ad,Di];omega) _ _ (by omega) (fun v49 n49 m49 h49 g49 k49 q49=>?_);obtain ⟨rfl,r49⟩:=q49)
  have G49:Gl m49:=(by exact G39.kp (n:=4) (by exact Kq.kp (Kq.tr (Kq.ml kr) (Kq.s2 k49))) (by omega))
  have R49:RingAt m49 n49 rb K:=(by exact (R11.kp (by exact Kq.kp (Kq.tr (Kq.ml (Kq.tr (Kq.ml (Kq.tr (Kq.ml (Kq.ml kr)) (Kq.s0 k33))) (Kq.s2 k39))) (Kq.s2 k49)))).up (by omega))
  have K49:Kq [sb] n m m49:=(by exact Kq.tr (Kq.ml (Kq.s1 K39)) (Kq.s2 k49))
  conv=>lhs;whnf
  refine HE (y:=ask0B) r49 _ _ ?_
  conv=>lhs;whnf
  refine neF hO (by omega) ?_
  conv=>lhs;whnf
  (refine HT (y:=ask0B) r49 (fun h=>by cases h) (by decide) _ _ (by omega) (fun v52 n52 m52 h52 g52 k52 q52=>?_);obtain ⟨⟨b52,rfl,d52,e52,f52⟩,r52⟩:=q52)
  have G52:Gl m52:=(by exact G49.kp (n:=4) (by exact Kq.kp (Kq.s2 k52)) (by omega))
  have R52:RingAt m52 n52 rb K:=(by exact (R11.kp (by exact Kq.kp (Kq.tr (Kq.tr (Kq.ml (Kq.tr (Kq.ml (Kq.tr (Kq.ml (Kq.ml kr)) (Kq.s0 k33))) (Kq.s2 k39))) (Kq.s2 k49)) (Kq.s2 k52)))).up (by omega))
  have K52:Kq [sb] n m m52:=(by exact Kq.tr (Kq.s1 K49) (Kq.s2 k52))
  conv=>lhs;whnf
  (refine HP (by omega) (Sl.own (x:=ask0B) (K:=5) f52 e52 (Nat.le_refl 5)) _ _ (by omega) (fun v53 n53 m53 h53 g53 k53 q53=>?_);obtain rfl:=q53)
  have G53:Gl m53:=(by exact G52.kp (n:=4) (by exact Kq.kp (Kq.s0 k53)) (by omega))
  have R53:RingAt m53 n53 rb K:=(by exact (R52.kp (by exact Kq.kp (Kq.s0 k53))).up h53)
  have K53:Kq [sb] n m m53:=(by exact Kq.tr (Kq.s1 K52) (Kq.s0 k53))
  conv=>lhs;whnf
  refine alO hO (by omega) ?_
  conv=>lhs;whnf
  refine ust hO ?_
  conv=>lhs;whnf
  refine Aq (by exact asm) ?_
  conv=>lhs;whnf
  refine fe ?_
  conv=>lhs;whnf
  refine fe ?_
  conv=>lhs;whnf
  refine fe ?_
  conv=>lhs;whnf
  refine fe ?_
  conv=>lhs;whnf
  refine pM_mp.trans ?_
  conv=>lhs;whnf
  refine neF hO (by omega) ?_
  have A63:Am m53 n _:=Kq.a0 k53 (Kq.a1 k52 (Kq.a1 k49 (an (Kq.a1 k39 (an (Kq.a0 k33 (an (an (Kq.a0 k11 (an (an (an asm))))))))))))
  conv=>lhs;whnf
  refine ldC hO (by exact an (an A63)) (by rfl) ?_
  conv=>lhs;whnf
  refine fa0 hO ?_
  have A65:Am m53 sb _:=Kq.a0 k53 (Kq.a1 k52 (Kq.a1 k49 (an (Kq.a1 k39 (an (Kq.a0 k33 (an (an (Kq.a0 k11 (an (an (an (an ha)))))))))))))
  conv=>lhs;whnf
  refine ldC hO (by exact an (an A65)) (by rfl) ?_
  conv=>lhs;whnf
  refine ldC hO (by exact an (an A63)) (by rfl) ?_
  conv=>lhs;whnf
  refine fa0 hO ?_
  conv=>lhs;whnf
  ((refine Mq ?_);refine Mc hO (by exact an (an A65)) rfl ?_)
  have A69:Am m53 n33 _:=Kq.a0 k53 (Kq.a1 k52 (Kq.a1 k49 asm))
  conv=>lhs;whnf
  ((refine Mq ?_);refine Mc hO (by exact an (an A69)) rfl ?_)
  conv=>lhs;whnf
  refine eqH hO (fun h70=>absurd h70 e2) (fun h70=>?_)
  conv=>lhs;whnf
  refine ldC hO (by exact an (an A63)) (by rfl) ?_
  conv=>lhs;whnf
  ((refine Mq ?_);refine Mc hO (by exact an (an A69)) rfl ?_)
  conv=>lhs;whnf
  refine lnA hO (by exact asm) rfl rfl rfl ?_
  conv=>lhs;whnf
  (refine HTk (cn:=cn) (by exact G53.kp (n:=4) (by exact Kq.kp (Kq.ml (Kq.ml kr))) (by omega)) (by omega) (by exact (hV0.kp (by exact Kq.kp (Kq.ml (Kq.ml (Kq.tr (Kq.tr (Kq.tr (Kq.ml (Kq.tr (Kq.ml (Kq.tr (Kq.ml (Kq.ml (Kq.tr (Kq.ml (Kq.ml (Kq.ml (Kq.ml kr)))) (Kq.s0 k11)))) (Kq.s0 k33))) (Kq.s2 k39))) (Kq.s2 k49)) (Kq.s2 k52)) (Kq.s0 k53)))))).up (by omega)) (by exact (R53.kp (by exact Kq.kp (Kq.ml (Kq.ml kr)))).up (by omega)) hs he hA _ _ (by omega) (fun n74 m74 h74 g74 k74=>?_))
  have G74:Gl m74:=(by exact G53.kp (n:=4) (by exact Kq.kp (Kq.tp (Kq.ml (Kq.ml kr)) k74)) (by omega))
  have R74:RingAt m74 n74 rb K:=(by exact (R53.kp (by exact Kq.kp (Kq.tp (Kq.ml (Kq.ml kr)) k74))).up (by omega))
  have K74:Kq [sb] n m m74:=(by exact Kq.tp (Kq.ml (Kq.ml (Kq.s1 K53))) k74)
  conv=>lhs;whnf
  refine ldC hO (by exact ka k74 (an (an A63))) (by rfl) ?_
  conv=>lhs;whnf
  refine fa0 hO ?_
  conv=>lhs;whnf
  refine faN hO ?_
  conv=>lhs;whnf
  refine ldC hO (by exact ka k74 (an (an A65))) (by rfl) ?_
  conv=>lhs;whnf
  refine adU hO (by omega) ?_
  conv=>lhs;whnf
  refine fa0 hO ?_
  conv=>lhs;whnf
  refine faN hO ?_
  conv=>lhs;whnf
  refine stC hO (by exact ka k74 (an (an A65))) (by kernel_rfl) (fun _ _ _=>rfl) (fun _=>rfl) ?_
  conv=>lhs;whnf
  refine ldC hO (by exact an (ka k74 (an (an A63)))) (by rfl) ?_
  conv=>lhs;whnf
  refine fa0 hO ?_
  conv=>lhs;whnf
  refine uln hO ?_
  conv=>lhs;whnf
  refine lnF_x ?_
  conv=>lhs;whnf
  refine Aq (by exact asm) ?_
  conv=>lhs;whnf
  refine fe ?_
  conv=>lhs;whnf
  refine fe ?_
  conv=>lhs;whnf
  refine fe ?_
  conv=>lhs;whnf
  refine fe ?_
  conv=>lhs;whnf
  refine fe ?_
  conv=>lhs;whnf
  refine fe ?_
  conv=>lhs;whnf
  refine alO hO (by omega) ?_
  conv=>lhs;whnf
  refine ust hO ?_
  conv=>lhs;whnf
  refine Aq (by exact asm) ?_
  conv=>lhs;whnf
  refine (D6 _ _).trans ?_
  conv=>lhs;whnf
  refine pM_mp.trans ?_
  conv=>lhs;whnf
  refine alO hO (by omega) ?_
  conv=>lhs;whnf
  refine fa0 hO ?_
  conv=>lhs;whnf
  refine ldC hO (by exact an (an (an (an (ka k74 (an (an A69))))))) (by rfl) ?_
  have A102:Am m74 (n + 1) _:=ka k74 (an (an (Kq.a0 k53 (Kq.a1 k52 (Kq.a1 k49 (an (Kq.a1 k39 (an (Kq.a0 k33 (an (an (Kq.a0 k11 (an (an asm))))))))))))))
  conv=>lhs;whnf
  refine ldI hO (by exact an (an (an (an A102)))) (by rfl) ?_
  conv=>lhs;whnf
  refine ldC hO (by exact an (an (an (an (ka k74 (an (an A63))))))) (by rfl) ?_
  conv=>lhs;whnf
  refine fa0 hO ?_
  conv=>lhs;whnf
  refine ldC hO (by exact an (an (an asm))) (by rfl) ?_
  conv=>lhs;whnf
  refine fa0 hO ?_
  conv=>lhs;whnf
  refine ldI hO (by exact an asm) (by rfl) ?_
  conv=>lhs;whnf
  refine fa0 hO ?_
  conv=>lhs;whnf
  refine ldI hO (by exact an asm) (by rfl) ?_
  conv=>lhs;whnf
  refine HW8 (bs:=[]) (by exact WrA.new (by omega) (by exact asm)) hcn (by simp only [List.length_append,List.length_cons,List.length_nil,Ad,Ai,Bc,Bj];omega) _ _ (by omega) (fun v110 n110 m110 h110 g110 k110 q110=>?_);obtain ⟨rfl,q110a⟩:=q110;try rw [List.nil_append] at q110a
  have G110:Gl m110:=(by exact G74.kp (n:=4) (by exact Kq.kp (Kq.tp (Kq.ml (Kq.ml (Kq.ml (Kq.ml kr)))) k110)) (by omega))
  have R110:RingAt m110 n110 rb K:=(by exact (R74.kc (by exact Kq.tp (Kq.ml (Kq.ml (Kq.ml (Kq.mr kr)))) k110) (by exact ka k74 (an (an A65))) (by omega)).up (by omega))
  have K110:Kq [sb] n m m110:=(by exact Kq.tp (Kq.ml (Kq.ml (Kq.ml (Kq.mr (Kq.s1 K74))))) k110)
  conv=>lhs;whnf
  refine ldI hO (by exact ka k110 (an (an (an (an A102))))) (by rfl) ?_
  conv=>lhs;whnf
  refine rcE hO (by kernel_rfl) rfl ?_
  have A113:Am m110 n _:=ka k110 (an (an (an (an (ka k74 (an (an A63)))))))
  conv=>lhs;whnf
  refine ldC hO A113 (by rfl) ?_
  conv=>lhs;whnf
  refine rcE hO (by kernel_rfl) rfl ?_
  conv=>lhs;whnf
  refine ldC hO (by exact ka k110 (an (an (an asm)))) (by rfl) ?_
  conv=>lhs;whnf
  refine rcE hO (by kernel_rfl) rfl ?_
  conv=>lhs;whnf
  refine ldI hO (by exact ka k110 (an asm)) (by rfl) ?_
  conv=>lhs;whnf
  refine rcE hO (by kernel_rfl) rfl ?_
  conv=>lhs;whnf
  refine ldI hO (by exact ka k110 (an asm)) (by rfl) ?_
  conv=>lhs;whnf
  refine rcE hO (by kernel_rfl) rfl ?_
  conv=>lhs;whnf
  refine HW8 (bs:=Ae cn) q110a hsn (by simp only [List.length_append,List.length_cons,List.length_nil,Ad,Ai,Bc,Bj];omega) _ _ (by omega) (fun v121 n121 m121 h121 g121 k121 q121=>?_);obtain ⟨rfl,q121a⟩:=q121;try rw [List.nil_append] at q121a
  have G121:Gl m121:=(by exact G110.kp (n:=4) (by exact Kq.kp (Kq.dp k121)) (by omega))
  have R121:RingAt m121 n121 rb K:=(by exact (R74.kc (by exact Kq.tp (Kq.tp (Kq.ml (Kq.ml (Kq.ml (Kq.mr kr)))) k110) k121) (by exact ka k74 (an (an A65))) (by omega)).up (by omega))
  have K121:Kq [sb] n m m121:=(by exact Kq.tp (Kq.s1 K110) k121)
  conv=>lhs;whnf
  refine ldC hO (by exact ka k121 A113) (by rfl) ?_
  conv=>lhs;whnf
  refine rcE hO (by kernel_rfl) rfl ?_
  have A124:Am m121 sb _:=ka k121 (ka k110 (an (an (an asm))))
  conv=>lhs;whnf
  refine ldC hO A124 (by rfl) ?_
  conv=>lhs;whnf
  refine rcE hO (by kernel_rfl) rfl ?_
  have A126:Am m121 n74 _:=ka k121 (ka k110 (an asm))
  conv=>lhs;whnf
  refine ldI hO A126 (by rfl) ?_
  conv=>lhs;whnf
  refine rcE hO (by kernel_rfl) rfl ?_
  conv=>lhs;whnf
  refine ldI hO A126 (by rfl) ?_
  conv=>lhs;whnf
  refine rcE hO (by kernel_rfl) rfl ?_
  conv=>lhs;whnf
  (refine HTo G121 (by omega) R121 hvs (by omega) _ _ (by omega) (fun n130 m130 h130 g130 k130=>?_))
  have G130:Gl m130:=(by exact G121.kp (n:=4) (by exact Kq.kp (Kq.dp k130)) (by omega))
  have R130:RingAt m130 n130 rb K:=(by exact (R121.kp (by exact Kq.kp (Kq.dp k130))).up h130)
  have K130:Kq [sb] n m m130:=(by exact Kq.tp (Kq.s1 K121) k130)
  conv=>lhs;whnf
  refine HW8 (bs:=Ae cn ++ Ae sn) (by exact (q121a.kp (by exact Kq.kp (Kq.dp k130))).up h130) htt (by simp only [List.length_append,List.length_cons,List.length_nil,Ad,Ai,Bc,Bj];omega) _ _ (by omega) (fun v131 n131 m131 h131 g131 k131 q131=>?_);obtain ⟨rfl,q131a⟩:=q131;try rw [List.nil_append] at q131a
  have G131:Gl m131:=(by exact G130.kp (n:=4) (by exact Kq.kp (Kq.dp k131)) (by omega))
  have R131:RingAt m131 n131 rb K:=(by exact (R74.kc (by exact Kq.tp (Kq.tp (Kq.tp (Kq.tp (Kq.ml (Kq.ml (Kq.ml (Kq.mr kr)))) k110) k121) k130) k131) (by exact ka k74 (an (an A65))) (by omega)).up (by omega))
  have K131:Kq [sb] n m m131:=(by exact Kq.tp (Kq.s1 K130) k131)
  conv=>lhs;whnf
  refine HW4 (bs:=Ae cn ++ Ae sn ++ Ae (Bf Y K v.ses (v.ep + 1))) q131a (by omega) (by simp only [List.length_append,List.length_cons,List.length_nil,Ad,Ai,Bc,Bj];omega) _ _ (by omega) (fun v132 n132 m132 h132 g132 k132 q132=>?_);obtain ⟨rfl,q132a⟩:=q132;have q132a:=q132a.to hpw
  have G132:Gl m132:=(by exact G131.kp (n:=4) (by exact Kq.kp (Kq.dp k132)) (by omega))
  have R132:RingAt m132 n132 rb K:=(by exact (R74.kc (by exact Kq.tp (Kq.tp (Kq.tp (Kq.tp (Kq.tp (Kq.ml (Kq.ml (Kq.ml (Kq.mr kr)))) k110) k121) k130) k131) k132) (by exact ka k74 (an (an A65))) (by omega)).up (by omega))
  have K132:Kq [sb] n m m132:=(by exact Kq.tp (Kq.s1 K131) k132)
  conv=>lhs;whnf
  refine HD (bs:=Ea cn sn (Bf Y K v.ses (v.ep + 1)) 0) q132a (by assumption) (by omega) _ _ (by omega) (fun v133 n133 m133 h133 g133 k133 q133=>?_);obtain ⟨b133,⟨rfl,⟨q133a,⟨q133b,⟨q133c,q133d⟩⟩⟩⟩⟩:=q133
  have G133:Gl m133:=(by exact G132.kp (n:=4) (by exact Kq.kp (Kq.dp k133)) (by omega))
  have R133:RingAt m133 n133 rb K:=(by exact (R74.kc (by exact Kq.tp (Kq.tp (Kq.tp (Kq.tp (Kq.tp (Kq.tp (Kq.ml (Kq.ml (Kq.ml (Kq.mr kr)))) k110) k121) k130) k131) k132) k133) (by exact ka k74 (an (an A65))) (by omega)).up (by omega))
  have K133:Kq [sb] n m m133:=(by exact Kq.tp (Kq.s1 K132) k133)
  have A134:Am m133 n _:=ka k133 (ka k132 (ka k131 (ka k130 (ka k121 A113))))
  conv=>lhs;whnf
  refine ldC hO A134 (by rfl) ?_
  conv=>lhs;whnf
  refine ldC hO A134 (by rfl) ?_
  have A136:Am m133 n33 _:=ka k133 (ka k132 (ka k131 (ka k130 (ka k121 (ka k110 (an (an (an (an (ka k74 (an (an A69))))))))))))
  conv=>lhs;whnf
  ((refine Mq ?_);refine Mc hO A136 rfl ?_)
  conv=>lhs;whnf
  refine fa0 hO ?_
  have A138:Am m133 sb _:=ka k133 (ka k132 (ka k131 (ka k130 A124)))
  conv=>lhs;whnf
  refine stC hO A138 (by kernel_rfl) (fun _ _ _=>rfl) (fun _=>rfl) ?_
  conv=>lhs;whnf
  refine ldC hO (by exact an A134) (by rfl) ?_
  conv=>lhs;whnf
  refine rcE hO (by kernel_rfl) rfl ?_
  conv=>lhs;whnf
  ((refine Mq ?_);refine Mc hO (by exact an A136) rfl ?_)
  conv=>lhs;whnf
  refine rcE hO (by kernel_rfl) rfl ?_
  conv=>lhs;whnf
  refine fa0 hO ?_
  conv=>lhs;whnf
  ((refine atStA ?_);refine stN hO (by exact asm) (by rfl) (by rfl) (fun _=>rfl) (fun _=>rfl) (by rfl) ?_)
  conv=>lhs;whnf
  refine ldC hO (by exact an (an A134)) (by rfl) ?_
  conv=>lhs;whnf
  refine ldC hO (by exact an (an A134)) (by rfl) ?_
  conv=>lhs;whnf
  refine fa0 hO ?_
  conv=>lhs;whnf
  refine ldC hO (by exact asm) (by rfl) ?_
  conv=>lhs;whnf
  refine fa0 hO ?_
  have A150:Am m133 n74 _:=ka k133 (ka k132 (ka k131 (ka k130 A126)))
  conv=>lhs;whnf
  refine ldI hO (by exact an (an A150)) (by rfl) ?_
  conv=>lhs;whnf
  refine fa0 hO ?_
  conv=>lhs;whnf
  refine ldI hO (by exact an (an A150)) (by rfl) ?_
  conv=>lhs;whnf
  refine ubu hO ?_
  conv=>lhs;whnf
  (refine HS (k:=2) (s:=v.ses) (e:=v.ep + 1) (p:=Ea cn sn (Bf Y K v.ses (v.ep + 1)) 0) (by exact G133.kp (n:=4) (by exact Kq.kp (Kq.ml (Kq.ml kr))) (by omega)) (by omega) (by exact (R133.kc (by exact Kq.mr (Kq.mr kr)) A138 (by omega)).up (by omega)) (by omega) hvs (by omega) (by exact an (an q133c)) q133b rfl (by rw [Fj];decide) _ _ (by omega) (fun v154 n154 m154 h154 g154 k154 q154=>?_);rw [show dgB Y K 2 v.ses (v.ep + 1) (Ea cn sn (Bf Y K v.ses (v.ep + 1)) 0)=Gv Y K v cn sn by unfold Gv;rfl] at q154;obtain ⟨b154,rfl,d154,e154,f154⟩:=q154)
  have G154:Gl m154:=(by exact G133.kp (n:=4) (by exact Kq.kp (Kq.tr (Kq.ml (Kq.ml kr)) (Kq.s0 k154))) (by omega))
  have R154:RingAt m154 n154 rb K:=(by exact (R133.kc (by exact Kq.tr (Kq.mr (Kq.mr kr)) (Kq.s0 k154)) A138 (by omega)).up h154)
  have K154:Kq [sb] n m m154:=(by exact Kq.tr (Kq.mr (Kq.mr (Kq.s1 K133))) (Kq.s0 k154))
  conv=>lhs;whnf
  refine ldC hO (by exact Kq.a0 k154 (an (an A134))) (by rfl) ?_
  conv=>lhs;whnf
  refine rcE hO (by kernel_rfl) rfl ?_
  conv=>lhs;whnf
  refine fa0 hO ?_
  conv=>lhs;whnf
  refine stC hO (by exact Kq.a0 k154 asm) (by kernel_rfl) (fun _ _ _=>rfl) (fun _=>rfl) ?_
  conv=>lhs;whnf
  refine ldC hO (by exact an (Kq.a0 k154 (an (an A134)))) (by rfl) ?_
  conv=>lhs;whnf
  refine fa0 hO ?_
  conv=>lhs;whnf
  refine ldC hO (by exact asm) (by rfl) ?_
  have A162:Am m154 n53 _:=Kq.a0 k154 (an (an (ka k133 (ka k132 (ka k131 (ka k130 (ka k121 (ka k110 (an (an (an (an (ka k74 asm)))))))))))))
  conv=>lhs;whnf
  refine lnA hO (by exact an A162) rfl rfl rfl ?_
  conv=>lhs;whnf
  (refine HC (x:=Gv Y K v cn sn) (by exact Sl.own (by exact an f154) e154 (by omega)) (fun h=>absurd h hdn) (by omega) _ _ (by omega) (fun v163 n163 m163 h163 g163 k163 q163=>?_);obtain ⟨b163,rfl,c163,d163,e163⟩:=q163.ne hdn)
  have G163:Gl m163:=(by exact G154.kp (n:=4) (by exact Kq.kp (Kq.tr (Kq.ml kr) (Kq.s0 k163))) (by omega))
  have R163:RingAt m163 n163 rb K:=(by exact (R154.kc (by exact Kq.tr (Kq.mr kr) (Kq.s0 k163)) (by exact Kq.a0 k154 asm) (by omega)).up h163)
  have K163:Kq [sb] n m m163:=(by exact Kq.tr (Kq.mr (Kq.s1 K154)) (Kq.s0 k163))
  conv=>lhs;whnf
  refine lnA hO (by exact Kq.a0 k163 (an A162)) rfl rfl rfl ?_
  conv=>lhs;whnf
  refine rcE hO (by kernel_rfl) rfl ?_
  conv=>lhs;whnf
  refine HK (sb:=sb) (rb:=rb) (s:=s) (e:=e) (S:=v.ses) (E:=v.ep + 1) (C:=v.con) (cn:=cn) (sn:=sn) (K:=K) (e0:=93) (e1:=24) (e2:=48) (e3:=91) (e4:=22) (t0:=Tl.exact) (t1:=Tl.exact) (t2:=Tl.exact) (t3:=Tl.exact) (t4:=Tl.exact) G163 (by omega) R163 (by omega) (by omega) (by omega) (by omega) (by omega) (by exact Kq.a0 k163 (an (Kq.a0 k154 (an (an A134))))) (by exact Kq.a0 k163 asm) (by exact Kq.a0 k163 (an (Kq.a0 k154 (an (an A150))))) (by exact Kq.a0 k163 (an (Kq.a0 k154 (an (an A136))))) (by exact Kq.a0 k163 (an (Kq.a0 k154 (an (an (ka k133 (ka k132 (ka k131 (ka k130 (ka k121 (ka k110 (an (an (an (an A102))))))))))))))) (by omega) hvs (by omega) hcn hsn _ _ (by omega) (fun n166 m166 h166 g166 k166=>?_)
  have G166:Gl m166:=(by exact G163.kp (n:=4) (by exact Kq.kp (Kq.dp k166)) (by omega))
  have R166:RingAt m166 n166 rb K:=(by exact (R163.kp (by exact Kq.kp (Kq.dp k166))).up h166)
  have K166:Kq [sb] n m m166:=(by exact Kq.tp (Kq.s1 K163) k166)
  have A167:Am m166 n53 _:=ka k166 (Kq.a0 k163 (an A162))
  conv=>lhs;whnf
  refine lnA hO A167 rfl rfl rfl ?_
  conv=>lhs;whnf
  refine rcE hO (by kernel_rfl) rfl ?_
  conv=>lhs;whnf
  refine HK (sb:=sb) (rb:=rb) (s:=s) (e:=e) (S:=v.ses) (E:=v.ep + 1) (C:=v.con) (cn:=cn) (sn:=sn) (K:=K) (e0:=93) (e1:=24) (e2:=48) (e3:=91) (e4:=22) (t0:=Tl.exact) (t1:=Tl.exact) (t2:=Tl.exact) (t3:=Tl.exact) (t4:=Tl.exact) G166 (by omega) R166 (by omega) (by omega) (by omega) (by omega) (by omega) (by exact ka k166 (Kq.a0 k163 (an (Kq.a0 k154 (an (an A134)))))) (by exact ka k166 (Kq.a0 k163 asm)) (by exact ka k166 (Kq.a0 k163 (an (Kq.a0 k154 (an (an A150)))))) (by exact ka k166 (Kq.a0 k163 (an (Kq.a0 k154 (an (an A136)))))) (by exact ka k166 (Kq.a0 k163 (an (Kq.a0 k154 (an (an (ka k133 (ka k132 (ka k131 (ka k130 (ka k121 (ka k110 (an (an (an (an A102)))))))))))))))) (by omega) hvs (by omega) hcn hsn _ _ (by omega) (fun n169 m169 h169 g169 k169=>?_)
  have G169:Gl m169:=(by exact G166.kp (n:=4) (by exact Kq.kp (Kq.dp k169)) (by omega))
  have R169:RingAt m169 n169 rb K:=(by exact (R166.kp (by exact Kq.kp (Kq.dp k169))).up h169)
  have K169:Kq [sb] n m m169:=(by exact Kq.tp (Kq.s1 K166) k169)
  conv=>lhs;whnf
  refine lnA hO (by exact ka k169 A167) rfl rfl rfl ?_
  conv=>lhs;whnf
  refine rcE hO (by kernel_rfl) rfl ?_
  conv=>lhs;whnf
  refine buRep hO (by exact Or.inr ⟨_,_,_,_,_,_,rfl⟩) (by exact Or.inl rfl) hw0 hw1 ?_
  have A173:Am m169 (n + 1 + 1) _:=ka k169 (ka k166 (Kq.a0 k163 (an (Kq.a0 k154 (an (an (ka k133 (ka k132 (ka k131 (ka k130 (ka k121 (ka k110 (an (an (an (an (ka k74 (an (an (Kq.a0 k53 (Kq.a1 k52 (Kq.a1 k49 (an (Kq.a1 k39 (an (Kq.a0 k33 (an (an (Kq.a0 k11 (an asm))))))))))))))))))))))))))))))
  conv=>lhs;whnf
  ((refine Iq ?_);refine Ez hO (N:=68) A173 (by kernel_rfl) (B2 hw0 hw1) (Fo (by exact Or.inr ⟨_,_,_,_,_,_,rfl⟩) (by exact Or.inl rfl)) (fun _=>rfl) ?_)
  conv=>lhs;whnf
  ((refine atG68 ?_);refine lnG (N:=68) (by exact asm) (B2 hw0 hw1) (by kernel_rfl) (Mr (by exact Or.inr ⟨_,_,_,_,_,_,rfl⟩) (by exact Or.inl rfl)) ?_)
  conv=>lhs;whnf
  exact hf _ _ _ (by omega) (by omega) (by exact Kq.ml (Kq.s1 K169)) (by exact ⟨⟨_,⟨rfl,⟨(by omega),⟨(by omega),an (ka k169 (ka k166 e163))⟩⟩⟩⟩,⟨(by omega),⟨(by omega),⟨(by omega),⟨hvk,⟨_,⟨an (ka k169 (ka k166 (Kq.a0 k163 asm))),.inr (⟨_,⟨(by omega),⟨rfl,⟨an (ka k169 (ka k166 (Kq.a0 k163 (an f154)))),(by assumption)⟩⟩⟩⟩)⟩⟩⟩⟩⟩⟩⟩)
end Go.Proofs.YtfdfdagbeeeomaaDoor.V2.S
namespace Go.Proofs.YtfdfdagbeeeomaaDoor.V2.S
open Go
set_option maxRecDepth 100000
set_option maxHeartbeats 4000000
set_option linter.unusedVariables false
attribute [local irreducible] fN fO nM gM pM Phi.fn mp bl At Bx Ce Ac C9 Dr lnF
def WaitC (H:HF):Prop:=∀ {n cb rb hb L:Nat} {m:T FObj} {c:Cl} {e:TypeId} {t:Tl},Am m cb (.cells (clC rb c (.sl hb 0 L L false 1)) e t) → Ms H [.p cb 0] n m (.b true)
theorem waitc_s {O:Oz} (hO:O=zO) (Φ:Phi) (HN:M8 (Phi.fn Φ 23)):WaitC (p22 O Φ):=fun {n cb rb hb L m c e t} ha k P hf=>by
 conv=>lhs;whnf
 refine HN ha _ _ ?_
 conv=>lhs;whnf
 refine fa0 hO ?_
 conv=>lhs;whnf
 refine ldC hO ha (by rfl) ?_
 conv=>lhs;whnf
 exact hf 
def WaitC0 (H:HF):Prop:=∀ {n cb rb:Nat} {m:T FObj} {c:Cl} {e:TypeId} {t:Tl},Am m cb (.cells (clC rb c (.o .sl)) e t) → Ms H [.p cb 0] n m (.b false)
theorem waitc0_s {O:Oz} (hO:O=zO) (Φ:Phi) (HN:M8 (Phi.fn Φ 23)):WaitC0 (p22 O Φ):=fun {n cb rb m c e t} ha k P hf=>by
 conv=>lhs;whnf
 refine HN ha _ _ ?_
 conv=>lhs;whnf
 refine fa0 hO ?_
 conv=>lhs;whnf
 refine ldC hO ha (by rfl) ?_
 conv=>lhs;whnf
 exact hf 
def KeyC (Y:Cy) (H:HF):Prop:=∀ {n cb rb b1 b2 b3 b4 w k s e pb L cn sn:Nat} {m:T FObj} {K:Bs} {c:Cl} {hv:FV} {e0 e1 e2 e3 e4:TypeId} {t0 t1 t2 t3 t4:Tl},Gl m → 4 ≤ n → RingAt m n rb K → cb < n → b1 < n → b2 < n → b3 < n → b4 < n → Am m b1 (.cells [.p cb 0] e1 t1) → Am m cb (.cells (clC rb c hv) e0 t0) → Am m b2 (.cells (frC k s e pb L) e2 t2) → Am m b3 (.ints .u64 [Int.ofNat cn] e3 t3) → Am m b4 (.ints .u64 [Int.ofNat sn] e4 t4) → w < 2 → s < 4294967296 → e < 4294967296 → cn < 18446744073709551616 → sn < 18446744073709551616 → Ret 150 H [.n .i64 w,.p b1 0,.p b2 0,.p b3 0,.p b4 0] n m (.bs (Ac (Lo Y K w s e cn sn)))
theorem keyc_s {O:Oz} {Y:Cy} (hO:O=zO) (Φ:Phi) (HW:WayS Y (Phi.fn Φ 41)):KeyC Y (p44 O Φ):=fun {n cb rb b1 b2 b3 b4 w k s e pb L cn sn m K c hv e0 e1 e2 e3 e4 t0 t1 t2 t3 t4} hG hn4 hR hcb hb1 hb2 hb3 hb4 a1 a0 a2 a3 a4 hw hs he hcn hsn Kk P hn hf=>by
 have hway:=L32.way Y K w s e cn sn
 conv=>lhs;whnf
 refine al32 hO (by omega) ?_
 conv=>lhs;whnf
 refine ldC hO (by exact an a1) (by rfl) ?_
 conv=>lhs;whnf
 refine fa0 hO ?_
 conv=>lhs;whnf
 refine ldC hO (by exact an a0) (by rfl) ?_
 conv=>lhs;whnf
 refine fa0 hO ?_
 conv=>lhs;whnf
 refine ldC hO (by exact an a2) (by rfl) ?_
 conv=>lhs;whnf
 refine fa0 hO ?_
 conv=>lhs;whnf
 refine ldC hO (by exact an a2) (by rfl) ?_
 conv=>lhs;whnf
 refine ldI hO (by exact an a3) (by rfl) ?_
 conv=>lhs;whnf
 refine ldI hO (by exact an a4) (by rfl) ?_
 conv=>lhs;whnf
 refine HW (by exact hG.kp (n:=4) (by exact Kq.kp (Kq.ml kr)) (by omega)) (by omega) (by exact (hR.kp (by exact Kq.kp (Kq.ml kr))).up (by omega)) hw hs he hcn hsn _ _ (by omega) (fun n11 m11 h11 g11 k11=>?_)
 conv=>lhs;whnf
 ((refine atS32 ?_);refine st32 hO (by exact ka k11 asm) L32.z' hway (fun _=>rfl) ?_)
 conv=>lhs;whnf
 refine lnF_x ?_
 conv=>lhs;whnf
 refine Aq (by exact asm) ?_
 conv=>lhs;whnf
 refine Ie (by assumption) ?_
 conv=>lhs;whnf
 refine fnP (by assumption) ?_
 conv=>lhs;whnf
 exact hf _ _ (by omega) (by omega) (by exact Kq.kp (Kq.ml (Kq.tp (Kq.ml kr) k11)))
end Go.Proofs.YtfdfdagbeeeomaaDoor.V2.S
