/- Part 12 of the proof: texts of the proof. -/
import Derived.Test.YtfdfdagbeeeomaaDoorQL11
namespace Go.Proofs.YtfdfdagbeeeomaaDoor.V2.S
open Go
set_option maxRecDepth 100000
set_option maxHeartbeats 4000000
set_option linter.unusedVariables false
attribute [local irreducible] fN fO nM gM pM Phi.fn mp bl At Bx Ce Ac C9 Dr lnF
def TakeB (Y:Cy) (H:HF):Prop:=∀ {n cb rb:Nat} {m:T FObj} {c:Cl} {K:Bs} {v:FV} {s e cn sn tk ls:Nat},Gl m → 4 ≤ n → 4 ≤ cb → ClAt m n cb rb c → RingAt m n rb K → s < 4294967296 → e < 4294967296 → cn < 18446744073709551616 → sn < 18446744073709551616 → tk < 18446744073709551616 → ls < 4294967296 → c.hel ≠ [] → Sl m n v (dgB Y K 2 s e (Ea cn sn tk ls)) → cn=c.non → s ≠ 0 → (s=c.ses ∨ c.ses=0) → c.ep < e → Dc 800 [cb] H [.p cb 0,v] n m (fun r n' m'=>r=.tup [.agg (H5 s e ls (Lo Y K 0 s e cn sn) (Lo Y K 1 s e cn sn)),.n .i64 0] ∧ ClAt m' n' cb rb ⟨s,e,tk,c.non,[]⟩)
theorem takeb_s {O:Oz} {Y:Cy} (hO:O=zO) (Φ:Phi) (HN:M8 (Phi.fn Φ 23)) (HO:M7 Y (Phi.fn Φ 31)) (HR:NewR (Phi.fn Φ 32)) (H8:Hs (Phi.fn Φ 33)) (H4:FourR (Phi.fn Φ 42)) (HE:ErrR (Phi.fn Φ 34)) (HL:M9 (Phi.fn Φ 43)) (HW:WaitC (Phi.fn Φ 22)) (HW0:WaitC0 (Phi.fn Φ 22)) (HK:KeyC Y (Phi.fn Φ 44)):TakeB Y (p8 O Φ):=fun {n cb rb m c K v s e cn sn tk ls} hG hn4 hc4 hC hR hs he hcn hsn htk hls hhel hvs e1 e2 e3 e4 k P hn hf=>by
 have hC0:=hC
 obtain ⟨hcb,hrb,hne,hok,hv,ha,hh⟩:=hC
 have hoks:=hok.s
 have hoke:=hok.e
 have hokn:=hok.n
 rcases hh with ⟨hh,_⟩ | ⟨hb,hh1,rfl,hh2,hh3⟩
 ·exact absurd hh hhel
 have hw0:=L32.way Y K 0 s e cn sn
 have hw1:=L32.way Y K 1 s e cn sn
 conv=>lhs;whnf
 refine ubx hO ?_
 conv=>lhs;whnf
 refine (Bg (by omega)).trans ?_
 conv=>lhs;whnf
 refine alO hO (by omega) ?_
 conv=>lhs;whnf
 refine ldC hO (by exact an asm) (by rfl) ?_
 conv=>lhs;whnf
 (refine HN (rb:=rb) (c:=c) (by exact an (an ha)) _ _ ?_)
 conv=>lhs;whnf
 refine ldC hO (by exact an asm) (by rfl) ?_
 conv=>lhs;whnf
 refine fa0 hO ?_
 conv=>lhs;whnf
 refine ldC hO (by exact an (an ha)) (by rfl) ?_
 conv=>lhs;whnf
 refine bs2 hO (by omega) (by omega) (by omega) ?_
 conv=>lhs;whnf
 (refine HO (k:=2) (s:=s) (e:=e) (K:=K) (p:=Ea cn sn tk ls) (by exact hG.kp (n:=4) (by exact Kq.kp (Kq.ml (Kq.ml (Kq.ml kr)))) (by omega)) (by omega) (by exact (hR.kp (by exact Kq.kp (Kq.ml (Kq.ml (Kq.ml kr))))).up (by omega)) (by omega) hs he (fun h=>by cases h) (by rw [Fj];decide) (by exact (hvs.kp (by exact Kq.kp (Kq.ml (Kq.ml (Kq.ml kr))))).up (by omega)) ⟨by omega,.inr ⟨rfl,by omega,(by exact asm)⟩⟩ _ _ (by omega) (fun v10 n10 m10 h10 g10 k10 q10=>?_);obtain ⟨bo,rfl,d10,e10,f10⟩:=q10)
 have G10:Gl m10:=(by exact hG.kp (n:=4) (by exact Kq.kp (Kq.tr (Kq.ml (Kq.ml (Kq.ml kr))) (Kq.s0 k10))) (by omega))
 have R10:RingAt m10 n10 rb K:=(by exact (hR.kp (by exact Kq.kp (Kq.tr (Kq.ml (Kq.ml (Kq.ml kr))) (Kq.s0 k10)))).up (by omega))
 have K10:Kq [cb] n m m10:=(by exact Kq.tr (Kq.ml (Kq.ml (Kq.ml kr))) (Kq.s0 k10))
 conv=>lhs;whnf
 refine alO hO (by omega) ?_
 conv=>lhs;whnf
 refine ust hO ?_
 conv=>lhs;whnf
 refine Aq (by exact asm) ?_
 conv=>lhs;whnf
 refine fe ?_
 conv=>lhs;whnf
 refine fe ?_
 conv=>lhs;whnf
 refine fe ?_
 conv=>lhs;whnf
 refine fe ?_
 conv=>lhs;whnf
 refine fe ?_
 conv=>lhs;whnf
 refine fe ?_
 conv=>lhs;whnf
 refine fe ?_
 conv=>lhs;whnf
 refine fe ?_
 conv=>lhs;whnf
 refine fe ?_
 conv=>lhs;whnf
 refine fe ?_
 conv=>lhs;whnf
 refine fe ?_
 conv=>lhs;whnf
 refine fe ?_
 conv=>lhs;whnf
 refine fe ?_
 conv=>lhs;whnf
 refine fe ?_
 conv=>lhs;whnf
 refine pM_mp.trans ?_
 conv=>lhs;whnf
 refine neF hO (by omega) ?_
 conv=>lhs;whnf
 refine fa0 hO ?_
 conv=>lhs;whnf
 refine ldC hO (by exact asm) (by rfl) ?_
 conv=>lhs;whnf
 (refine HR (x:=Ea cn sn tk ls) (by exact Sl.own (by exact an (an f10)) (by omega) (by omega)) (fun h=>absurd h (fun h=>by cases h)) (by rw [Fj];decide) _ _ (by omega) (fun v32 n32 m32 h32 g32 k32 q32=>?_);obtain ⟨rd,rfl,c32,r32⟩:=q32;have z32:=r32.1)
 have G32:Gl m32:=(by exact G10.kp (n:=4) (by exact Kq.kp (Kq.tr (Kq.ml (Kq.ml kr)) (Kq.s0 k32))) (by omega))
 have R32:RingAt m32 n32 rb K:=(by exact (R10.kp (by exact Kq.kp (Kq.tr (Kq.ml (Kq.ml kr)) (Kq.s0 k32)))).up (by omega))
 have K32:Kq [cb] n m m32:=(by exact Kq.tr (Kq.ml (Kq.ml (Kq.s1 K10))) (Kq.s0 k32))
 conv=>lhs;whnf
 (refine H8 (a:=cn) (y:=Ae sn ++ (Ae tk ++ (Ak ls ++ []))) (RdB.to (a:=Ea cn sn tk ls) r32 (show Ea cn sn tk ls=Ae cn ++ (Ae sn ++ (Ae tk ++ (Ak ls ++ []))) by rw [List.append_nil];rfl)) (by omega) (by simp only [List.length_append,Ad,Ai,List.length_nil];omega) _ _ (by omega) (fun v33 n33 m33 h33 g33 k33 q33=>?_);obtain ⟨rfl,r33⟩:=q33)
 have G33:Gl m33:=(by exact G32.kp (n:=4) (by exact Kq.kp (Kq.s2 k33)) (by omega))
 have R33:RingAt m33 n33 rb K:=(by exact (R10.kp (by exact Kq.kp (Kq.tr (Kq.tr (Kq.ml (Kq.ml kr)) (Kq.s0 k32)) (Kq.s2 k33)))).up (by omega))
 have K33:Kq [cb] n m m33:=(by exact Kq.tr (Kq.s1 K32) (Kq.s2 k33))
 conv=>lhs;whnf
 refine alO hO (by omega) ?_
 conv=>lhs;whnf
 refine ust hO ?_
 conv=>lhs;whnf
 refine Aq (by exact asm) ?_
 conv=>lhs;whnf
 refine pM_mp.trans ?_
 conv=>lhs;whnf
 refine alO hO (by omega) ?_
 conv=>lhs;whnf
 refine fa0 hO ?_
 have A40:Am m33 n10 _:=Kq.a1 k33 (Kq.a0 k32 asm)
 conv=>lhs;whnf
 refine ldC hO (by exact an (an (an A40))) (by rfl) ?_
 conv=>lhs;whnf
 refine eqT hO (by omega) ?_
 conv=>lhs;whnf
 (refine H8 (a:=sn) (y:=Ae tk ++ (Ak ls ++ [])) (by exact (r33.kp (by exact Kq.kp (Kq.ml (Kq.ml (Kq.ml kr))))).up (by omega)) (by omega) (by simp only [List.length_append,Ad,Ai,List.length_nil];omega) _ _ (by omega) (fun v42 n42 m42 h42 g42 k42 q42=>?_);obtain ⟨rfl,r42⟩:=q42)
 have G42:Gl m42:=(by exact G33.kp (n:=4) (by exact Kq.kp (Kq.tr (Kq.ml (Kq.ml (Kq.ml kr))) (Kq.s2 k42))) (by omega))
 have R42:RingAt m42 n42 rb K:=(by exact (R10.kp (by exact Kq.kp (Kq.tr (Kq.ml (Kq.ml (Kq.ml (Kq.tr (Kq.tr (Kq.ml (Kq.ml kr)) (Kq.s0 k32)) (Kq.s2 k33))))) (Kq.s2 k42)))).up (by omega))
 have K42:Kq [cb] n m m42:=(by exact Kq.tr (Kq.ml (Kq.ml (Kq.ml (Kq.s1 K33)))) (Kq.s2 k42))
 conv=>lhs;whnf
 (refine H8 (a:=tk) (y:=Ak ls ++ []) r42 (by omega) (by simp only [List.length_append,Ad,Ai,List.length_nil];omega) _ _ (by omega) (fun v43 n43 m43 h43 g43 k43 q43=>?_);obtain ⟨rfl,r43⟩:=q43)
 have G43:Gl m43:=(by exact G42.kp (n:=4) (by exact Kq.kp (Kq.s2 k43)) (by omega))
 have R43:RingAt m43 n43 rb K:=(by exact (R10.kp (by exact Kq.kp (Kq.tr (Kq.tr (Kq.ml (Kq.ml (Kq.ml (Kq.tr (Kq.tr (Kq.ml (Kq.ml kr)) (Kq.s0 k32)) (Kq.s2 k33))))) (Kq.s2 k42)) (Kq.s2 k43)))).up (by omega))
 have K43:Kq [cb] n m m43:=(by exact Kq.tr (Kq.s1 K42) (Kq.s2 k43))
 conv=>lhs;whnf
 (refine H4 (a:=ls) (y:=[]) r43 (by omega) (by simp only [List.length_append,Ad,Ai,List.length_nil];omega) _ _ (by omega) (fun v44 n44 m44 h44 g44 k44 q44=>?_);obtain ⟨rfl,r44⟩:=q44)
 have G44:Gl m44:=(by exact G43.kp (n:=4) (by exact Kq.kp (Kq.s2 k44)) (by omega))
 have R44:RingAt m44 n44 rb K:=(by exact (R10.kp (by exact Kq.kp (Kq.tr (Kq.tr (Kq.tr (Kq.ml (Kq.ml (Kq.ml (Kq.tr (Kq.tr (Kq.ml (Kq.ml kr)) (Kq.s0 k32)) (Kq.s2 k33))))) (Kq.s2 k42)) (Kq.s2 k43)) (Kq.s2 k44)))).up (by omega))
 have K44:Kq [cb] n m m44:=(by exact Kq.tr (Kq.s1 K43) (Kq.s2 k44))
 have A45:Am m44 (n33 + 1) _:=Kq.a1 k44 (Kq.a1 k43 (Kq.a1 k42 asm))
 conv=>lhs;whnf
 refine ust hO ?_
 conv=>lhs;whnf
 refine Aq A45 ?_
 conv=>lhs;whnf
 refine pM_mp.trans ?_
 conv=>lhs;whnf
 refine fa0 hO ?_
 have A49:Am m44 n10 _:=Kq.a1 k44 (Kq.a1 k43 (Kq.a1 k42 (an (an (an A40)))))
 conv=>lhs;whnf
 refine ldC hO (by exact an A49) (by rfl) ?_
 have A50:Am m44 n _:=Kq.a1 k44 (Kq.a1 k43 (Kq.a1 k42 (an (an (an (Kq.a1 k33 (Kq.a0 k32 (an (an (Kq.a0 k10 (an (an asm))))))))))))
 conv=>lhs;whnf
 refine ldC hO (by exact an A50) (by rfl) ?_
 conv=>lhs;whnf
 refine fa0 hO ?_
 conv=>lhs;whnf
 refine faN hO ?_
 have A53:Am m44 cb _:=Kq.a1 k44 (Kq.a1 k43 (Kq.a1 k42 (an (an (an (Kq.a1 k33 (Kq.a0 k32 (an (an (Kq.a0 k10 (an (an (an ha)))))))))))))
 conv=>lhs;whnf
 refine ldC hO (by exact an A53) (by rfl) ?_
 conv=>lhs;whnf
 refine eqB hO (fun h54=>?_) (fun h54=>?_)
 ·conv=>lhs;whnf
  (refine HE (by exact I1 r44 A45 (by omega)) _ _ ?_)
  conv=>lhs;whnf
  refine neF hO (by omega) ?_
  conv=>lhs;whnf
  (refine HL (by exact I1 r44 A45 (by omega)) _ _ ?_;rw [List.length_nil])
  conv=>lhs;whnf
  refine gtF hO (by omega) ?_
  conv=>lhs;whnf
  refine ldC hO (by exact an A50) (by rfl) ?_
  conv=>lhs;whnf
  (refine HW (rb:=rb) (c:=c) (by exact an A53) _ _ ?_)
  have A61:Am m44 n33 _:=Kq.a1 k44 (Kq.a1 k43 (Kq.a1 k42 (an asm)))
  conv=>lhs;whnf
  refine ldI hO (by exact an A61) (by rfl) ?_
  conv=>lhs;whnf
  refine ldC hO (by exact an A50) (by rfl) ?_
  conv=>lhs;whnf
  refine fa0 hO ?_
  conv=>lhs;whnf
  refine ldC hO (by exact an A53) (by rfl) ?_
  conv=>lhs;whnf
  refine neF hO (by omega) ?_
  conv=>lhs;whnf
  refine fa0 hO ?_
  conv=>lhs;whnf
  refine ldC hO (by exact an A49) (by rfl) ?_
  conv=>lhs;whnf
  refine eqF hO (by omega) ?_
  conv=>lhs;whnf
  refine fa0 hO ?_
  conv=>lhs;whnf
  refine ldC hO (by exact an A49) (by rfl) ?_
  conv=>lhs;whnf
  refine eqF hO (by omega) ?_
  conv=>lhs;whnf
  refine fa0 hO ?_
  conv=>lhs;whnf
  refine ldC hO (by exact an A49) (by rfl) ?_
  conv=>lhs;whnf
  refine ldC hO (by exact an A50) (by rfl) ?_
  conv=>lhs;whnf
  refine fa0 hO ?_
  conv=>lhs;whnf
  refine faN hO ?_
  conv=>lhs;whnf
  refine ldC hO (by exact an A53) (by rfl) ?_
  conv=>lhs;whnf
  refine leF hO (by omega) ?_
  conv=>lhs;whnf
  refine ldC hO (by exact an A50) (by rfl) ?_
  conv=>lhs;whnf
  refine ldC hO (by exact an A50) (by rfl) ?_
  conv=>lhs;whnf
  refine fa0 hO ?_
  conv=>lhs;whnf
  refine ldC hO (by exact an A49) (by rfl) ?_
  conv=>lhs;whnf
  refine fa0 hO ?_
  conv=>lhs;whnf
  refine ldC hO (by exact an A49) (by rfl) ?_
  conv=>lhs;whnf
  refine ubu hO ?_
  conv=>lhs;whnf
  refine fe ?_
  conv=>lhs;whnf
  refine fe ?_
  conv=>lhs;whnf
  refine fe ?_
  conv=>lhs;whnf
  refine fa0 hO ?_
  conv=>lhs;whnf
  refine stC hO (by exact an A53) (by kernel_rfl) (fun _ _ _=>rfl) (fun _=>rfl) ?_
  conv=>lhs;whnf
  refine ldC hO (by exact an (an A50)) (by rfl) ?_
  conv=>lhs;whnf
  refine rcE hO (by kernel_rfl) rfl ?_
  conv=>lhs;whnf
  refine ldC hO (by exact an (an A49)) (by rfl) ?_
  conv=>lhs;whnf
  refine rcE hO (by kernel_rfl) rfl ?_
  conv=>lhs;whnf
  refine ldC hO (by exact an (an A49)) (by rfl) ?_
  conv=>lhs;whnf
  refine rcE hO (by kernel_rfl) rfl ?_
  conv=>lhs;whnf
  refine fa0 hO ?_
  conv=>lhs;whnf
  ((refine atStA ?_);refine stN hO (by exact asm) (by rfl) (by rfl) (fun _=>rfl) (fun _=>rfl) (by rfl) ?_)
  conv=>lhs;whnf
  refine fa0 hO ?_
  conv=>lhs;whnf
  refine ldC hO (by exact an (an (an A49))) (by rfl) ?_
  conv=>lhs;whnf
  refine fa0 hO ?_
  conv=>lhs;whnf
  refine ldC hO (by exact an (an (an A49))) (by rfl) ?_
  conv=>lhs;whnf
  (refine HK (cb:=cb) (w:=0) (K:=K) (c:=⟨s,e,tk,c.non,[]⟩) (hv:=.o .sl) (cn:=cn) (sn:=sn) (k:=2) (s:=s) (e:=e) (pb:=bo) (L:=(Ea cn sn tk ls).length) (by exact G44.kp (n:=4) (by exact Kq.kp (Kq.ml (Kq.ml (Kq.ml kr)))) (by omega)) (by omega) (by exact (R10.kc (by exact Kq.mr (Kq.mr (Kq.ml (Kq.tr (Kq.tr (Kq.tr (Kq.ml (Kq.ml (Kq.ml (Kq.tr (Kq.tr (Kq.ml (Kq.ml kr)) (Kq.s0 k32)) (Kq.s2 k33))))) (Kq.s2 k42)) (Kq.s2 k43)) (Kq.s2 k44))))) (by exact Kq.a0 k10 (an (an (an ha)))) (by omega)).up (by omega)) (by omega) (by omega) (by omega) (by omega) (by omega) (by exact an (an (an A50))) (by exact asm) (by exact an (an (an A49))) (by exact an (an (an A61))) (by exact an (an asm)) (by omega) hs he hcn hsn _ _ (by omega) (fun n103 m103 h103 g103 k103=>?_))
  have G103:Gl m103:=(by exact G44.kp (n:=4) (by exact Kq.kp (Kq.tp (Kq.ml (Kq.ml (Kq.ml kr))) k103)) (by omega))
  have R103:RingAt m103 n103 rb K:=(by exact (R10.kc (by exact Kq.tp (Kq.mr (Kq.mr (Kq.ml (Kq.tr (Kq.tr (Kq.tr (Kq.ml (Kq.ml (Kq.ml (Kq.tr (Kq.tr (Kq.ml (Kq.ml kr)) (Kq.s0 k32)) (Kq.s2 k33))))) (Kq.s2 k42)) (Kq.s2 k43)) (Kq.s2 k44))))) k103) (by exact Kq.a0 k10 (an (an (an ha)))) (by omega)).up (by omega))
  have K103:Kq [cb] n m m103:=(by exact Kq.tp (Kq.mr (Kq.mr (Kq.ml (Kq.s1 K44)))) k103)
  conv=>lhs;whnf
  refine ldC hO (by exact ka k103 (an (an (an A49)))) (by rfl) ?_
  conv=>lhs;whnf
  refine rcE hO (by kernel_rfl) rfl ?_
  conv=>lhs;whnf
  refine ldC hO (by exact ka k103 (an (an (an A49)))) (by rfl) ?_
  conv=>lhs;whnf
  refine rcE hO (by kernel_rfl) rfl ?_
  conv=>lhs;whnf
  (refine HK (cb:=cb) (w:=1) (K:=K) (c:=⟨s,e,tk,c.non,[]⟩) (hv:=.o .sl) (cn:=cn) (sn:=sn) (k:=2) (s:=s) (e:=e) (pb:=bo) (L:=(Ea cn sn tk ls).length) G103 (by omega) R103 (by omega) (by omega) (by omega) (by omega) (by omega) (by exact ka k103 (an (an (an A50)))) (by exact ka k103 asm) (by exact ka k103 (an (an (an A49)))) (by exact ka k103 (an (an (an A61)))) (by exact ka k103 (an (an asm))) (by omega) hs he hcn hsn _ _ (by omega) (fun n108 m108 h108 g108 k108=>?_))
  have G108:Gl m108:=(by exact G103.kp (n:=4) (by exact Kq.kp (Kq.dp k108)) (by omega))
  have R108:RingAt m108 n108 rb K:=(by exact (R103.kp (by exact Kq.kp (Kq.dp k108))).up h108)
  have K108:Kq [cb] n m m108:=(by exact Kq.tp (Kq.s1 K103) k108)
  have A109:Am m108 n10 _:=ka k108 (ka k103 (an (an (an A49))))
  conv=>lhs;whnf
  refine ldC hO A109 (by rfl) ?_
  conv=>lhs;whnf
  refine rcE hO (by kernel_rfl) rfl ?_
  conv=>lhs;whnf
  refine ldC hO A109 (by rfl) ?_
  conv=>lhs;whnf
  refine rcE hO (by kernel_rfl) rfl ?_
  conv=>lhs;whnf
  refine buBeg hO hw0 hw1 ?_
  have A114:Am m108 (n + 1) _:=ka k108 (ka k103 (an (an (an (Kq.a1 k44 (Kq.a1 k43 (Kq.a1 k42 (an (an (an (Kq.a1 k33 (Kq.a0 k32 (an (an (Kq.a0 k10 (an asm))))))))))))))))
  conv=>lhs;whnf
  ((refine atS67 ?_);refine Ez hO (N:=67) A114 (by kernel_rfl) (Fz hw0 hw1) (oneBeg _ _ _ _ _) (fun _=>rfl) ?_)
  conv=>lhs;whnf
  ((refine atG67 ?_);refine lnG (N:=67) (by exact asm) (Fz hw0 hw1) (by kernel_rfl) (aggBeg hw0) ?_)
  conv=>lhs;whnf
  exact hf _ _ _ (by omega) (by omega) (by exact Kq.ml (Kq.s1 K108)) (by exact ⟨rfl,⟨(by omega),⟨(by omega),⟨(by omega),⟨⟨(by omega),(by omega),(by omega),(by omega),(by simp only [List.length_append,List.length_cons,List.length_nil,Ad,Ai,Bc,Bj];omega)⟩,⟨_,⟨an (ka k108 (ka k103 asm)),.inl (⟨rfl,rfl⟩)⟩⟩⟩⟩⟩⟩⟩)
 ·conv=>lhs;whnf
  refine ldC hO (by exact an A50) (by rfl) ?_
  conv=>lhs;whnf
  refine fa0 hO ?_
  conv=>lhs;whnf
  refine faN hO ?_
  conv=>lhs;whnf
  refine ldC hO (by exact an A53) (by rfl) ?_
  conv=>lhs;whnf
  refine eqT hO (by omega) ?_
  conv=>lhs;whnf
  (refine HE (by exact I1 r44 A45 (by omega)) _ _ ?_)
  conv=>lhs;whnf
  refine neF hO (by omega) ?_
  conv=>lhs;whnf
  (refine HL (by exact I1 r44 A45 (by omega)) _ _ ?_;rw [List.length_nil])
  conv=>lhs;whnf
  refine gtF hO (by omega) ?_
  conv=>lhs;whnf
  refine ldC hO (by exact an A50) (by rfl) ?_
  conv=>lhs;whnf
  (refine HW (rb:=rb) (c:=c) (by exact an A53) _ _ ?_)
  have A128:Am m44 n33 _:=Kq.a1 k44 (Kq.a1 k43 (Kq.a1 k42 (an asm)))
  conv=>lhs;whnf
  refine ldI hO (by exact an A128) (by rfl) ?_
  conv=>lhs;whnf
  refine ldC hO (by exact an A50) (by rfl) ?_
  conv=>lhs;whnf
  refine fa0 hO ?_
  conv=>lhs;whnf
  refine ldC hO (by exact an A53) (by rfl) ?_
  conv=>lhs;whnf
  refine neF hO (by omega) ?_
  conv=>lhs;whnf
  refine fa0 hO ?_
  conv=>lhs;whnf
  refine ldC hO (by exact an A49) (by rfl) ?_
  conv=>lhs;whnf
  refine eqF hO (by omega) ?_
  conv=>lhs;whnf
  refine fa0 hO ?_
  conv=>lhs;whnf
  refine ldC hO (by exact an A49) (by rfl) ?_
  conv=>lhs;whnf
  refine eqF hO (by omega) ?_
  conv=>lhs;whnf
  refine fa0 hO ?_
  conv=>lhs;whnf
  refine ldC hO (by exact an A49) (by rfl) ?_
  conv=>lhs;whnf
  refine ldC hO (by exact an A50) (by rfl) ?_
  conv=>lhs;whnf
  refine fa0 hO ?_
  conv=>lhs;whnf
  refine faN hO ?_
  conv=>lhs;whnf
  refine ldC hO (by exact an A53) (by rfl) ?_
  conv=>lhs;whnf
  refine leF hO (by omega) ?_
  conv=>lhs;whnf
  refine ldC hO (by exact an A50) (by rfl) ?_
  conv=>lhs;whnf
  refine ldC hO (by exact an A50) (by rfl) ?_
  conv=>lhs;whnf
  refine fa0 hO ?_
  conv=>lhs;whnf
  refine ldC hO (by exact an A49) (by rfl) ?_
  conv=>lhs;whnf
  refine fa0 hO ?_
  conv=>lhs;whnf
  refine ldC hO (by exact an A49) (by rfl) ?_
  conv=>lhs;whnf
  refine ubu hO ?_
  conv=>lhs;whnf
  refine fe ?_
  conv=>lhs;whnf
  refine fe ?_
  conv=>lhs;whnf
  refine fe ?_
  conv=>lhs;whnf
  refine fa0 hO ?_
  conv=>lhs;whnf
  refine stC hO (by exact an A53) (by kernel_rfl) (fun _ _ _=>rfl) (fun _=>rfl) ?_
  conv=>lhs;whnf
  refine ldC hO (by exact an (an A50)) (by rfl) ?_
  conv=>lhs;whnf
  refine rcE hO (by kernel_rfl) rfl ?_
  conv=>lhs;whnf
  refine ldC hO (by exact an (an A49)) (by rfl) ?_
  conv=>lhs;whnf
  refine rcE hO (by kernel_rfl) rfl ?_
  conv=>lhs;whnf
  refine ldC hO (by exact an (an A49)) (by rfl) ?_
  conv=>lhs;whnf
  refine rcE hO (by kernel_rfl) rfl ?_
  conv=>lhs;whnf
  refine fa0 hO ?_
  conv=>lhs;whnf
  ((refine atStA ?_);refine stN hO (by exact asm) (by rfl) (by rfl) (fun _=>rfl) (fun _=>rfl) (by rfl) ?_)
  conv=>lhs;whnf
  refine fa0 hO ?_
  conv=>lhs;whnf
  refine ldC hO (by exact an (an (an A49))) (by rfl) ?_
  conv=>lhs;whnf
  refine fa0 hO ?_
  conv=>lhs;whnf
  refine ldC hO (by exact an (an (an A49))) (by rfl) ?_
  conv=>lhs;whnf
  (refine HK (cb:=cb) (w:=0) (K:=K) (c:=⟨s,e,tk,c.non,[]⟩) (hv:=.o .sl) (cn:=cn) (sn:=sn) (k:=2) (s:=s) (e:=e) (pb:=bo) (L:=(Ea cn sn tk ls).length) (by exact G44.kp (n:=4) (by exact Kq.kp (Kq.ml (Kq.ml (Kq.ml kr)))) (by omega)) (by omega) (by exact (R10.kc (by exact Kq.mr (Kq.mr (Kq.ml (Kq.tr (Kq.tr (Kq.tr (Kq.ml (Kq.ml (Kq.ml (Kq.tr (Kq.tr (Kq.ml (Kq.ml kr)) (Kq.s0 k32)) (Kq.s2 k33))))) (Kq.s2 k42)) (Kq.s2 k43)) (Kq.s2 k44))))) (by exact Kq.a0 k10 (an (an (an ha)))) (by omega)).up (by omega)) (by omega) (by omega) (by omega) (by omega) (by omega) (by exact an (an (an A50))) (by exact asm) (by exact an (an (an A49))) (by exact an (an (an A128))) (by exact an (an asm)) (by omega) hs he hcn hsn _ _ (by omega) (fun n170 m170 h170 g170 k170=>?_))
  have G170:Gl m170:=(by exact G44.kp (n:=4) (by exact Kq.kp (Kq.tp (Kq.ml (Kq.ml (Kq.ml kr))) k170)) (by omega))
  have R170:RingAt m170 n170 rb K:=(by exact (R10.kc (by exact Kq.tp (Kq.mr (Kq.mr (Kq.ml (Kq.tr (Kq.tr (Kq.tr (Kq.ml (Kq.ml (Kq.ml (Kq.tr (Kq.tr (Kq.ml (Kq.ml kr)) (Kq.s0 k32)) (Kq.s2 k33))))) (Kq.s2 k42)) (Kq.s2 k43)) (Kq.s2 k44))))) k170) (by exact Kq.a0 k10 (an (an (an ha)))) (by omega)).up (by omega))
  have K170:Kq [cb] n m m170:=(by exact Kq.tp (Kq.mr (Kq.mr (Kq.ml (Kq.s1 K44)))) k170)
  conv=>lhs;whnf
  refine ldC hO (by exact ka k170 (an (an (an A49)))) (by rfl) ?_
  conv=>lhs;whnf
  refine rcE hO (by kernel_rfl) rfl ?_
  conv=>lhs;whnf
  refine ldC hO (by exact ka k170 (an (an (an A49)))) (by rfl) ?_
  conv=>lhs;whnf
  refine rcE hO (by kernel_rfl) rfl ?_
  conv=>lhs;whnf
  (refine HK (cb:=cb) (w:=1) (K:=K) (c:=⟨s,e,tk,c.non,[]⟩) (hv:=.o .sl) (cn:=cn) (sn:=sn) (k:=2) (s:=s) (e:=e) (pb:=bo) (L:=(Ea cn sn tk ls).length) G170 (by omega) R170 (by omega) (by omega) (by omega) (by omega) (by omega) (by exact ka k170 (an (an (an A50)))) (by exact ka k170 asm) (by exact ka k170 (an (an (an A49)))) (by exact ka k170 (an (an (an A128)))) (by exact ka k170 (an (an asm))) (by omega) hs he hcn hsn _ _ (by omega) (fun n175 m175 h175 g175 k175=>?_))
  have G175:Gl m175:=(by exact G170.kp (n:=4) (by exact Kq.kp (Kq.dp k175)) (by omega))
  have R175:RingAt m175 n175 rb K:=(by exact (R170.kp (by exact Kq.kp (Kq.dp k175))).up h175)
  have K175:Kq [cb] n m m175:=(by exact Kq.tp (Kq.s1 K170) k175)
  have A176:Am m175 n10 _:=ka k175 (ka k170 (an (an (an A49))))
  conv=>lhs;whnf
  refine ldC hO A176 (by rfl) ?_
  conv=>lhs;whnf
  refine rcE hO (by kernel_rfl) rfl ?_
  conv=>lhs;whnf
  refine ldC hO A176 (by rfl) ?_
  conv=>lhs;whnf
  refine rcE hO (by kernel_rfl) rfl ?_
  conv=>lhs;whnf
  refine buBeg hO hw0 hw1 ?_
  have A181:Am m175 (n + 1) _:=ka k175 (ka k170 (an (an (an (Kq.a1 k44 (Kq.a1 k43 (Kq.a1 k42 (an (an (an (Kq.a1 k33 (Kq.a0 k32 (an (an (Kq.a0 k10 (an asm))))))))))))))))
  conv=>lhs;whnf
  ((refine atS67 ?_);refine Ez hO (N:=67) A181 (by kernel_rfl) (Fz hw0 hw1) (oneBeg _ _ _ _ _) (fun _=>rfl) ?_)
  conv=>lhs;whnf
  ((refine atG67 ?_);refine lnG (N:=67) (by exact asm) (Fz hw0 hw1) (by kernel_rfl) (aggBeg hw0) ?_)
  conv=>lhs;whnf
  exact hf _ _ _ (by omega) (by omega) (by exact Kq.ml (Kq.s1 K175)) (by exact ⟨rfl,⟨(by omega),⟨(by omega),⟨(by omega),⟨⟨(by omega),(by omega),(by omega),(by omega),(by simp only [List.length_append,List.length_cons,List.length_nil,Ad,Ai,Bc,Bj];omega)⟩,⟨_,⟨an (ka k175 (ka k170 asm)),.inl (⟨rfl,rfl⟩)⟩⟩⟩⟩⟩⟩⟩)
end Go.Proofs.YtfdfdagbeeeomaaDoor.V2.S
namespace Go.Proofs.YtfdfdagbeeeomaaDoor.V2.S
open Go
set_option maxRecDepth 100000
set_option maxHeartbeats 4000000
set_option linter.unusedVariables false
attribute [local irreducible] fN fO nM gM pM Phi.fn mp bl At Bx Ce Ac C9 Dr lnF
theorem dgH_eq (Y:Cy) (K:Bs) (c:Cl) (n:Nat):dgH Y K c n ask0B=dgB Y K 1 c.ses c.ep (J5 n (if c.ses=0 then 0 else c.tok)):=by
 unfold dgH Eb J5
 rw [List.append_assoc]
def TellsS (Y:Cy) (H:HF):Prop:=∀ {n:Nat} {m:T FObj},Gl m → 4 ≤ n → Ret 6000 H [] n m (.b true)
theorem tells_s {O:Oz} {Y:Cy} (hO:O=zO) (Φ:Phi) (HPa:PairS (Phi.fn Φ 5)) (HSt:StartS Y (Phi.fn Φ 6)) (HTA:TakeA Y (Phi.fn Φ 7)) (HTR:TakeR0 Y (Phi.fn Φ 7)) (HTB:TakeB Y (Phi.fn Φ 8)) (HM:MarkV (Phi.fn Φ 10)):TellsS Y (p11 O Φ):=fun {n m} hG hn4 k P hn hf=>by
 have hw0:=L32.way Y Au 0 5 1 1 2
 have hw1:=L32.way Y Au 1 5 1 1 2
 have hdl:(Gv Y Au ⟨5,0,0,false,0,0,0,[]⟩ 1 2).length=63:=Lb _ _ _ _ _ _
 have hdn:Gv Y Au ⟨5,0,0,false,0,0,0,[]⟩ 1 2 ≠ []:=fun h=>by rw [h] at hdl;cases hdl
 have hh:dgH Y Au ⟨0,0,0,0,[]⟩ 1 ask0B ≠ []:=Mm _ _ _ _ _ _
 conv=>lhs;whnf
 (refine HPa _ _ (by omega) (fun v1 n1 m1 h1 g1 k1 q1=>?_);obtain ⟨rb,cb,sb,rfl,a1,a2,a3,R1,C1,S1⟩:=q1;have zr:=R1.1;have zc:=C1.1;have zs:=S1.1)
 have G1:Gl m1:=(by exact hG.kp (n:=4) (by exact Kq.kp (Kq.s0 k1)) (by omega))
 conv=>lhs;whnf
 refine ubu hO ?_
 conv=>lhs;whnf
 (refine HSt (rb:=rb) (K:=Au) G1 (by omega) (by omega) C1 R1 (by decide) _ _ (by omega) (fun v3 n3 m3 h3 g3 k3 q3=>?_);rw [dgH_eq] at q3;obtain ⟨b3,rfl,d3,e3,f3,C3⟩:=q3;have R3:RingAt m3 n3 rb Au:=(by exact (R1.kcl (by exact Kq.s1 k3) C1 (by omega)).up h3);have S3:SvAt m3 n3 sb rb ⟨5,0,0,false,0,0,0,[]⟩:=(by exact (S1.kcl (by exact Kq.s1 k3) C1 (by omega)).up h3))
 have G3:Gl m3:=(by exact G1.kp (n:=4) (by exact Kq.kp (Kq.s2 k3)) (by omega))
 conv=>lhs;whnf
 (refine HTA (v:=⟨5,0,0,false,0,0,0,[]⟩) (rb:=rb) (K:=Au) (s:=0) (e:=0) (cn:=1) (tk:=0) (sn:=2) G3 (by omega) (by omega) S3 R3 (by decide) (by decide) (by decide) (by decide) (by decide) (by exact Sl.own f3 e3 (by omega)) (fun h=>by cases h) ⟨by decide,.inl ⟨rfl,rfl,rfl,rfl⟩⟩ _ _ (by omega) (fun v4 n4 m4 h4 g4 k4 q4=>?_);obtain ⟨⟨b4,rfl,d4,e4,f4⟩,S4⟩:=q4;have R4:RingAt m4 n4 rb Au:=(by exact (R3.ksv (by exact Kq.s1 k4) S3 (by omega)).up h4);have C4:ClAt m4 n4 cb rb (Ca Y Au ⟨0,0,0,0,[]⟩ 1 ask0B):=(by exact (C3.ksv (by exact Kq.s1 k4) S3 (by omega)).up h4))
 have G4:Gl m4:=(by exact G3.kp (n:=4) (by exact Kq.kp (Kq.s2 k4)) (by omega))
 conv=>lhs;whnf
 refine alO hO (by omega) ?_
 conv=>lhs;whnf
 ((refine Iq ?_);refine Ez hO (N:=68) (by exact asm) (by kernel_rfl) (B2 hw0 hw1) (Fo (by exact Or.inr ⟨_,_,_,_,_,_,rfl⟩) (by exact Or.inl rfl)) (fun _=>rfl) ?_)
 conv=>lhs;whnf
 (refine HTR (v:=Jl Y Au ⟨5,0,0,false,0,0,0,[]⟩ 0 0 1 2) (rb:=rb) (K:=Au) (s:=0) (e:=0) (cn:=1) (tk:=0) (sn:=3) (by exact G4.kp (n:=4) (by exact Kq.kp (Kq.ml (Kq.ml kr))) (by omega)) (by omega) (by omega) (by exact (S4.kp (by exact Kq.kp (Kq.ml (Kq.ml kr)))).up (by omega)) (by exact (R3.ksv (by exact Kq.ml (Kq.ml (Kq.s1 k4))) S3 (by omega)).up (by omega)) (by decide) (by decide) (by decide) (by decide) (by decide) (by exact Sl.own (by exact an (an (Kq.a1 k4 f3))) (by omega) (by omega)) rfl rfl rfl rfl hdn _ _ (by omega) (fun v7 n7 m7 h7 g7 k7 q7=>?_);obtain ⟨⟨b7,rfl,d7,e7,f7⟩,S7⟩:=q7;have R7:RingAt m7 n7 rb Au:=(by exact (R4.ksv (by exact Kq.tr (Kq.ml (Kq.ml kr)) (Kq.s1 k7)) S4 (by omega)).up (by omega));have C7:ClAt m7 n7 cb rb (Ca Y Au ⟨0,0,0,0,[]⟩ 1 ask0B):=(by exact (C4.ksv (by exact Kq.tr (Kq.ml (Kq.ml kr)) (Kq.s1 k7)) S4 (by omega)).up (by omega)))
 have G7:Gl m7:=(by exact G4.kp (n:=4) (by exact Kq.kp (Kq.tr (Kq.ml (Kq.ml kr)) (Kq.s2 k7))) (by omega))
 conv=>lhs;whnf
 refine alO hO (by omega) ?_
 conv=>lhs;whnf
 ((refine Iq ?_);refine Ez hO (N:=68) (by exact asm) (by kernel_rfl) (B2 L32.z' L32.z') (Fo (by exact Or.inr ⟨_,_,_,_,_,_,rfl⟩) (by exact Or.inl rfl)) (fun _=>rfl) ?_)
 conv=>lhs;whnf
 refine fa0 hO ?_
 conv=>lhs;whnf
 refine ldC hO (by exact asm) (by rfl) ?_
 conv=>lhs;whnf
 (refine HTB (c:=Ca Y Au ⟨0,0,0,0,[]⟩ 1 ask0B) (rb:=rb) (K:=Au) (s:=5) (e:=1) (cn:=1) (sn:=2) (tk:=Bf Y Au 5 1) (ls:=0) (by exact G7.kp (n:=4) (by exact Kq.kp (Kq.ml (Kq.ml kr))) (by omega)) (by omega) (by omega) (by exact (C4.ksv (by exact Kq.ml (Kq.ml (Kq.tr (Kq.ml (Kq.ml kr)) (Kq.s1 k7)))) S4 (by omega)).up (by omega)) (by exact (R4.ksv (by exact Kq.ml (Kq.ml (Kq.tr (Kq.ml (Kq.ml kr)) (Kq.s1 k7)))) S4 (by omega)).up (by omega)) (by decide) (by decide) (by decide) (by decide) (E6 Y _ _) (by decide) hh (by exact Sl.own (by exact an (an f7)) (by omega) (by omega)) rfl (by decide) (.inr rfl) (show 0 < 1 by decide) _ _ (by omega) (fun v12 n12 m12 h12 g12 k12 q12=>?_);obtain ⟨rfl,C12⟩:=q12;have R12:RingAt m12 n12 rb Au:=(by exact (R7.kcl (by exact Kq.tr (Kq.ml (Kq.ml kr)) (Kq.s1 k12)) C7 (by omega)).up (by omega));have S12:SvAt m12 n12 sb rb (Jl Y Au ⟨5,0,0,false,0,0,0,[]⟩ 0 0 1 2):=(by exact (S7.kcl (by exact Kq.tr (Kq.ml (Kq.ml kr)) (Kq.s1 k12)) C7 (by omega)).up (by omega)))
 have G12:Gl m12:=(by exact G7.kp (n:=4) (by exact Kq.kp (Kq.tr (Kq.ml (Kq.ml kr)) (Kq.s2 k12))) (by omega))
 conv=>lhs;whnf
 refine alO hO (by omega) ?_
 conv=>lhs;whnf
 ((refine atS67 ?_);refine Ez hO (N:=67) (by exact asm) (by kernel_rfl) (Fz hw0 hw1) (oneBeg _ _ _ _ _) (fun _=>rfl) ?_)
 conv=>lhs;whnf
 refine eqT hO (by omega) ?_
 conv=>lhs;whnf
 refine eqT hO (by omega) ?_
 conv=>lhs;whnf
 refine eqT hO (by omega) ?_
 conv=>lhs;whnf
 refine fa0 hO ?_
 have A19:Am m12 n4 _:=Kq.a1 k12 (an (an (Kq.a1 k7 asm)))
 conv=>lhs;whnf
 refine ldC hO (by exact an (an A19)) (by rfl) ?_
 conv=>lhs;whnf
 refine fa0 hO ?_
 conv=>lhs;whnf
 refine ldC hO (by exact an (an (Kq.a1 k12 asm))) (by rfl) ?_
 conv=>lhs;whnf
 refine fa0 hO ?_
 conv=>lhs;whnf
 refine ldC hO (by exact an (an A19)) (by rfl) ?_
 conv=>lhs;whnf
 refine bSP hO (by exact an (an (Kq.a1 k12 (an (an (Kq.a1 k7 (an (an f4)))))))) (by omega) ?_
 conv=>lhs;whnf
 refine fa0 hO ?_
 conv=>lhs;whnf
 refine ldC hO (by exact an (an (Kq.a1 k12 asm))) (by rfl) ?_
 conv=>lhs;whnf
 refine bSP hO (by exact an (an (Kq.a1 k12 (an (an f7))))) (by omega) ?_
 conv=>lhs;whnf
 refine eqST hO (by rfl) ?_
 conv=>lhs;whnf
 refine eqT hO (by omega) ?_
 conv=>lhs;whnf
 refine fa0 hO ?_
 conv=>lhs;whnf
 refine ldC hO (by exact asm) (by rfl) ?_
 conv=>lhs;whnf
 refine eqT hO (by omega) ?_
 conv=>lhs;whnf
 refine fa0 hO ?_
 conv=>lhs;whnf
 refine ldC hO (by exact asm) (by rfl) ?_
 conv=>lhs;whnf
 refine eqT hO (by omega) ?_
 conv=>lhs;whnf
 refine fa0 hO ?_
 conv=>lhs;whnf
 ((refine atL32 ?_);refine ln32c hO (pre:=[_,_,_]) (by exact asm) (by assumption) rfl ?_)
 conv=>lhs;whnf
 refine fa0 hO ?_
 conv=>lhs;whnf
 ((refine atL32 ?_);refine ln32c hO (pre:=[_,_,_,_]) (by exact an (an A19)) (by assumption) rfl ?_)
 conv=>lhs;whnf
 refine eqSame hO (by assumption) ?_
 conv=>lhs;whnf
 refine HM (rb:=rb) (by exact (S7.kcl (by exact Kq.ml (Kq.ml (Kq.tr (Kq.ml (Kq.ml kr)) (Kq.s1 k12)))) C7 (by omega)).up (by omega)) _ _ (by omega) (fun n41 m41 h41 g41 k41=>?_)
 have G41:Gl m41:=(by exact G12.kp (n:=4) (by exact Kq.kp (Kq.tp (Kq.ml (Kq.ml kr)) k41)) (by omega))
 conv=>lhs;whnf
 refine ubu hO ?_
 conv=>lhs;whnf
 refine fe ?_
 conv=>lhs;whnf
 refine fe ?_
 conv=>lhs;whnf
 refine fe ?_
 conv=>lhs;whnf
 refine eqI3 hO (by rfl) (by rfl) ?_
 conv=>lhs;whnf
 exact hf _ _ (by omega) (by omega) (by exact Kq.kp (Kq.tp (Kq.ml (Kq.ml (Kq.tr (Kq.ml (Kq.ml (Kq.tr (Kq.ml (Kq.ml (Kq.tr (Kq.tr (Kq.s0 k1) (Kq.s2 k3)) (Kq.s2 k4)))) (Kq.s2 k7)))) (Kq.s2 k12)))) k41))
end Go.Proofs.YtfdfdagbeeeomaaDoor.V2.S
namespace Go.Proofs.YtfdfdagbeeeomaaDoor.V2.S
open Go
set_option maxRecDepth 100000
set_option linter.unusedVariables false
/-! Late Hellos: what client and server are behind k rounds. -/
def B8 (q k:Nat):Nat:=(q + k) % 18446744073709551616
theorem E8 (q k:Nat):B8 q k < 18446744073709551616:=Nat.mod_lt _ (by decide)
theorem I3 {q i j:Nat} (h:i < j) (hj:j ≤ 10):B8 q i ≠ B8 q j:=by unfold B8;omega
section
variable (Y:Cy) (q:Nat)
def cK:Nat → Cl
 | 0=>⟨0,0,0,0,[]⟩
 | k + 1=>⟨5,k + 1,Bf Y Au 5 (k + 1),B8 q k,[]⟩
def vK:Nat → Sv
 | 0=>⟨5,0,0,false,0,0,0,[]⟩
 | k + 1=>Jl Y Au (vK k) (cK Y q k).ses (cK Y q k).ep (B8 q k) q
def tkK (k:Nat):Nat:=if (cK Y q k).ses=0 then 0 else (cK Y q k).tok
def hB (k:Nat):Bs:=dgB Y Au 1 (cK Y q k).ses (cK Y q k).ep (J5 (B8 q k) (tkK Y q k))
end
theorem vK_ses (Y:Cy) (q:Nat):∀ k,(vK Y q k).ses=5
 | 0=>rfl
 | k + 1=>vK_ses Y q k
theorem vK_ep (Y:Cy) (q:Nat):∀ k,(vK Y q k).ep=k
 | 0=>rfl
 | k + 1=>congrArg (· + 1) (vK_ep Y q k)
theorem vK_con (Y:Cy) (q:Nat):∀ k,(vK Y q k).con=0
 | 0=>rfl
 | k + 1=>vK_con Y q k
theorem M4 (Y:Cy) (q k:Nat):(cK Y q k).ep=k:=by cases k <;> rfl
theorem tkK_lt (Y:Cy) (q k:Nat):tkK Y q k < 18446744073709551616:=by
 cases k with
 | zero=>exact (show 0 < 18446744073709551616 by decide)
 | succ k=>exact E6 Y _ _
theorem hB_len (Y:Cy) (q k:Nat):(hB Y q k).length=56:=by unfold hB;rw [Lb,D5]
theorem dgH_cK (Y:Cy) (q k:Nat):dgH Y Au (cK Y q k) (B8 q k) ask0B=hB Y q k:=by rw [dgH_eq];rfl
theorem I9 (Y:Cy) (q k:Nat):(cK Y q k).ses < 4294967296:=by
 cases k with
 | zero=>exact (show 0 < 4294967296 by decide)
 | succ k=>exact (show 5 < 4294967296 by decide)
theorem acc0 (Y:Cy) (q k:Nat) (hk:k ≤ 20):Acc Y Au (vK Y q k) (cK Y q k).ses (cK Y q k).ep (tkK Y q k):=by
 refine ⟨by rw [vK_ep];omega,?_⟩
 cases k with
 | zero=>exact .inl ⟨rfl,rfl,rfl,rfl⟩
 | succ k =>
  refine .inr ⟨(show 5 ≠ 0 by decide),(vK_ses Y q (k + 1)).symm,?_,?_,?_,rfl⟩
  ·rw [vK_con];omega
  ·rw [M4];omega
  ·rw [M4,vK_ep];omega
theorem fresh0 (Y:Cy) (q k:Nat) (hk:k ≤ 9):(vK Y q k).took=true → ¬ ((vK Y q k).ls=(cK Y q k).ses ∧ (vK Y q k).le=(cK Y q k).ep ∧ (vK Y q k).ln=B8 q k):=by
 cases k with
 | zero=>intro h;cases h
 | succ k=>intro _ h;exact I3 (q:=q) (show k < k + 1 by omega) (by omega) h.2.2
def sls (l:List (Nat × Nat)):List FV:=l.map fun p=>.sl p.1 0 p.2 p.2 false 1
theorem sls_len (l:List (Nat × Nat)):(sls l).length=l.length:=List.length_map ..
theorem sls_one (r:FR):∀ l:List (Nat × Nat),Cx (sls l) r=r
 | []=>rfl
 | a :: l=>by
  show kC (Cx (sls l) r) (fun _=>.bad) .bad (.sl a.1 0 a.2 a.2 false 1)=r
  exact sls_one r l
theorem ofQ_sls (l:List (Nat × Nat)) (a:Nat × Nat) (e:TypeId) (t:Tl) (c:FObj → FR):ofQ (sls (l ++ [a])) e t c=c (.cells (sls (l ++ [a])) e t):=by
 cases l <;> rfl
theorem sls_get {l:List (Nat × Nat)} {i:Nat} {p:Nat × Nat} (h:l[i]?=some p):(sls l)[i]?=some (.sl p.1 0 p.2 p.2 false 1):=by
 unfold sls;rw [List.getElem?_map,h];rfl
def HsAt (Y:Cy) (q n0:Nat) (m:T FObj) (N:Nat) (hv:FV) (j:Nat):Prop:=(j=0 ∧ hv=.o .sl) ∨ ∃ D l,0 < j ∧ n0 ≤ D ∧ D < N ∧ l.length=j ∧ hv=.sl D 0 j j false 1 ∧ Am m D (.cells (sls l) 28 .more) ∧ ∀ i p,l[i]?=some p → p.1 < N ∧ p.2=(hB Y q i).length ∧ Am m p.1 (.bs (Ac (hB Y q i)) 5 .more)
theorem HsAt.mv {Y:Cy} {q n0 N j:Nat} {m m':T FObj} {hv:FV} (h:HsAt Y q n0 m N hv j) (hk:∀ b o,b < N → (∀ l e t,o=.cells l e t → t=.more) → Am m b o → Am m' b o):HsAt Y q n0 m' N hv j:=by
 rcases h with h | ⟨D,l,h0,h1,h2,h3,h4,h5,h6⟩
 ·exact .inl h
 ·refine .inr ⟨D,l,h0,h1,h2,h3,h4,hk _ _ h2 (fun l e t h=>by cases h;rfl) h5,fun i p hp=>?_⟩
  obtain ⟨g1,g2,g3⟩:=h6 i p hp
  exact ⟨g1,g2,hk _ _ g1 (fun l e t h=>by cases h) g3⟩
theorem HsAt.kp {Y:Cy} {q n0 N j:Nat} {m m':T FObj} {hv:FV} (h:HsAt Y q n0 m N hv j) (k:Kp N m m'):HsAt Y q n0 m' N hv j:=h.mv fun b o hb _ ha=>k b o hb ha
theorem HsAt.up {Y:Cy} {q n0 N N' j:Nat} {m:T FObj} {hv:FV} (h:HsAt Y q n0 m N hv j) (hN:N ≤ N'):HsAt Y q n0 m N' hv j:=by
 rcases h with h | ⟨D,l,h0,h1,h2,h3,h4,h5,h6⟩
 ·exact .inl h
 ·exact .inr ⟨D,l,h0,h1,by omega,h3,h4,h5,fun i p hp=>⟨by have:=(h6 i p hp).1;omega,(h6 i p hp).2⟩⟩
theorem HsAt.kx {Y:Cy} {q n0 N j c:Nat} {m m':T FObj} {hv:FV} {l:List FV} {e:TypeId} (h:HsAt Y q n0 m N hv j) (k:Kq [c] N m m') (hc:Am m c (.cells l e .exact)):HsAt Y q n0 m' N hv j:=h.mv fun b o hb ho ha=>k b o hb (nm1 (by
 rintro rfl
 unfold Am at ha hc
 rw [hc] at ha
 have:=ho l e .exact (Option.some.inj ha).symm
 cases this)) ha
theorem HsAt.kcl {Y:Cy} {q n0 N N' j cb rb:Nat} {m m':T FObj} {hv:FV} {c:Cl} (h:HsAt Y q n0 m N hv j) (k:Kq [cb] N m m') (hc:ClAt m N' cb rb c):HsAt Y q n0 m' N hv j:=by
 obtain ⟨_,_,_,_,hv,ha,_⟩:=hc
 exact h.kx k ha
theorem HsAt.ksv {Y:Cy} {q n0 N N' j sb rb:Nat} {m m':T FObj} {hv:FV} {c:Sv} (h:HsAt Y q n0 m N hv j) (k:Kq [sb] N m m') (hc:SvAt m N' sb rb c):HsAt Y q n0 m' N hv j:=by
 obtain ⟨_,_,_,_,hv,ha,_⟩:=hc
 exact h.kx k ha
theorem HsAt.get {Y:Cy} {q n0 N j i:Nat} {m:T FObj} {hv:FV} (h:HsAt Y q n0 m N hv j) (hi:i < j):∃ D l b,hv=.sl D 0 j j false 1 ∧ n0 ≤ D ∧ Am m D (.cells l 28 .more) ∧ l[i]?=some (.sl b 0 (hB Y q i).length (hB Y q i).length false 1) ∧ b < N ∧ Am m b (.bs (Ac (hB Y q i)) 5 .more):=by
 rcases h with ⟨rfl,_⟩ | ⟨D,l,h0,h1,h2,h3,h4,h5,h6⟩
 ·omega
 ·have hl:i < l.length:=by omega
  obtain ⟨g1,g2,g3⟩:=h6 i l[i] (List.getElem?_eq_getElem hl)
  refine ⟨D,sls l,l[i].1,h4,h1,h5,?_,g1,g3⟩
  rw [sls_get (List.getElem?_eq_getElem hl),g2]
theorem apHs {O:Oz} (hO:O=zO) {Y:Cy} {q n0 n j b b' rb cb sb:Nat} {m:T FObj} {hv:FV} {c:Cl} {s:Sv} {e':TypeId} {t':Tl} {x':Bool} {k:KV} {P:FR} (hG:Gl m) (hR:RingAt m n rb Au) (hC:ClAt m n cb rb c) (hS:SvAt m n sb rb s) (hH:HsAt Y q n0 m n hv j) (h4:4 ≤ n0) (h0:n0 ≤ n) (hn:n < 1000000) (hj:j ≤ 20)
  (hb':Am m b' (.cells [.sl b 0 (hB Y q j).length (hB Y q j).length false 1] e' t')) (hb:b < n) (ha:Am m b (.bs (Ac (hB Y q j)) 5 .more))
  (hk:∀ hv' m',Kp n0 m m' → Gl m' → RingAt m' (n + 1) rb Au → ClAt m' (n + 1) cb rb c → SvAt m' (n + 1) sb rb s → HsAt Y q n0 m' (n + 1) hv' (j + 1) → Am m' b (.bs (Ac (hB Y q j)) 5 .more) → k hv' ⟨n + 1,m'⟩=P):O.ap 28 false 1 hv (.sl b' 0 1 1 x' 1) ⟨n,m⟩ k=P:=by
 have one:∀ r,Cx [.sl b 0 (hB Y q j).length (hB Y q j).length false 1] r=r:=fun r=>rfl
 rcases hH with ⟨rfl,rfl⟩ | ⟨D,l,hj0,h1,h2,h3,rfl,h5,h6⟩
 ·refine apNC hO hb' (by show 0 + 1 * 1 ≤ 1;omega) one (by omega) (by omega) hn (fun _=>rfl) ?_
  have kp:∀ o,Kp n m (mp m n o):=fun o=>Kp.mp (Kp.refl _ _) (Nat.le_refl _) hn
  refine hk _ _ (fun y o hy hy2=>kp _ y o (by omega) hy2) (hG.kp (n:=n) (kp _) (by omega)) ((hR.kp (kp _)).up (by omega)) ((hC.kp (kp _)).up (by omega)) ((hS.kp (kp _)).up (by omega)) (.inr ⟨n,[(b,(hB Y q 0).length)],by omega,h0,by omega,rfl,rfl,am_same hn,fun i p hp=>?_⟩) (kp _ _ _ hb ha)
  cases i with
  | zero=>cases hp;exact ⟨by show b < n + 1;omega,rfl,kp _ _ _ hb ha⟩
  | succ i=>cases hp
 ·have e1:(sls l).drop 0=sls l:=rfl
  have e2:((sls l).drop 0).take (j * 1)=sls l:=by rw [e1,Nat.mul_one,← h3,← sls_len,List.take_length]
  have e3:(([.sl b 0 (hB Y q j).length (hB Y q j).length false 1]:List FV).drop 0).take (1 * 1)=sls [(b,(hB Y q j).length)]:=rfl
  have e4:sls l ++ sls [(b,(hB Y q j).length)]=sls (l ++ [(b,(hB Y q j).length)]):=by unfold sls;rw [List.map_append]
  refine apCC hO h5 hb' (by rw [sls_len];omega) (by show 0 + 1 * 1 ≤ 1;omega) (sls_one · l) one (by omega) (by rfl) (fun _=>rfl) (by omega) hn (fun c=>?_) ?_
  ·rw [e2,e3,e4];exact ofQ_sls _ _ _ _ _
  ·rw [e2,e3,e4]
   have hD:∀ o y p,y < n → y ≠ D → Am m y p → Am (mp (mp m D .dead) n o) y p:=fun o y p hy hyD hp=>Ir hn (by omega) (Ir (by omega) hyD hp)
   have nD:∀ {y p},Am m y p → (∀ l e t,p=.cells l e t → t ≠ .more) → y ≠ D:=by
    rintro y p hp hne rfl
    unfold Am at hp h5
    rw [h5] at hp
    exact hne _ _ _ (Option.some.inj hp).symm rfl
   have sl:∀ {v x} o,Sl m n v x → Sl (mp (mp m D .dead) n o) n v x:=by
    intro v x o h
    rcases h with h | ⟨b,o',L,K,fl,l',el,tl,g1,g2,g3,g4,g6,g5⟩
    ·exact .inl h
    ·exact .inr ⟨b,o',L,K,fl,l',el,tl,g1,g2,hD _ _ _ g1 (nD g3 (fun _ _ _ h=>by cases h)) g3,g4,g6,g5⟩
   have he:∀ {v x} o,HelAt m n v x → HelAt (mp (mp m D .dead) n o) n v x:=by
    intro v x o h
    rcases h with h | ⟨b,g1,g2,g3,g4⟩
    ·exact .inl h
    ·exact .inr ⟨b,g1,g2,hD _ _ _ g1 (nD g3 (fun _ _ _ h=>by cases h)) g3,g4⟩
   have kl:∀ o,Kp n0 m (mp (mp m D .dead) n o):=fun o y p hy hp=>hD _ _ _ (by omega) (by omega) hp
   refine hk _ _ (kl _) (hG.kp (n:=n0) (kl _) h4) ?_ ?_ ?_ ?_ (hD _ _ _ hb (nD ha (fun _ _ _ h=>by cases h)) ha)
   ·obtain ⟨r1,v,r2,r3,r4⟩:=hR
    exact ⟨by omega,v,hD _ _ _ r1 (nD r2 (fun _ _ _ h=>by cases h;exact fun h=>by cases h)) r2,(sl _ r3).up (by omega),r4⟩
   ·obtain ⟨r1,r2,r3,r4,v,r5,r6⟩:=hC
    exact ⟨by omega,by omega,r3,r4,v,hD _ _ _ r1 (nD r5 (fun _ _ _ h=>by cases h;exact fun h=>by cases h)) r5,(he _ r6).up (by omega)⟩
   ·obtain ⟨r1,r2,r3,r4,v,r5,r6⟩:=hS
    exact ⟨by omega,by omega,r3,r4,v,hD _ _ _ r1 (nD r5 (fun _ _ _ h=>by cases h;exact fun h=>by cases h)) r5,(he _ r6).up (by omega)⟩
   ·refine .inr ⟨n,l ++ [(b,(hB Y q j).length)],by omega,h0,by omega,by rw [List.length_append,h3];rfl,rfl,am_same hn,fun i p hp=>?_⟩
    rcases Nat.lt_or_ge i l.length with hi | hi
    ·rw [List.getElem?_append_left hi] at hp
     obtain ⟨g1,g2,g3⟩:=h6 i p hp
     exact ⟨by omega,g2,hD _ _ _ g1 (nD g3 (fun _ _ _ h=>by cases h)) g3⟩
    ·have hi2:i=j:=by
      have:i < (l ++ [(b,(hB Y q j).length)]).length:=by
       rcases Nat.lt_or_ge i (l ++ [(b,(hB Y q j).length)]).length with h | h
       ·exact h
       ·rw [List.getElem?_eq_none h] at hp;cases hp
      rw [List.length_append] at this
      simp only [List.length_cons,List.length_nil] at this
      omega
     subst hi2
     rw [List.getElem?_append_right hi,h3,Nat.sub_self] at hp
     cases hp
     exact ⟨by show b < n + 1;omega,rfl,hD _ _ _ hb (nD ha (fun _ _ _ h=>by cases h)) ha⟩
/-! Behind the rounds. -/
def vD (Y:Cy) (q k:Nat):Sv:={ vK Y q k with con:=(vK Y q k).ep }
theorem vD_ep (Y:Cy) (q k:Nat):(vD Y q k).ep=k:=vK_ep Y q k
theorem vD_con (Y:Cy) (q k:Nat):(vD Y q k).con=k:=vK_ep Y q k
theorem vD_ses (Y:Cy) (q k:Nat):(vD Y q k).ses=5:=vK_ses Y q k
theorem decC (Y:Cy) (q k:Nat) (h:1 ≤ k):decide ((vK Y q k).con ≠ (vK Y q k).ep)=true:=decide_eq_true (by rw [vK_con,vK_ep];omega)
theorem decC2 (Y:Cy) (q k:Nat):decide ((vD Y q k).con ≠ (vD Y q k).ep)=false:=decide_eq_false (fun h=>h rfl)
theorem welK (Y:Cy) (q j:Nat):Gv Y Au (vK Y q j) (B8 q j) q=dgB Y Au 2 5 (j + 1) (Ea (B8 q j) q (Bf Y Au 5 (j + 1)) 0):=by
 unfold Gv;rw [vK_ses,vK_ep]
theorem cK_or (Y:Cy) (q k:Nat):5=(cK Y q k).ses ∨ (cK Y q k).ses=0:=by
 cases k with
 | zero=>exact .inr rfl
 | succ k=>exact .inl rfl
theorem rejK (Y:Cy) (q i k:Nat) (h:i < k) (hk:k ≤ 20):Rej (vD Y q k) (cK Y q i).ses (cK Y q i).ep (tkK Y q i):=by
 refine ⟨by rw [vD_ep];omega,?_⟩
 cases i with
 | zero=>exact .inl ⟨rfl,rfl,rfl,by rw [vD_con];omega⟩
 | succ i=>exact .inr ⟨(show 5 ≠ 0 by decide),(vD_ses Y q k).symm,by rw [M4,vD_con];exact h⟩
theorem accC (Y:Cy) (q p:Nat) (hk:p ≤ 20):Acc Y Au (vD Y q (p + 1)) 5 (p + 1) (Bf Y Au 5 (p + 1)):=by
 refine ⟨by rw [vD_ep];omega,.inr ⟨by decide,(vD_ses Y q (p + 1)).symm,?_,by omega,?_,rfl⟩⟩
 ·rw [vD_con];exact Nat.le_refl _
 ·rw [vD_ep];exact Nat.le_refl _
theorem ne_bs {m:T FObj} {c b:Nat} {l:List FV} {e el:TypeId} {t tl:Tl} {s:Nat} (hc:Am m c (.cells l e t)) (hb:Am m b (.bs s el tl)):b ≠ c:=by
 rintro rfl
 unfold Am at hc hb
 rw [hc] at hb;cases hb
theorem ne_more {m:T FObj} {c b:Nat} {l l':List FV} {e el:TypeId} (hc:Am m c (.cells l e .exact)) (hb:Am m b (.cells l' el .more)):b ≠ c:=by
 rintro rfl
 unfold Am at hc hb
 rw [hc] at hb;cases hb
theorem HsAt.get2 {Y:Cy} {q n0 N N' j i i' cb sb rb:Nat} {m:T FObj} {hv:FV} {c:Cl} {s:Sv} (h:HsAt Y q n0 m N hv j) (hC:ClAt m N' cb rb c) (hS:SvAt m N' sb rb s) (hi:i < j) (hi':i' < j):∃ D l b b',hv=.sl D 0 j j false 1 ∧ D < N ∧ b < N ∧ b' < N ∧ D ≠ cb ∧ D ≠ sb ∧ b ≠ cb ∧ b ≠ sb ∧ b' ≠ cb ∧ b' ≠ sb ∧ Am m D (.cells l 28 .more) ∧ l[i]?=some (.sl b 0 56 56 false 1) ∧ l[i']?=some (.sl b' 0 56 56 false 1) ∧ Am m b (.bs (Ac (hB Y q i)) 5 .more) ∧ Am m b' (.bs (Ac (hB Y q i')) 5 .more):=by
 rcases h with ⟨rfl,_⟩ | ⟨D,l,h0,h1,h2,h3,h4,h5,h6⟩
 ·omega
 ·have hl:i < l.length:=by omega
  have hl':i' < l.length:=by omega
  obtain ⟨g1,g2,g3⟩:=h6 i l[i] (List.getElem?_eq_getElem hl)
  obtain ⟨f1,f2,f3⟩:=h6 i' l[i'] (List.getElem?_eq_getElem hl')
  obtain ⟨_,_,_,_,_,ac,_⟩:=hC
  obtain ⟨_,_,_,_,_,as_,_⟩:=hS
  rw [hB_len] at g2 f2
  refine ⟨D,sls l,l[i].1,l[i'].1,h4,h2,g1,f1,ne_more ac h5,ne_more as_ h5,ne_bs ac g3,ne_bs as_ g3,ne_bs ac f3,ne_bs as_ f3,h5,?_,?_,g3,f3⟩
  ·rw [sls_get (List.getElem?_eq_getElem hl),g2]
  ·rw [sls_get (List.getElem?_eq_getElem hl'),f2]
section
variable {O:Oz} (hO:O=zO) {P:FR} {c:FV → FR} {k:KV} {n:Nat} {m:T FObj}
include hO
theorem ad64 {a b:Nat} (hc:c (.n .u64 (B8 a b))=P):O.ad (.n .u64 a) (.n .u64 b) c=P:=by
 have h:=cv64 (O:=zO) rfl (K:=.u64) (a:=a + b) hc
 subst hO
 exact h
theorem bsSl {e:TypeId} {b o L K:Nat} {fl:Bool} (hn:n < 1000000) (h:k (.sl n 0 1 1 true 1) ⟨n + 1,mp m n (.cells [.sl b o L K fl 1] e .exact)⟩=P):O.bs e 1 1 [.sl b o L K fl 1] ⟨n,m⟩ k=P:=by
 subst hO
 show (nM ⟨n,m⟩ (.cells [.sl b o L K fl 1] e .exact) fun b σ=>k (.sl b 0 1 1 true 1) σ)=P
 rw [Bg hn];exact h
end
end Go.Proofs.YtfdfdagbeeeomaaDoor.V2.S
namespace Go.Proofs.YtfdfdagbeeeomaaDoor.V2.S
open Go
set_option maxRecDepth 100000
set_option maxHeartbeats 4000000
set_option linter.unusedVariables false
attribute [local irreducible] fN fO nM gM pM Phi.fn mp bl At Bx Ce Ac C9 Dr lnF
def TakeRj (Y:Cy) (H:HF):Prop:=∀ {n sb rb:Nat} {m:T FObj} {v:Sv} {K:Bs} {dv:FV} {s e cn tk sn:Nat},Gl m → 4 ≤ n → 4 ≤ sb → SvAt m n sb rb v → RingAt m n rb K → s < 4294967296 → e < 4294967296 → cn < 18446744073709551616 → tk < 18446744073709551616 → sn < 18446744073709551616 → Sl m n dv (dgB Y K 1 s e (J5 cn tk)) → v.took=true → ¬ (v.ls=s ∧ v.le=e ∧ v.ln=cn) → Rej v s e tk → Dc 1500 [sb] H [.p sb 0,dv,.n .u64 sn,.n .u32 0] n m (fun r n' m'=>(∃ b,r=.tup [.agg (Gm (.sl b 0 (dgB Y K 5 s e (Ae cn)).length (dgB Y K 5 s e (Ae cn)).length false 1) false 0 (.o .sl) z32 z32),.n .i64 13] ∧ n ≤ b ∧ b < n' ∧ Am m' b (.bs (Ac (dgB Y K 5 s e (Ae cn))) 5 .more)) ∧ SvAt m' n' sb rb v)
theorem takerj_s {O:Oz} {Y:Cy} (hO:O=zO) (Φ:Phi) (HN:NoneV (Phi.fn Φ 30)) (HO:M7 Y (Phi.fn Φ 31)) (HR:NewR (Phi.fn Φ 32)) (H8:Hs (Phi.fn Φ 33)) (HE:ErrR (Phi.fn Φ 34)) (HT:RestR (Phi.fn Φ 36)) (HP:ParseA (Phi.fn Φ 35)) (HC:F0 (Phi.fn Φ 29)) (HTk:RejV Y (Phi.fn Φ 37)) (HW8:Hf (Phi.fn Φ 25) .u64 8 18446744073709551616 8 Ae) (HD:It (Phi.fn Φ 27)) (HS:SealS Y (Phi.fn Φ 28)):TakeRj Y (p7 O Φ):=fun {n sb rb m v K dv s e cn tk sn} hG hn4 hs4 hV hR hs he hcn htk hsn hdv e1 e2 hRj k P hn hf=>by
 have hV0:=hV
 obtain ⟨hsb,hrb,hne,hok,wv,ha,hwl⟩:=hV
 have hwn:=hok.h
 have hvs:=hok.s
 have hve:=hok.e
 have hvc:=hok.c
 have ha:Am m sb (.cells [.p rb 0,.n .u32 v.ses,.n .u32 v.ep,.n .u32 v.con,.b true,.n .u32 v.ls,.n .u32 v.le,.n .u64 v.ln,wv] 93 .exact):=by unfold svC at ha;rw [e1] at ha;exact ha
 have hen:=Ef cn
 conv=>lhs;whnf
 refine ubx hO ?_
 conv=>lhs;whnf
 refine (Bg (by omega)).trans ?_
 conv=>lhs;whnf
 refine bxI hO (by omega) ?_
 conv=>lhs;whnf
 refine alO hO (by omega) ?_
 conv=>lhs;whnf
 refine ldC hO (by exact an (an asm)) (by rfl) ?_
 conv=>lhs;whnf
 (refine HN (rb:=rb) (v:=⟨v.ses,v.ep,v.con,true,v.ls,v.le,v.ln,v.wel⟩) (wv:=wv) (by exact an (an (an ha))) _ _ ?_)
 conv=>lhs;whnf
 refine ldC hO (by exact an (an asm)) (by rfl) ?_
 conv=>lhs;whnf
 refine fa0 hO ?_
 conv=>lhs;whnf
 refine ldC hO (by exact an (an (an ha))) (by rfl) ?_
 conv=>lhs;whnf
 refine bs1 hO (by omega) (by omega) ?_
 conv=>lhs;whnf
 (refine HO (k:=1) (s:=s) (e:=e) (K:=K) (p:=J5 cn tk) (by exact hG.kp (n:=4) (by exact Kq.kp (Kq.ml (Kq.ml (Kq.ml (Kq.ml kr))))) (by omega)) (by omega) (by exact (hR.kp (by exact Kq.kp (Kq.ml (Kq.ml (Kq.ml (Kq.ml kr)))))).up (by omega)) (.inl rfl) hs he (fun h=>by cases h) (by rw [D5];decide) (by exact (hdv.kp (by exact Kq.kp (Kq.ml (Kq.ml (Kq.ml (Kq.ml kr)))))).up (by omega)) ⟨by omega,.inl ⟨rfl,rfl,(by exact asm)⟩⟩ _ _ (by omega) (fun v11 n11 m11 h11 g11 k11 q11=>?_);obtain ⟨b11,rfl,d11,e11,f11⟩:=q11)
 have G11:Gl m11:=(by exact hG.kp (n:=4) (by exact Kq.kp (Kq.tr (Kq.ml (Kq.ml (Kq.ml (Kq.ml kr)))) (Kq.s0 k11))) (by omega))
 have R11:RingAt m11 n11 rb K:=(by exact (hR.kp (by exact Kq.kp (Kq.tr (Kq.ml (Kq.ml (Kq.ml (Kq.ml kr)))) (Kq.s0 k11)))).up (by omega))
 have K11:Kq [sb] n m m11:=(by exact Kq.tr (Kq.ml (Kq.ml (Kq.ml (Kq.ml kr)))) (Kq.s0 k11))
 conv=>lhs;whnf
 refine alO hO (by omega) ?_
 conv=>lhs;whnf
 refine ust hO ?_
 conv=>lhs;whnf
 refine Aq (by exact asm) ?_
 conv=>lhs;whnf
 refine fe ?_
 conv=>lhs;whnf
 refine fe ?_
 conv=>lhs;whnf
 refine fe ?_
 conv=>lhs;whnf
 refine fe ?_
 conv=>lhs;whnf
 refine fe ?_
 conv=>lhs;whnf
 refine fe ?_
 conv=>lhs;whnf
 refine fe ?_
 conv=>lhs;whnf
 refine fe ?_
 conv=>lhs;whnf
 refine fe ?_
 conv=>lhs;whnf
 refine fe ?_
 conv=>lhs;whnf
 refine fe ?_
 conv=>lhs;whnf
 refine fe ?_
 conv=>lhs;whnf
 refine fe ?_
 conv=>lhs;whnf
 refine fe ?_
 conv=>lhs;whnf
 refine pM_mp.trans ?_
 conv=>lhs;whnf
 refine neF hO (by omega) ?_
 conv=>lhs;whnf
 refine fa0 hO ?_
 conv=>lhs;whnf
 refine ldC hO (by exact asm) (by rfl) ?_
 conv=>lhs;whnf
 (refine HR (x:=J5 cn tk) (by exact Sl.own (by exact an (an f11)) (by omega) (by omega)) (fun h=>by cases h) (by rw [D5];decide) _ _ (by omega) (fun v33 n33 m33 h33 g33 k33 q33=>?_);obtain ⟨rd,rfl,c33,r33⟩:=q33;have z33:=r33.1)
 have G33:Gl m33:=(by exact G11.kp (n:=4) (by exact Kq.kp (Kq.tr (Kq.ml (Kq.ml kr)) (Kq.s0 k33))) (by omega))
 have R33:RingAt m33 n33 rb K:=(by exact (R11.kp (by exact Kq.kp (Kq.tr (Kq.ml (Kq.ml kr)) (Kq.s0 k33)))).up (by omega))
 have K33:Kq [sb] n m m33:=(by exact Kq.tr (Kq.ml (Kq.ml (Kq.s1 K11))) (Kq.s0 k33))
 conv=>lhs;whnf
 refine fa0 hO ?_
 conv=>lhs;whnf
 refine ldC hO (by exact Kq.a0 k33 asm) (by rfl) ?_
 conv=>lhs;whnf
 refine fa0 hO ?_
 conv=>lhs;whnf
 refine ldC hO (by exact Kq.a0 k33 asm) (by rfl) ?_
 conv=>lhs;whnf
 refine alO hO (by omega) ?_
 conv=>lhs;whnf
 (refine H8 (a:=cn) (y:=Ae tk ++ ask0B) (by exact (r33.kp (by exact Kq.kp (Kq.ml kr))).up (by omega)) hcn (by simp only [List.length_append,Ad,Di];omega) _ _ (by omega) (fun v39 n39 m39 h39 g39 k39 q39=>?_);obtain ⟨rfl,r39⟩:=q39)
 have G39:Gl m39:=(by exact G33.kp (n:=4) (by exact Kq.kp (Kq.tr (Kq.ml kr) (Kq.s2 k39))) (by omega))
 have R39:RingAt m39 n39 rb K:=(by exact (R11.kp (by exact Kq.kp (Kq.tr (Kq.ml (Kq.tr (Kq.ml (Kq.ml kr)) (Kq.s0 k33))) (Kq.s2 k39)))).up (by omega))
 have K39:Kq [sb] n m m39:=(by exact Kq.tr (Kq.ml (Kq.s1 K33)) (Kq.s2 k39))
 have A40:Am m39 n11 _:=Kq.a1 k39 (an (Kq.a0 k33 asm))
 conv=>lhs;whnf
 refine ldC hO A40 (by rfl) ?_
 conv=>lhs;whnf
 refine rcE hO (by kernel_rfl) rfl ?_
 conv=>lhs;whnf
 refine ldC hO A40 (by rfl) ?_
 conv=>lhs;whnf
 refine rcE hO (by kernel_rfl) rfl ?_
 conv=>lhs;whnf
 refine ubu hO ?_
 conv=>lhs;whnf
 refine fe ?_
 conv=>lhs;whnf
 refine fe ?_
 conv=>lhs;whnf
 refine fe ?_
 conv=>lhs;whnf
 ((refine atStA ?_);refine stN hO (by exact Kq.a1 k39 asm) (by rfl) (by rfl) (fun _=>rfl) (fun _=>rfl) (by rfl) ?_)
 conv=>lhs;whnf
 (refine H8 (a:=tk) (y:=ask0B) (by exact RdB.mp r39 (by exact Kq.a1 k39 asm) (by omega) (by omega)) htk (by simp only [List.length_append,Ad,Di];omega) _ _ (by omega) (fun v49 n49 m49 h49 g49 k49 q49=>?_);obtain ⟨rfl,r49⟩:=q49)
 have G49:Gl m49:=(by exact G39.kp (n:=4) (by exact Kq.kp (Kq.tr (Kq.ml kr) (Kq.s2 k49))) (by omega))
 have R49:RingAt m49 n49 rb K:=(by exact (R11.kp (by exact Kq.kp (Kq.tr (Kq.ml (Kq.tr (Kq.ml (Kq.tr (Kq.ml (Kq.ml kr)) (Kq.s0 k33))) (Kq.s2 k39))) (Kq.s2 k49)))).up (by omega))
 have K49:Kq [sb] n m m49:=(by exact Kq.tr (Kq.ml (Kq.s1 K39)) (Kq.s2 k49))
 conv=>lhs;whnf
 refine HE r49 _ _ ?_
 conv=>lhs;whnf
 refine neF hO (by omega) ?_
 conv=>lhs;whnf
 (refine HT (y:=ask0B) r49 (fun h=>by cases h) (by decide) _ _ (by omega) (fun v52 n52 m52 h52 g52 k52 q52=>?_);obtain ⟨⟨b52,rfl,d52,e52,f52⟩,r52⟩:=q52)
 have G52:Gl m52:=(by exact G49.kp (n:=4) (by exact Kq.kp (Kq.s2 k52)) (by omega))
 have R52:RingAt m52 n52 rb K:=(by exact (R11.kp (by exact Kq.kp (Kq.tr (Kq.tr (Kq.ml (Kq.tr (Kq.ml (Kq.tr (Kq.ml (Kq.ml kr)) (Kq.s0 k33))) (Kq.s2 k39))) (Kq.s2 k49)) (Kq.s2 k52)))).up (by omega))
 have K52:Kq [sb] n m m52:=(by exact Kq.tr (Kq.s1 K49) (Kq.s2 k52))
 conv=>lhs;whnf
 (refine HP (by omega) (Sl.own (x:=ask0B) (K:=5) f52 e52 (Nat.le_refl 5)) _ _ (by omega) (fun v53 n53 m53 h53 g53 k53 q53=>?_);obtain rfl:=q53)
 have G53:Gl m53:=(by exact G52.kp (n:=4) (by exact Kq.kp (Kq.s0 k53)) (by omega))
 have R53:RingAt m53 n53 rb K:=(by exact (R52.kp (by exact Kq.kp (Kq.s0 k53))).up h53)
 have K53:Kq [sb] n m m53:=(by exact Kq.tr (Kq.s1 K52) (Kq.s0 k53))
 conv=>lhs;whnf
 refine alO hO (by omega) ?_
 conv=>lhs;whnf
 refine ust hO ?_
 conv=>lhs;whnf
 refine Aq (by exact asm) ?_
 conv=>lhs;whnf
 refine fe ?_
 conv=>lhs;whnf
 refine fe ?_
 conv=>lhs;whnf
 refine fe ?_
 conv=>lhs;whnf
 refine fe ?_
 conv=>lhs;whnf
 refine pM_mp.trans ?_
 conv=>lhs;whnf
 refine neF hO (by omega) ?_
 have A63:Am m53 n _:=Kq.a0 k53 (Kq.a1 k52 (Kq.a1 k49 (an (Kq.a1 k39 (an (Kq.a0 k33 (an (an (Kq.a0 k11 (an (an (an asm))))))))))))
 conv=>lhs;whnf
 refine ldC hO (by exact an (an A63)) (by rfl) ?_
 conv=>lhs;whnf
 refine fa0 hO ?_
 have A65:Am m53 sb _:=Kq.a0 k53 (Kq.a1 k52 (Kq.a1 k49 (an (Kq.a1 k39 (an (Kq.a0 k33 (an (an (Kq.a0 k11 (an (an (an (an ha)))))))))))))
 conv=>lhs;whnf
 refine ldC hO (by exact an (an A65)) (by rfl) ?_
 conv=>lhs;whnf
 refine ldC hO (by exact an (an A63)) (by rfl) ?_
 conv=>lhs;whnf
 refine fa0 hO ?_
 conv=>lhs;whnf
 ((refine Mq ?_);refine Mc hO (by exact an (an A65)) rfl ?_)
 have A69:Am m53 n33 _:=Kq.a0 k53 (Kq.a1 k52 (Kq.a1 k49 asm))
 conv=>lhs;whnf
 ((refine Mq ?_);refine Mc hO (by exact an (an A69)) rfl ?_)
 conv=>lhs;whnf
 refine eqH hO (fun h70=>absurd h70 e2) (fun h70=>?_)
 conv=>lhs;whnf
 refine ldC hO (by exact an (an A63)) (by rfl) ?_
 conv=>lhs;whnf
 ((refine Mq ?_);refine Mc hO (by exact an (an A69)) rfl ?_)
 conv=>lhs;whnf
 refine lnA hO (by exact asm) rfl rfl rfl ?_
 conv=>lhs;whnf
 (refine HTk (cn:=cn) (by exact G53.kp (n:=4) (by exact Kq.kp (Kq.ml (Kq.ml kr))) (by omega)) (by omega) (by exact (hV0.kp (by exact Kq.kp (Kq.ml (Kq.ml (Kq.tr (Kq.tr (Kq.tr (Kq.ml (Kq.tr (Kq.ml (Kq.tr (Kq.ml (Kq.ml (Kq.tr (Kq.ml (Kq.ml (Kq.ml (Kq.ml kr)))) (Kq.s0 k11)))) (Kq.s0 k33))) (Kq.s2 k39))) (Kq.s2 k49)) (Kq.s2 k52)) (Kq.s0 k53)))))).up (by omega)) (by exact (R53.kp (by exact Kq.kp (Kq.ml (Kq.ml kr)))).up (by omega)) hs he hRj _ _ (by omega) (fun n74 m74 h74 g74 k74=>?_))
 have G74:Gl m74:=(by exact G53.kp (n:=4) (by exact Kq.kp (Kq.tp (Kq.ml (Kq.ml kr)) k74)) (by omega))
 have R74:RingAt m74 n74 rb K:=(by exact (R53.kp (by exact Kq.kp (Kq.tp (Kq.ml (Kq.ml kr)) k74))).up (by omega))
 have K74:Kq [sb] n m m74:=(by exact Kq.tp (Kq.ml (Kq.ml (Kq.s1 K53))) k74)
 conv=>lhs;whnf
 refine alO hO (by omega) ?_
 conv=>lhs;whnf
 refine fa0 hO ?_
 conv=>lhs;whnf
 refine ldC hO (by exact an (ka k74 (an (an A69)))) (by rfl) ?_
 conv=>lhs;whnf
 refine HW8 (by exact WrA.new (by omega) (by exact asm)) hcn (by simp only [List.length_append,List.length_cons,List.length_nil,Ad,Ai,Bc,Bj];omega) _ _ (by omega) (fun v78 n78 m78 h78 g78 k78 q78=>?_);obtain ⟨rfl,q78a⟩:=q78;rw [List.nil_append] at q78a
 have G78:Gl m78:=(by exact G74.kp (n:=4) (by exact Kq.kp (Kq.tp (Kq.ml kr) k78)) (by omega))
 have R78:RingAt m78 n78 rb K:=(by exact (R74.kp (by exact Kq.kp (Kq.tp (Kq.ml kr) k78))).up (by omega))
 have K78:Kq [sb] n m m78:=(by exact Kq.tp (Kq.ml (Kq.s1 K74)) k78)
 conv=>lhs;whnf
 refine HD q78a (by assumption) (by simp only [List.length_append,List.length_cons,List.length_nil,Ad,Ai,Bc,Bj];omega) _ _ (by omega) (fun v79 n79 m79 h79 g79 k79 q79=>?_);obtain ⟨b79,⟨rfl,⟨q79a,⟨q79b,⟨q79c,q79d⟩⟩⟩⟩⟩:=q79
 have G79:Gl m79:=(by exact G78.kp (n:=4) (by exact Kq.kp (Kq.dp k79)) (by omega))
 have R79:RingAt m79 n79 rb K:=(by exact (R74.kp (by exact Kq.kp (Kq.tp (Kq.tp (Kq.ml kr) k78) k79))).up (by omega))
 have K79:Kq [sb] n m m79:=(by exact Kq.tp (Kq.s1 K78) k79)
 have A80:Am m79 n _:=ka k79 (ka k78 (an (ka k74 (an (an A63)))))
 conv=>lhs;whnf
 refine ldC hO A80 (by rfl) ?_
 conv=>lhs;whnf
 refine fa0 hO ?_
 have A82:Am m79 sb _:=ka k79 (ka k78 (an (ka k74 (an (an A65)))))
 conv=>lhs;whnf
 refine ldC hO A82 (by rfl) ?_
 conv=>lhs;whnf
 refine fa0 hO ?_
 have A84:Am m79 n33 _:=ka k79 (ka k78 (an (ka k74 (an (an A69)))))
 conv=>lhs;whnf
 refine ldC hO A84 (by rfl) ?_
 conv=>lhs;whnf
 refine fa0 hO ?_
 conv=>lhs;whnf
 refine ldC hO A84 (by rfl) ?_
 conv=>lhs;whnf
 refine ubu hO ?_
 conv=>lhs;whnf
 (refine HS (k:=5) (s:=s) (e:=e) (p:=Ae cn) G79 (by omega) R79 (by omega) hs he q79c q79b rfl (by rw [Ad];decide) _ _ (by omega) (fun v88 n88 m88 h88 g88 k88 q88=>?_);obtain ⟨b88,rfl,d88,e88,f88⟩:=q88)
 have G88:Gl m88:=(by exact G79.kp (n:=4) (by exact Kq.kp (Kq.s0 k88)) (by omega))
 have R88:RingAt m88 n88 rb K:=(by exact (R79.kp (by exact Kq.kp (Kq.s0 k88))).up h88)
 have K88:Kq [sb] n m m88:=(by exact Kq.tr (Kq.s1 K79) (Kq.s0 k88))
 conv=>lhs;whnf
 refine buD68 hO (by exact Or.inr ⟨_,_,_,_,_,_,rfl⟩) ?_
 have A90:Am m88 (n + 1 + 1) _:=Kq.a0 k88 (ka k79 (ka k78 (an (ka k74 (an (an (Kq.a0 k53 (Kq.a1 k52 (Kq.a1 k49 (an (Kq.a1 k39 (an (Kq.a0 k33 (an (an (Kq.a0 k11 (an asm)))))))))))))))))
 conv=>lhs;whnf
 ((refine Iq ?_);refine Ez hO (N:=68) A90 (by kernel_rfl) (B2 L32.z' L32.z') (Fo (by exact Or.inr ⟨_,_,_,_,_,_,rfl⟩) (by exact Or.inl rfl)) (fun _=>rfl) ?_)
 conv=>lhs;whnf
 ((refine atG68 ?_);refine lnG (N:=68) (by exact asm) (B2 L32.z' L32.z') (by kernel_rfl) (Mr (by exact Or.inr ⟨_,_,_,_,_,_,rfl⟩) (by exact Or.inl rfl)) ?_)
 conv=>lhs;whnf
 exact hf _ _ _ (by omega) (by omega) (by exact Kq.ml (Kq.s1 K88)) (by exact ⟨⟨_,⟨rfl,⟨(by omega),⟨e88,an f88⟩⟩⟩⟩,(hV0.kp (by exact Kq.kp (Kq.ml (Kq.tr (Kq.tp (Kq.tp (Kq.ml (Kq.tp (Kq.ml (Kq.ml (Kq.tr (Kq.tr (Kq.tr (Kq.ml (Kq.tr (Kq.ml (Kq.tr (Kq.ml (Kq.ml (Kq.tr (Kq.ml (Kq.ml (Kq.ml (Kq.ml kr)))) (Kq.s0 k11)))) (Kq.s0 k33))) (Kq.s2 k39))) (Kq.s2 k49)) (Kq.s2 k52)) (Kq.s0 k53)))) k74)) k78) k79) (Kq.s0 k88))))).up (by omega)⟩)
end Go.Proofs.YtfdfdagbeeeomaaDoor.V2.S
namespace Go.Proofs.YtfdfdagbeeeomaaDoor.V2.S
open Go
set_option maxRecDepth 100000
set_option maxHeartbeats 4000000
set_option linter.unusedVariables false
attribute [local irreducible] fN fO nM gM pM Phi.fn mp bl At Bx Ce Ac C9 Dr lnF
def TakeSt (Y:Cy) (H:HF):Prop:=∀ {n cb rb:Nat} {m:T FObj} {c:Cl} {K:Bs} {v:FV} {s e cn sn tk ls:Nat},Gl m → 4 ≤ n → 4 ≤ cb → ClAt m n cb rb c → RingAt m n rb K → s < 4294967296 → e < 4294967296 → cn < 18446744073709551616 → sn < 18446744073709551616 → tk < 18446744073709551616 → ls < 4294967296 → c.hel ≠ [] → Sl m n v (dgB Y K 2 s e (Ea cn sn tk ls)) → s=c.ses → cn ≠ c.non → Dc 800 [cb] H [.p cb 0,v] n m (fun r n' m'=>r=.tup [.agg zF67,.n .i64 13] ∧ ClAt m' n' cb rb c)
theorem takest_s {O:Oz} {Y:Cy} (hO:O=zO) (Φ:Phi) (HN:M8 (Phi.fn Φ 23)) (HO:M7 Y (Phi.fn Φ 31)) (HR:NewR (Phi.fn Φ 32)) (H8:Hs (Phi.fn Φ 33)) (H4:FourR (Phi.fn Φ 42)) (HE:ErrR (Phi.fn Φ 34)) (HL:M9 (Phi.fn Φ 43)) (HW:WaitC (Phi.fn Φ 22)) (HW0:WaitC0 (Phi.fn Φ 22)) (HK:KeyC Y (Phi.fn Φ 44)):TakeSt Y (p8 O Φ):=fun {n cb rb m c K v s e cn sn tk ls} hG hn4 hc4 hC hR hs he hcn hsn htk hls hhel hvs e1 e2 k P hn hf=>by
 have hC0:=hC
 obtain ⟨hcb,hrb,hne,hok,hv,ha,hh⟩:=hC
 have hoks:=hok.s
 have hoke:=hok.e
 have hokn:=hok.n
 rcases hh with ⟨hh,_⟩ | ⟨hb,hh1,rfl,hh2,hh3⟩
 ·exact absurd hh hhel
 conv=>lhs;whnf
 refine ubx hO ?_
 conv=>lhs;whnf
 refine (Bg (by omega)).trans ?_
 conv=>lhs;whnf
 refine alO hO (by omega) ?_
 conv=>lhs;whnf
 refine ldC hO (by exact an asm) (by rfl) ?_
 conv=>lhs;whnf
 (refine HN (rb:=rb) (c:=c) (by exact an (an ha)) _ _ ?_)
 conv=>lhs;whnf
 refine ldC hO (by exact an asm) (by rfl) ?_
 conv=>lhs;whnf
 refine fa0 hO ?_
 conv=>lhs;whnf
 refine ldC hO (by exact an (an ha)) (by rfl) ?_
 conv=>lhs;whnf
 refine bs2 hO (by omega) (by omega) (by omega) ?_
 conv=>lhs;whnf
 (refine HO (k:=2) (s:=s) (e:=e) (K:=K) (p:=Ea cn sn tk ls) (by exact hG.kp (n:=4) (by exact Kq.kp (Kq.ml (Kq.ml (Kq.ml kr)))) (by omega)) (by omega) (by exact (hR.kp (by exact Kq.kp (Kq.ml (Kq.ml (Kq.ml kr))))).up (by omega)) (by omega) hs he (fun h=>by cases h) (by rw [Fj];decide) (by exact (hvs.kp (by exact Kq.kp (Kq.ml (Kq.ml (Kq.ml kr))))).up (by omega)) ⟨by omega,.inr ⟨rfl,by omega,(by exact asm)⟩⟩ _ _ (by omega) (fun v10 n10 m10 h10 g10 k10 q10=>?_);obtain ⟨bo,rfl,d10,e10,f10⟩:=q10)
 have G10:Gl m10:=(by exact hG.kp (n:=4) (by exact Kq.kp (Kq.tr (Kq.ml (Kq.ml (Kq.ml kr))) (Kq.s0 k10))) (by omega))
 have R10:RingAt m10 n10 rb K:=(by exact (hR.kp (by exact Kq.kp (Kq.tr (Kq.ml (Kq.ml (Kq.ml kr))) (Kq.s0 k10)))).up (by omega))
 have K10:Kq [cb] n m m10:=(by exact Kq.tr (Kq.ml (Kq.ml (Kq.ml kr))) (Kq.s0 k10))
 conv=>lhs;whnf
 refine alO hO (by omega) ?_
 conv=>lhs;whnf
 refine ust hO ?_
 conv=>lhs;whnf
 refine Aq (by exact asm) ?_
 conv=>lhs;whnf
 refine fe ?_
 conv=>lhs;whnf
 refine fe ?_
 conv=>lhs;whnf
 refine fe ?_
 conv=>lhs;whnf
 refine fe ?_
 conv=>lhs;whnf
 refine fe ?_
 conv=>lhs;whnf
 refine fe ?_
 conv=>lhs;whnf
 refine fe ?_
 conv=>lhs;whnf
 refine fe ?_
 conv=>lhs;whnf
 refine fe ?_
 conv=>lhs;whnf
 refine fe ?_
 conv=>lhs;whnf
 refine fe ?_
 conv=>lhs;whnf
 refine fe ?_
 conv=>lhs;whnf
 refine fe ?_
 conv=>lhs;whnf
 refine fe ?_
 conv=>lhs;whnf
 refine pM_mp.trans ?_
 conv=>lhs;whnf
 refine neF hO (by omega) ?_
 conv=>lhs;whnf
 refine fa0 hO ?_
 conv=>lhs;whnf
 refine ldC hO (by exact asm) (by rfl) ?_
 conv=>lhs;whnf
 (refine HR (x:=Ea cn sn tk ls) (by exact Sl.own (by exact an (an f10)) (by omega) (by omega)) (fun h=>absurd h (fun h=>by cases h)) (by rw [Fj];decide) _ _ (by omega) (fun v32 n32 m32 h32 g32 k32 q32=>?_);obtain ⟨rd,rfl,c32,r32⟩:=q32;have z32:=r32.1)
 have G32:Gl m32:=(by exact G10.kp (n:=4) (by exact Kq.kp (Kq.tr (Kq.ml (Kq.ml kr)) (Kq.s0 k32))) (by omega))
 have R32:RingAt m32 n32 rb K:=(by exact (R10.kp (by exact Kq.kp (Kq.tr (Kq.ml (Kq.ml kr)) (Kq.s0 k32)))).up (by omega))
 have K32:Kq [cb] n m m32:=(by exact Kq.tr (Kq.ml (Kq.ml (Kq.s1 K10))) (Kq.s0 k32))
 conv=>lhs;whnf
 (refine H8 (a:=cn) (y:=Ae sn ++ (Ae tk ++ (Ak ls ++ []))) (RdB.to (a:=Ea cn sn tk ls) r32 (show Ea cn sn tk ls=Ae cn ++ (Ae sn ++ (Ae tk ++ (Ak ls ++ []))) by rw [List.append_nil];rfl)) (by omega) (by simp only [List.length_append,Ad,Ai,List.length_nil];omega) _ _ (by omega) (fun v33 n33 m33 h33 g33 k33 q33=>?_);obtain ⟨rfl,r33⟩:=q33)
 have G33:Gl m33:=(by exact G32.kp (n:=4) (by exact Kq.kp (Kq.s2 k33)) (by omega))
 have R33:RingAt m33 n33 rb K:=(by exact (R10.kp (by exact Kq.kp (Kq.tr (Kq.tr (Kq.ml (Kq.ml kr)) (Kq.s0 k32)) (Kq.s2 k33)))).up (by omega))
 have K33:Kq [cb] n m m33:=(by exact Kq.tr (Kq.s1 K32) (Kq.s2 k33))
 conv=>lhs;whnf
 refine alO hO (by omega) ?_
 conv=>lhs;whnf
 refine ust hO ?_
 conv=>lhs;whnf
 refine Aq (by exact asm) ?_
 conv=>lhs;whnf
 refine pM_mp.trans ?_
 conv=>lhs;whnf
 refine alO hO (by omega) ?_
 conv=>lhs;whnf
 refine fa0 hO ?_
 have A40:Am m33 n10 _:=Kq.a1 k33 (Kq.a0 k32 asm)
 conv=>lhs;whnf
 refine ldC hO (by exact an (an (an A40))) (by rfl) ?_
 conv=>lhs;whnf
 refine eqT hO (by omega) ?_
 conv=>lhs;whnf
 (refine H8 (a:=sn) (y:=Ae tk ++ (Ak ls ++ [])) (by exact (r33.kp (by exact Kq.kp (Kq.ml (Kq.ml (Kq.ml kr))))).up (by omega)) (by omega) (by simp only [List.length_append,Ad,Ai,List.length_nil];omega) _ _ (by omega) (fun v42 n42 m42 h42 g42 k42 q42=>?_);obtain ⟨rfl,r42⟩:=q42)
 have G42:Gl m42:=(by exact G33.kp (n:=4) (by exact Kq.kp (Kq.tr (Kq.ml (Kq.ml (Kq.ml kr))) (Kq.s2 k42))) (by omega))
 have R42:RingAt m42 n42 rb K:=(by exact (R10.kp (by exact Kq.kp (Kq.tr (Kq.ml (Kq.ml (Kq.ml (Kq.tr (Kq.tr (Kq.ml (Kq.ml kr)) (Kq.s0 k32)) (Kq.s2 k33))))) (Kq.s2 k42)))).up (by omega))
 have K42:Kq [cb] n m m42:=(by exact Kq.tr (Kq.ml (Kq.ml (Kq.ml (Kq.s1 K33)))) (Kq.s2 k42))
 conv=>lhs;whnf
 (refine H8 (a:=tk) (y:=Ak ls ++ []) r42 (by omega) (by simp only [List.length_append,Ad,Ai,List.length_nil];omega) _ _ (by omega) (fun v43 n43 m43 h43 g43 k43 q43=>?_);obtain ⟨rfl,r43⟩:=q43)
 have G43:Gl m43:=(by exact G42.kp (n:=4) (by exact Kq.kp (Kq.s2 k43)) (by omega))
 have R43:RingAt m43 n43 rb K:=(by exact (R10.kp (by exact Kq.kp (Kq.tr (Kq.tr (Kq.ml (Kq.ml (Kq.ml (Kq.tr (Kq.tr (Kq.ml (Kq.ml kr)) (Kq.s0 k32)) (Kq.s2 k33))))) (Kq.s2 k42)) (Kq.s2 k43)))).up (by omega))
 have K43:Kq [cb] n m m43:=(by exact Kq.tr (Kq.s1 K42) (Kq.s2 k43))
 conv=>lhs;whnf
 (refine H4 (a:=ls) (y:=[]) r43 (by omega) (by simp only [List.length_append,Ad,Ai,List.length_nil];omega) _ _ (by omega) (fun v44 n44 m44 h44 g44 k44 q44=>?_);obtain ⟨rfl,r44⟩:=q44)
 have G44:Gl m44:=(by exact G43.kp (n:=4) (by exact Kq.kp (Kq.s2 k44)) (by omega))
 have R44:RingAt m44 n44 rb K:=(by exact (R10.kp (by exact Kq.kp (Kq.tr (Kq.tr (Kq.tr (Kq.ml (Kq.ml (Kq.ml (Kq.tr (Kq.tr (Kq.ml (Kq.ml kr)) (Kq.s0 k32)) (Kq.s2 k33))))) (Kq.s2 k42)) (Kq.s2 k43)) (Kq.s2 k44)))).up (by omega))
 have K44:Kq [cb] n m m44:=(by exact Kq.tr (Kq.s1 K43) (Kq.s2 k44))
 have A45:Am m44 (n33 + 1) _:=Kq.a1 k44 (Kq.a1 k43 (Kq.a1 k42 asm))
 conv=>lhs;whnf
 refine ust hO ?_
 conv=>lhs;whnf
 refine Aq A45 ?_
 conv=>lhs;whnf
 refine pM_mp.trans ?_
 conv=>lhs;whnf
 refine fa0 hO ?_
 have A49:Am m44 n10 _:=Kq.a1 k44 (Kq.a1 k43 (Kq.a1 k42 (an (an (an A40)))))
 conv=>lhs;whnf
 refine ldC hO (by exact an A49) (by rfl) ?_
 have A50:Am m44 n _:=Kq.a1 k44 (Kq.a1 k43 (Kq.a1 k42 (an (an (an (Kq.a1 k33 (Kq.a0 k32 (an (an (Kq.a0 k10 (an (an asm))))))))))))
 conv=>lhs;whnf
 refine ldC hO (by exact an A50) (by rfl) ?_
 conv=>lhs;whnf
 refine fa0 hO ?_
 conv=>lhs;whnf
 refine faN hO ?_
 have A53:Am m44 cb _:=Kq.a1 k44 (Kq.a1 k43 (Kq.a1 k42 (an (an (an (Kq.a1 k33 (Kq.a0 k32 (an (an (Kq.a0 k10 (an (an (an ha)))))))))))))
 conv=>lhs;whnf
 refine ldC hO (by exact an A53) (by rfl) ?_
 conv=>lhs;whnf
 refine eqT hO (by omega) ?_
 conv=>lhs;whnf
 (refine HE (by exact I1 r44 A45 (by omega)) _ _ ?_)
 conv=>lhs;whnf
 refine neF hO (by omega) ?_
 conv=>lhs;whnf
 (refine HL (by exact I1 r44 A45 (by omega)) _ _ ?_;rw [List.length_nil])
 conv=>lhs;whnf
 refine gtF hO (by omega) ?_
 conv=>lhs;whnf
 refine ldC hO (by exact an A50) (by rfl) ?_
 conv=>lhs;whnf
 (refine HW (rb:=rb) (c:=c) (by exact an A53) _ _ ?_)
 have A61:Am m44 n33 _:=Kq.a1 k44 (Kq.a1 k43 (Kq.a1 k42 (an asm)))
 conv=>lhs;whnf
 refine ldI hO (by exact an A61) (by rfl) ?_
 conv=>lhs;whnf
 refine ldC hO (by exact an A50) (by rfl) ?_
 conv=>lhs;whnf
 refine fa0 hO ?_
 conv=>lhs;whnf
 refine ldC hO (by exact an A53) (by rfl) ?_
 conv=>lhs;whnf
 refine neT hO (by omega) ?_
 conv=>lhs;whnf
 refine buZ67 hO ?_
 have A67:Am m44 (n + 1) _:=Kq.a1 k44 (Kq.a1 k43 (Kq.a1 k42 (an (an (an (Kq.a1 k33 (Kq.a0 k32 (an (an (Kq.a0 k10 (an asm)))))))))))
 conv=>lhs;whnf
 refine stZ67 hO (by exact an A67) Fd (fun _=>rfl) ?_
 conv=>lhs;whnf
 refine lnZ67 (by exact asm) ?_
 conv=>lhs;whnf
 exact hf _ _ _ (by omega) (by omega) (by exact Kq.ml (Kq.ml (Kq.s1 K44))) (by exact ⟨rfl,(hC0.kp (by exact Kq.kp (Kq.ml (Kq.ml (Kq.tr (Kq.tr (Kq.tr (Kq.ml (Kq.ml (Kq.ml (Kq.tr (Kq.tr (Kq.ml (Kq.ml (Kq.tr (Kq.ml (Kq.ml (Kq.ml kr))) (Kq.s0 k10)))) (Kq.s0 k32)) (Kq.s2 k33))))) (Kq.s2 k42)) (Kq.s2 k43)) (Kq.s2 k44)))))).up (by omega)⟩)
def TakeF (Y:Cy) (H:HF):Prop:=∀ {n cb rb:Nat} {m:T FObj} {c:Cl} {K:Bs} {v:FV} {s e cn:Nat},Gl m → 4 ≤ n → 4 ≤ cb → ClAt m n cb rb c → RingAt m n rb K → s < 4294967296 → e < 4294967296 → cn < 18446744073709551616 → c.hel ≠ [] → Sl m n v (dgB Y K 5 s e (Ae cn)) → c.ses ≠ 0 → cn ≠ c.non → Dc 800 [cb] H [.p cb 0,v] n m (fun r n' m'=>r=.tup [.agg zF67,.n .i64 13] ∧ ClAt m' n' cb rb c)
theorem takef_s {O:Oz} {Y:Cy} (hO:O=zO) (Φ:Phi) (HN:M8 (Phi.fn Φ 23)) (HO:M7 Y (Phi.fn Φ 31)) (HR:NewR (Phi.fn Φ 32)) (H8:Hs (Phi.fn Φ 33)) (H4:FourR (Phi.fn Φ 42)) (HE:ErrR (Phi.fn Φ 34)) (HL:M9 (Phi.fn Φ 43)) (HW:WaitC (Phi.fn Φ 22)) (HW0:WaitC0 (Phi.fn Φ 22)) (HK:KeyC Y (Phi.fn Φ 44)):TakeF Y (p8 O Φ):=fun {n cb rb m c K v s e cn} hG hn4 hc4 hC hR hs he hcn hhel hvs e1 e2 k P hn hf=>by
 have hC0:=hC
 obtain ⟨hcb,hrb,hne,hok,hv,ha,hh⟩:=hC
 have hoks:=hok.s
 have hoke:=hok.e
 have hokn:=hok.n
 rcases hh with ⟨hh,_⟩ | ⟨hb,hh1,rfl,hh2,hh3⟩
 ·exact absurd hh hhel
 conv=>lhs;whnf
 refine ubx hO ?_
 conv=>lhs;whnf
 refine (Bg (by omega)).trans ?_
 conv=>lhs;whnf
 refine alO hO (by omega) ?_
 conv=>lhs;whnf
 refine ldC hO (by exact an asm) (by rfl) ?_
 conv=>lhs;whnf
 (refine HN (rb:=rb) (c:=c) (by exact an (an ha)) _ _ ?_)
 conv=>lhs;whnf
 refine ldC hO (by exact an asm) (by rfl) ?_
 conv=>lhs;whnf
 refine fa0 hO ?_
 conv=>lhs;whnf
 refine ldC hO (by exact an (an ha)) (by rfl) ?_
 conv=>lhs;whnf
 refine bs2 hO (by omega) (by omega) (by omega) ?_
 conv=>lhs;whnf
 (refine HO (k:=5) (s:=s) (e:=e) (K:=K) (p:=Ae cn) (by exact hG.kp (n:=4) (by exact Kq.kp (Kq.ml (Kq.ml (Kq.ml kr)))) (by omega)) (by omega) (by exact (hR.kp (by exact Kq.kp (Kq.ml (Kq.ml (Kq.ml kr))))).up (by omega)) (by omega) hs he (Ef cn) (by rw [Ad];decide) (by exact (hvs.kp (by exact Kq.kp (Kq.ml (Kq.ml (Kq.ml kr))))).up (by omega)) ⟨by omega,.inr ⟨rfl,by omega,(by exact asm)⟩⟩ _ _ (by omega) (fun v10 n10 m10 h10 g10 k10 q10=>?_);obtain ⟨bo,rfl,d10,e10,f10⟩:=q10)
 have G10:Gl m10:=(by exact hG.kp (n:=4) (by exact Kq.kp (Kq.tr (Kq.ml (Kq.ml (Kq.ml kr))) (Kq.s0 k10))) (by omega))
 have R10:RingAt m10 n10 rb K:=(by exact (hR.kp (by exact Kq.kp (Kq.tr (Kq.ml (Kq.ml (Kq.ml kr))) (Kq.s0 k10)))).up (by omega))
 have K10:Kq [cb] n m m10:=(by exact Kq.tr (Kq.ml (Kq.ml (Kq.ml kr))) (Kq.s0 k10))
 conv=>lhs;whnf
 refine alO hO (by omega) ?_
 conv=>lhs;whnf
 refine ust hO ?_
 conv=>lhs;whnf
 refine Aq (by exact asm) ?_
 conv=>lhs;whnf
 refine fe ?_
 conv=>lhs;whnf
 refine fe ?_
 conv=>lhs;whnf
 refine fe ?_
 conv=>lhs;whnf
 refine fe ?_
 conv=>lhs;whnf
 refine fe ?_
 conv=>lhs;whnf
 refine fe ?_
 conv=>lhs;whnf
 refine fe ?_
 conv=>lhs;whnf
 refine fe ?_
 conv=>lhs;whnf
 refine fe ?_
 conv=>lhs;whnf
 refine fe ?_
 conv=>lhs;whnf
 refine fe ?_
 conv=>lhs;whnf
 refine fe ?_
 conv=>lhs;whnf
 refine fe ?_
 conv=>lhs;whnf
 refine fe ?_
 conv=>lhs;whnf
 refine pM_mp.trans ?_
 conv=>lhs;whnf
 refine neF hO (by omega) ?_
 conv=>lhs;whnf
 refine fa0 hO ?_
 conv=>lhs;whnf
 refine ldC hO (by exact asm) (by rfl) ?_
 conv=>lhs;whnf
 (refine HR (x:=Ae cn) (by exact Sl.own (by exact an (an f10)) (by omega) (by omega)) (fun h=>absurd h (Ef cn)) (by rw [Ad];decide) _ _ (by omega) (fun v32 n32 m32 h32 g32 k32 q32=>?_);obtain ⟨rd,rfl,c32,r32⟩:=q32;have z32:=r32.1)
 have G32:Gl m32:=(by exact G10.kp (n:=4) (by exact Kq.kp (Kq.tr (Kq.ml (Kq.ml kr)) (Kq.s0 k32))) (by omega))
 have R32:RingAt m32 n32 rb K:=(by exact (R10.kp (by exact Kq.kp (Kq.tr (Kq.ml (Kq.ml kr)) (Kq.s0 k32)))).up (by omega))
 have K32:Kq [cb] n m m32:=(by exact Kq.tr (Kq.ml (Kq.ml (Kq.s1 K10))) (Kq.s0 k32))
 conv=>lhs;whnf
 (refine H8 (a:=cn) (y:=[]) (RdB.to (a:=Ae cn) r32 (List.append_nil _).symm) (by omega) (by simp only [List.length_append,Ad,Ai,List.length_nil];omega) _ _ (by omega) (fun v33 n33 m33 h33 g33 k33 q33=>?_);obtain ⟨rfl,r33⟩:=q33)
 have G33:Gl m33:=(by exact G32.kp (n:=4) (by exact Kq.kp (Kq.s2 k33)) (by omega))
 have R33:RingAt m33 n33 rb K:=(by exact (R10.kp (by exact Kq.kp (Kq.tr (Kq.tr (Kq.ml (Kq.ml kr)) (Kq.s0 k32)) (Kq.s2 k33)))).up (by omega))
 have K33:Kq [cb] n m m33:=(by exact Kq.tr (Kq.s1 K32) (Kq.s2 k33))
 conv=>lhs;whnf
 refine alO hO (by omega) ?_
 conv=>lhs;whnf
 refine ust hO ?_
 conv=>lhs;whnf
 refine Aq (by exact asm) ?_
 conv=>lhs;whnf
 refine pM_mp.trans ?_
 conv=>lhs;whnf
 refine alO hO (by omega) ?_
 conv=>lhs;whnf
 refine fa0 hO ?_
 have A40:Am m33 n10 _:=Kq.a1 k33 (Kq.a0 k32 asm)
 conv=>lhs;whnf
 refine ldC hO (by exact an (an (an A40))) (by rfl) ?_
 conv=>lhs;whnf
 refine eqF hO (by omega) ?_
 conv=>lhs;whnf
 refine fa0 hO ?_
 conv=>lhs;whnf
 refine ldC hO (by exact an (an (an A40))) (by rfl) ?_
 have A44:Am m33 n _:=Kq.a1 k33 (Kq.a0 k32 (an (an (Kq.a0 k10 (an (an asm))))))
 conv=>lhs;whnf
 refine ldC hO (by exact an (an (an A44))) (by rfl) ?_
 conv=>lhs;whnf
 refine fa0 hO ?_
 conv=>lhs;whnf
 refine faN hO ?_
 have A47:Am m33 cb _:=Kq.a1 k33 (Kq.a0 k32 (an (an (Kq.a0 k10 (an (an (an ha)))))))
 conv=>lhs;whnf
 refine ldC hO (by exact an (an (an A47))) (by rfl) ?_
 conv=>lhs;whnf
 refine eqB hO (fun h48=>?_) (fun h48=>?_)
 ·conv=>lhs;whnf
  (refine HE (by exact (r33.kp (by exact Kq.kp (Kq.ml (Kq.ml (Kq.ml kr))))).up (by omega)) _ _ ?_)
  conv=>lhs;whnf
  refine neF hO (by omega) ?_
  conv=>lhs;whnf
  (refine HL (by exact (r33.kp (by exact Kq.kp (Kq.ml (Kq.ml (Kq.ml kr))))).up (by omega)) _ _ ?_;rw [List.length_nil])
  conv=>lhs;whnf
  refine gtF hO (by omega) ?_
  conv=>lhs;whnf
  refine ldC hO (by exact an (an (an A44))) (by rfl) ?_
  conv=>lhs;whnf
  (refine HW (rb:=rb) (c:=c) (by exact an (an (an A47))) _ _ ?_)
  conv=>lhs;whnf
  refine ldI hO (by exact an asm) (by rfl) ?_
  conv=>lhs;whnf
  refine ldC hO (by exact an (an (an A44))) (by rfl) ?_
  conv=>lhs;whnf
  refine fa0 hO ?_
  conv=>lhs;whnf
  refine ldC hO (by exact an (an (an A47))) (by rfl) ?_
  conv=>lhs;whnf
  refine neT hO (by omega) ?_
  conv=>lhs;whnf
  refine buZ67 hO ?_
  have A61:Am m33 (n + 1) _:=Kq.a1 k33 (Kq.a0 k32 (an (an (Kq.a0 k10 (an asm)))))
  conv=>lhs;whnf
  refine stZ67 hO (by exact an (an (an A61))) Fd (fun _=>rfl) ?_
  conv=>lhs;whnf
  refine lnZ67 (by exact asm) ?_
  conv=>lhs;whnf
  exact hf _ _ _ (by omega) (by omega) (by exact Kq.ml (Kq.ml (Kq.ml (Kq.ml (Kq.s1 K33))))) (by exact ⟨rfl,(hC0.kp (by exact Kq.kp (Kq.ml (Kq.ml (Kq.ml (Kq.ml (Kq.tr (Kq.tr (Kq.ml (Kq.ml (Kq.tr (Kq.ml (Kq.ml (Kq.ml kr))) (Kq.s0 k10)))) (Kq.s0 k32)) (Kq.s2 k33)))))))).up (by omega)⟩)
 ·conv=>lhs;whnf
  refine ldC hO (by exact an (an (an A44))) (by rfl) ?_
  conv=>lhs;whnf
  refine fa0 hO ?_
  conv=>lhs;whnf
  refine faN hO ?_
  conv=>lhs;whnf
  refine ldC hO (by exact an (an (an A47))) (by rfl) ?_
  conv=>lhs;whnf
  refine eqF hO (by omega) ?_
  conv=>lhs;whnf
  (refine HE (by exact (r33.kp (by exact Kq.kp (Kq.ml (Kq.ml (Kq.ml kr))))).up (by omega)) _ _ ?_)
  conv=>lhs;whnf
  refine neF hO (by omega) ?_
  conv=>lhs;whnf
  (refine HL (by exact (r33.kp (by exact Kq.kp (Kq.ml (Kq.ml (Kq.ml kr))))).up (by omega)) _ _ ?_;rw [List.length_nil])
  conv=>lhs;whnf
  refine gtF hO (by omega) ?_
  conv=>lhs;whnf
  refine ldC hO (by exact an (an (an A44))) (by rfl) ?_
  conv=>lhs;whnf
  (refine HW (rb:=rb) (c:=c) (by exact an (an (an A47))) _ _ ?_)
  conv=>lhs;whnf
  refine ldI hO (by exact an asm) (by rfl) ?_
  conv=>lhs;whnf
  refine ldC hO (by exact an (an (an A44))) (by rfl) ?_
  conv=>lhs;whnf
  refine fa0 hO ?_
  conv=>lhs;whnf
  refine ldC hO (by exact an (an (an A47))) (by rfl) ?_
  conv=>lhs;whnf
  refine neT hO (by omega) ?_
  conv=>lhs;whnf
  refine buZ67 hO ?_
  have A81:Am m33 (n + 1) _:=Kq.a1 k33 (Kq.a0 k32 (an (an (Kq.a0 k10 (an asm)))))
  conv=>lhs;whnf
  refine stZ67 hO (by exact an (an (an A81))) Fd (fun _=>rfl) ?_
  conv=>lhs;whnf
  refine lnZ67 (by exact asm) ?_
  conv=>lhs;whnf
  exact hf _ _ _ (by omega) (by omega) (by exact Kq.ml (Kq.ml (Kq.ml (Kq.ml (Kq.s1 K33))))) (by exact ⟨rfl,(hC0.kp (by exact Kq.kp (Kq.ml (Kq.ml (Kq.ml (Kq.ml (Kq.tr (Kq.tr (Kq.ml (Kq.ml (Kq.tr (Kq.ml (Kq.ml (Kq.ml kr))) (Kq.s0 k10)))) (Kq.s0 k32)) (Kq.s2 k33)))))))).up (by omega)⟩)
end Go.Proofs.YtfdfdagbeeeomaaDoor.V2.S
namespace Go.Proofs.YtfdfdagbeeeomaaDoor.V2.S
open Go
set_option maxRecDepth 100000
set_option maxHeartbeats 4000000
set_option linter.unusedVariables false
attribute [local irreducible] fN fO nM gM pM Phi.fn mp bl At Bx Ce Ac C9 Dr lnF
def LateS (Y:Cy) (H:HF):Prop:=∀ {n many which q:Nat} {m:T FObj},Gl m → 4 ≤ n → many < 256 → which < 256 → q < 18446744073709551616 → Ret 60000 H [.n .u8 many,.n .u8 which,.n .u64 q] n m (.b true)
theorem late_s {O:Oz} {Y:Cy} (hO:O=zO) (Φ:Phi) (HPa:PairS (Phi.fn Φ 5)) (HSt:StartS Y (Phi.fn Φ 6)) (HTA:TakeA Y (Phi.fn Φ 7)) (HTR:TakeR0 Y (Phi.fn Φ 7)) (HTB:TakeB Y (Phi.fn Φ 8)) (HM:MarkV (Phi.fn Φ 10)) (HTJ:TakeRj Y (Phi.fn Φ 7)) (HTS:TakeSt Y (Phi.fn Φ 8)) (HTF:TakeF Y (Phi.fn Φ 8)) (HCf:ConfV (Phi.fn Φ 9)) (HT:TellsS Y (Phi.fn Φ 11)):LateS Y (p3 O Φ):=fun {n many which q m} hG hn4 hmany hwhich hq k P hn hf=>by
 have hwm:which % (1 + many % 8) < 1 + many % 8:=Nat.mod_lt _ (by omega)
 conv=>lhs;whnf
 (refine HPa _ _ (by omega) (fun vA nA mA hA gA kA qA=>?_);obtain ⟨rb,cb,sb,rfl,a1,a2,a3,RA,CA,SA⟩:=qA;have zr:=RA.1;have zc:=CA.1;have zs:=SA.1;have GA:Gl mA:=(by exact hG.kp (n:=4) (by exact Kq.kp (Kq.s0 kA)) (by omega)))
 conv=>lhs;whnf
 refine rmI hO (by omega) ?_
 conv=>lhs;whnf
 refine cvI hO (by omega) ?_
 conv=>lhs;whnf
 refine adI hO (by omega) ?_
 conv=>lhs;whnf
 refine adI hO (by omega) ?_
 conv=>lhs;whnf
 (refine lpI hO (fun t e n' m'=>∃ j hv,j ≤ 1 + many % 8 ∧ t=1 + many % 8 - j ∧ e=eof [(6,.b false),(10,hv),(39,.n .i64 j)] ∧ nA ≤ n' ∧ n' ≤ nA + 4000 * j ∧ Kp n m m' ∧ Gl m' ∧ RingAt m' n' rb Au ∧ ClAt m' n' cb rb (cK Y q j) ∧ SvAt m' n' sb rb (vK Y q j) ∧ HsAt Y q nA m' n' hv j) (by rintro t e n' m' ⟨j,hv,_,_,_,h,_⟩;omega) ?_ _ (1 + many % 8) _ _ _ (by omega) ⟨0,_,by omega,by omega,rfl,by omega,by omega,(by exact Kq.kp (Kq.s0 kA)),GA,RA,CA,SA,.inl ⟨rfl,rfl⟩⟩;intro t e n2 m2 ih hI hih;obtain ⟨j,hv,i1,i2,rfl,i4,i5,K2,G2,R2,C2,S2,H2⟩:=hI)
 conv=>lhs;whnf
 refine ltT hO (by omega) ?_
 conv=>lhs;whnf
 refine cvU hO (w:=18446744073709551615) (by omega) (by rfl) ?_
 conv=>lhs;whnf
 refine ad64 hO ?_
 conv=>lhs;whnf
 refine ubu hO ?_
 conv=>lhs;whnf
 (refine HSt (c:=cK Y q j) (non:=B8 q j) (rb:=rb) (K:=Au) G2 (by omega) (by omega) C2 R2 (E8 q j) _ _ (by omega) (fun v11 n11 m11 h11 g11 k11 q11=>?_);rw [dgH_cK] at q11;obtain ⟨b11,rfl,d11,e11,f11,C11⟩:=q11;have G11:Gl m11:=(by exact G2.kp (n:=4) (by exact Kq.kp (Kq.s2 k11)) (by omega));have R11:RingAt m11 n11 rb Au:=(by exact (R2.kcl (by exact Kq.s1 k11) C2 (by omega)).up h11);have S11:SvAt m11 n11 sb rb (vK Y q j):=(by exact (S2.kcl (by exact Kq.s1 k11) C2 (by omega)).up h11);have H11:HsAt Y q nA m11 n11 hv j:=(by exact (H2.kcl (by exact Kq.s1 k11) C2).up h11);have K11:Kq [cb,sb] n m m11:=(by exact Kq.tr (Kq.dp K2) (Kq.s1 k11)))
 conv=>lhs;whnf
 refine neF hO (by omega) ?_
 conv=>lhs;whnf
 refine bsSl hO (by omega) ?_
 conv=>lhs;whnf
 (refine apHs hO (Y:=Y) (q:=q) (n0:=nA) (j:=j) (c:=(Ca Y Au (cK Y q j) (B8 q j) ask0B)) (s:=vK Y q j) (by exact G11.kp (n:=4) (by exact Kq.kp (Kq.ml kr)) (by omega)) (by exact (R2.kcl (by exact Kq.ml (Kq.s1 k11)) C2 (by omega)).up (by omega)) (by exact (C11.kp (by exact Kq.kp (Kq.ml kr))).up (by omega)) (by exact (S2.kcl (by exact Kq.ml (Kq.s1 k11)) C2 (by omega)).up (by omega)) (by exact (H11.kp (by exact Kq.kp (Kq.ml kr))).up (by omega)) (by omega) (by omega) (by omega) (by omega) (by exact asm) (by omega) (by exact an f11) (fun hv m14 k14 G14 R14 C14 S14 H14 F14=>?_);have K14:Kq [cb,sb] n m m14:=(by exact Kq.tp (Kq.ml (Kq.s4 K11)) k14))
 conv=>lhs;whnf
 (refine eqB hO (fun (hz:j=1 + many % 8)=>?_) (fun (hz:j ≠ 1 + many % 8)=>?_);(obtain ⟨p,rfl⟩:∃ p,j=p + 1:=⟨j - 1,by omega⟩);(obtain ⟨D,l,b,b',rfl,x1,x2,x3,x4,x5,x6,x7,x8,x9,y1,y2,y3,y4,y5⟩:=HsAt.get2 (i:=which % (1 + many % 8)) (i':=1 + many % 8) (by assumption) (by assumption) (by assumption) (by omega) (by omega));have hcon:=vD_con Y q (p + 1);rw [← hz] at y5;by_cases hw:which % (1 + many % 8)=p;rw [hw] at y4)
 ·conv=>lhs;whnf
  (refine HCf (rb:=rb) (v:=vK Y q (p + 1)) S14 _ _ (by omega) (fun v16 n16 m16 h16 g16 k16 q16=>?_);rw [decC Y q (p + 1) (by omega)] at q16;obtain ⟨rfl,S16⟩:=q16;have S16:SvAt m16 n16 sb rb (vD Y q (p + 1)):=S16;have G16:Gl m16:=(by exact G14.kp (n:=4) (by exact Kq.kp (Kq.s2 k16)) (by omega));have R16:RingAt m16 n16 rb Au:=(by exact (R14.ksv (by exact Kq.s1 k16) S14 (by omega)).up h16);have C16:ClAt m16 n16 cb rb (Ca Y Au (cK Y q (p + 1)) (B8 q (p + 1)) ask0B):=(by exact (C14.ksv (by exact Kq.s1 k16) S14 (by omega)).up h16);have K16:Kq [cb,sb] n m m16:=(by exact Kq.tr (Kq.tp (Kq.ml (Kq.s4 K11)) k14) (Kq.s3 k16)))
  conv=>lhs;whnf
  (refine HCf (rb:=rb) (v:=vD Y q (p + 1)) S16 _ _ (by omega) (fun v17 n17 m17 h17 g17 k17 q17=>?_);rw [decC2] at q17;obtain ⟨rfl,S17⟩:=q17;have S17:SvAt m17 n17 sb rb (vD Y q (p + 1)):=S17;have G17:Gl m17:=(by exact G16.kp (n:=4) (by exact Kq.kp (Kq.s2 k17)) (by omega));have R17:RingAt m17 n17 rb Au:=(by exact (R16.ksv (by exact Kq.s1 k17) S16 (by omega)).up h17);have C17:ClAt m17 n17 cb rb (Ca Y Au (cK Y q (p + 1)) (B8 q (p + 1)) ask0B):=(by exact (C16.ksv (by exact Kq.s1 k17) S16 (by omega)).up h17);have K17:Kq [cb,sb] n m m17:=(by exact Kq.tr (Kq.s4 K16) (Kq.s3 k17)))
  conv=>lhs;whnf
  (refine HM (rb:=rb) (v:=vD Y q (p + 1)) S17 _ _ (by omega) (fun n18 m18 h18 g18 k18=>?_);have G18:Gl m18:=(by exact G17.kp (n:=4) (by exact Kq.kp (Kq.dp k18)) (by omega));have R18:RingAt m18 n18 rb Au:=(by exact (R16.ksv (by exact Kq.tp (Kq.s1 k17) k18) S16 (by omega)).up (by omega));have C18:ClAt m18 n18 cb rb (Ca Y Au (cK Y q (p + 1)) (B8 q (p + 1)) ask0B):=(by exact (C16.ksv (by exact Kq.tp (Kq.s1 k17) k18) S16 (by omega)).up (by omega));have K18:Kq [cb,sb] n m m18:=(by exact Kq.tp (Kq.s4 K17) k18);have G18:Gl m18:=G18;have R18:RingAt m18 n18 rb Au:=R18;have S18:SvAt m18 n18 sb rb (vD Y q (p + 1)):=(by exact (S17.kp (by exact Kq.kp (Kq.dp k18))).up h18);have K18:Kq [cb,sb] n m m18:=(by exact Kq.s4 K18))
  conv=>lhs;whnf
  refine alO hO (by omega) ?_
  conv=>lhs;whnf
  refine ust hO ?_
  conv=>lhs;whnf
  refine Aq (by exact asm) ?_
  conv=>lhs;whnf
  refine (D6 _ _).trans ?_
  conv=>lhs;whnf
  refine pM_mp.trans ?_
  conv=>lhs;whnf
  refine cvI hO (by omega) ?_
  conv=>lhs;whnf
  refine rmI hO (by omega) ?_
  conv=>lhs;whnf
  refine ix01 hO (by omega) ?_
  have A27:Am m18 D _:=ka k18 (Kq.a1 k17 (Kq.a1 k16 y1))
  conv=>lhs;whnf
  refine ldC hO (by exact an (an A27)) (by assumption) ?_
  conv=>lhs;whnf
  (have hw2:which % (1 + many % 8)=p:=hw;refine HTR (v:=vD Y q (p + 1)) (rb:=rb) (K:=Au) (s:=(cK Y q p).ses) (e:=(cK Y q p).ep) (cn:=B8 q p) (tk:=tkK Y q p) (sn:=q) (by exact G18.kp (n:=4) (by exact Kq.kp (Kq.ml (Kq.ml kr))) (by omega)) (by omega) (by omega) (by exact (S18.kp (by exact Kq.kp (Kq.ml (Kq.ml kr)))).up (by omega)) (by exact (R16.ksv (by exact Kq.ml (Kq.ml (Kq.tp (Kq.s1 k17) k18))) S16 (by omega)).up (by omega)) (I9 Y q p) (by rw [M4];omega) (E8 q p) (tkK_lt Y q p) hq (show Sl _ _ _ (hB Y q p) from (by exact Sl.ownE (by exact an (an (ka k18 (Kq.a1 k17 (Kq.a1 k16 y4))))) (by omega) rfl (by omega))) rfl rfl rfl rfl (show Gv Y Au (vK Y q p) (B8 q p) q ≠ [] from Mm _ _ _ _ _ _) _ _ (by omega) (fun v28 n28 m28 h28 g28 k28 q28=>?_);rw [show (vD Y q (p + 1)).wel=dgB Y Au 2 5 (p + 1) (Ea (B8 q p) q (Bf Y Au 5 (p + 1)) 0) from welK Y q p] at q28;obtain ⟨⟨b28,rfl,d28,e28,f28⟩,S28⟩:=q28;have G28:Gl m28:=(by exact G18.kp (n:=4) (by exact Kq.kp (Kq.tr (Kq.ml (Kq.ml kr)) (Kq.s2 k28))) (by omega));have R28:RingAt m28 n28 rb Au:=(by exact (R18.ksv (by exact Kq.tr (Kq.ml (Kq.ml kr)) (Kq.s1 k28)) S18 (by omega)).up (by omega));have C28:ClAt m28 n28 cb rb (Ca Y Au (cK Y q (p + 1)) (B8 q (p + 1)) ask0B):=(by exact (C18.ksv (by exact Kq.tr (Kq.ml (Kq.ml kr)) (Kq.s1 k28)) S18 (by omega)).up (by omega));have K28:Kq [cb,sb] n m m28:=(by exact Kq.tr (Kq.ml (Kq.ml (Kq.s4 K18))) (Kq.s3 k28)))
  conv=>lhs;whnf
  refine alO hO (by omega) ?_
  conv=>lhs;whnf
  ((refine Iq ?_);refine Ez hO (N:=68) (by exact asm) (by kernel_rfl) (B2 L32.z' L32.z') (Fo (by exact Or.inr ⟨_,_,_,_,_,_,rfl⟩) (by exact Or.inl rfl)) (fun _=>rfl) ?_)
  conv=>lhs;whnf
  refine cvI hO (by omega) ?_
  conv=>lhs;whnf
  refine rmI hO (by omega) ?_
  conv=>lhs;whnf
  refine sbI hO (by omega) (by omega) ?_
  conv=>lhs;whnf
  refine eqT hO (by omega) ?_
  conv=>lhs;whnf
  refine eqT hO (by omega) ?_
  conv=>lhs;whnf
  refine fa0 hO ?_
  conv=>lhs;whnf
  refine ldC hO (by exact asm) (by rfl) ?_
  conv=>lhs;whnf
  refine uln hO ?_
  conv=>lhs;whnf
  refine lnF_x ?_
  conv=>lhs;whnf
  refine Aq (by exact an (an (Kq.a1 k28 asm))) ?_
  conv=>lhs;whnf
  refine fe ?_
  conv=>lhs;whnf
  refine fe ?_
  conv=>lhs;whnf
  refine fe ?_
  conv=>lhs;whnf
  (refine HM (rb:=rb) (v:=vD Y q (p + 1)) (by exact (S28.kp (by exact Kq.kp (Kq.ml (Kq.ml kr)))).up (by omega)) _ _ (by omega) (fun n44 m44 h44 g44 k44=>?_);have G44:Gl m44:=(by exact G28.kp (n:=4) (by exact Kq.kp (Kq.tp (Kq.ml (Kq.ml kr)) k44)) (by omega));have R44:RingAt m44 n44 rb Au:=(by exact (R18.ksv (by exact Kq.tp (Kq.ml (Kq.ml (Kq.tr (Kq.ml (Kq.ml kr)) (Kq.s1 k28)))) k44) S18 (by omega)).up (by omega));have C44:ClAt m44 n44 cb rb (Ca Y Au (cK Y q (p + 1)) (B8 q (p + 1)) ask0B):=(by exact (C18.ksv (by exact Kq.tp (Kq.ml (Kq.ml (Kq.tr (Kq.ml (Kq.ml kr)) (Kq.s1 k28)))) k44) S18 (by omega)).up (by omega));have K44:Kq [cb,sb] n m m44:=(by exact Kq.tp (Kq.ml (Kq.ml (Kq.s4 K28))) k44);have G44:Gl m44:=G44;have R44:RingAt m44 n44 rb Au:=R44;have S44:SvAt m44 n44 sb rb (vD Y q (p + 1)):=(by exact (S28.kp (by exact Kq.kp (Kq.tp (Kq.ml (Kq.ml kr)) k44))).up (by omega));have K44:Kq [cb,sb] n m m44:=(by exact Kq.s4 K44))
  have A45:Am m44 n18 _:=ka k44 (an (an (Kq.a1 k28 asm)))
  conv=>lhs;whnf
  refine uln hO ?_
  conv=>lhs;whnf
  refine lnF_x ?_
  conv=>lhs;whnf
  refine Aq A45 ?_
  conv=>lhs;whnf
  refine fe ?_
  conv=>lhs;whnf
  refine fe ?_
  conv=>lhs;whnf
  refine fe ?_
  conv=>lhs;whnf
  refine rcE hO (by kernel_rfl) rfl ?_
  conv=>lhs;whnf
  refine eqI3 hO (by rfl) (by rfl) ?_
  conv=>lhs;whnf
  refine fa0 hO ?_
  conv=>lhs;whnf
  refine ldI hO A45 (by rfl) ?_
  conv=>lhs;whnf
  refine cvU hO (w:=4294967295) (by omega) (by rfl) ?_
  conv=>lhs;whnf
  refine neF hO (by omega) ?_
  conv=>lhs;whnf
  refine fa0 hO ?_
  conv=>lhs;whnf
  refine ldC hO (by exact ka k44 asm) (by rfl) ?_
  conv=>lhs;whnf
  (refine HTS (c:=(Ca Y Au (cK Y q (p + 1)) (B8 q (p + 1)) ask0B)) (rb:=rb) (K:=Au) (s:=5) (e:=p + 1) (cn:=B8 q p) (sn:=q) (tk:=Bf Y Au 5 (p + 1)) (ls:=0) G44 (by omega) (by omega) C44 R44 (by decide) (by omega) (E8 q p) hq (E6 Y _ _) (by decide) (Mm _ _ _ _ _ _) (by exact Sl.own (by exact ka k44 (an (an f28))) (by omega) (by omega)) rfl (I3 (q:=q) (show p < p + 1 by omega) (by omega)) _ _ (by omega) (fun v59 n59 m59 h59 g59 k59 q59=>?_);obtain ⟨rfl,C59⟩:=q59;have G59:Gl m59:=(by exact G44.kp (n:=4) (by exact Kq.kp (Kq.s2 k59)) (by omega));have R59:RingAt m59 n59 rb Au:=(by exact (R44.kcl (by exact Kq.s1 k59) C44 (by omega)).up h59);have S59:SvAt m59 n59 sb rb (vD Y q (p + 1)):=(by exact (S44.kcl (by exact Kq.s1 k59) C44 (by omega)).up h59);have K59:Kq [cb,sb] n m m59:=(by exact Kq.tr (Kq.s4 K44) (Kq.s1 k59)))
  conv=>lhs;whnf
  refine alO hO (by omega) ?_
  conv=>lhs;whnf
  refine stZ67 hO (by exact asm) Fd (fun _=>rfl) ?_
  conv=>lhs;whnf
  refine neF hO (by omega) ?_
  conv=>lhs;whnf
  refine ix01 hO (by omega) ?_
  have A64:Am m59 D _:=Kq.a1 k59 (ka k44 (an (an (Kq.a1 k28 (an (an A27))))))
  conv=>lhs;whnf
  refine ldC hO (by exact an (an A64)) (by assumption) ?_
  conv=>lhs;whnf
  (refine HTA (v:=vD Y q (p + 1)) (rb:=rb) (K:=Au) (s:=5) (e:=p + 1) (cn:=B8 q (p + 1)) (tk:=Bf Y Au 5 (p + 1)) (sn:=q) (by exact G59.kp (n:=4) (by exact Kq.kp (Kq.ml (Kq.ml kr))) (by omega)) (by omega) (by omega) (by exact (S44.kcl (by exact Kq.ml (Kq.ml (Kq.s1 k59))) C44 (by omega)).up (by omega)) (by exact (R44.kcl (by exact Kq.ml (Kq.ml (Kq.s1 k59))) C44 (by omega)).up (by omega)) (by decide) (by omega) (E8 q _) (E6 Y _ _) hq (show Sl _ _ _ (hB Y q (p + 1)) from (by exact Sl.ownE (by exact an (an (Kq.a1 k59 (ka k44 (an (an (Kq.a1 k28 (an (an (ka k18 (Kq.a1 k17 (Kq.a1 k16 y5)))))))))))) (by omega) rfl (by omega))) (fun _ h=>I3 (q:=q) (show p < p + 1 by omega) (by omega) h.2.2) (accC Y q p (by omega)) _ _ (by omega) (fun v65 n65 m65 h65 g65 k65 q65=>?_);obtain ⟨⟨b65,rfl,d65,e65,f65⟩,S65⟩:=q65;have hep:(Jl Y Au (vD Y q (p + 1)) 5 (p + 1) (B8 q (p + 1)) q).ep=p + 1 + 1:=congrArg (· + 1) (vD_ep Y q (p + 1));have G65:Gl m65:=(by exact G59.kp (n:=4) (by exact Kq.kp (Kq.tr (Kq.ml (Kq.ml kr)) (Kq.s2 k65))) (by omega));have R65:RingAt m65 n65 rb Au:=(by exact (R59.ksv (by exact Kq.tr (Kq.ml (Kq.ml kr)) (Kq.s1 k65)) S59 (by omega)).up (by omega));have C65:ClAt m65 n65 cb rb (Ca Y Au (cK Y q (p + 1)) (B8 q (p + 1)) ask0B):=(by exact (C59.ksv (by exact Kq.tr (Kq.ml (Kq.ml kr)) (Kq.s1 k65)) S59 (by omega)).up (by omega));have K65:Kq [cb,sb] n m m65:=(by exact Kq.tr (Kq.ml (Kq.ml (Kq.s4 K59))) (Kq.s3 k65)))
  conv=>lhs;whnf
  refine alO hO (by omega) ?_
  conv=>lhs;whnf
  ((refine Iq ?_);refine Ez hO (N:=68) (by exact asm) (by kernel_rfl) (B2 (by exact L32.way _ _ _ _ _ _ _) (by exact L32.way _ _ _ _ _ _ _)) (Fo (by exact Or.inr ⟨_,_,_,_,_,_,rfl⟩) (by exact Or.inl rfl)) (fun _=>rfl) ?_)
  conv=>lhs;whnf
  refine eqT hO (by omega) ?_
  conv=>lhs;whnf
  refine fa0 hO ?_
  conv=>lhs;whnf
  refine ldC hO (by exact asm) (by rfl) ?_
  conv=>lhs;whnf
  refine HM (rb:=rb) (v:=Jl Y Au (vD Y q (p + 1)) 5 (p + 1) (B8 q (p + 1)) q) (by exact (S65.kp (by exact Kq.kp (Kq.ml (Kq.ml kr)))).up (by omega)) _ _ (by omega) (fun n71 m71 h71 g71 k71=>?_)
  conv=>lhs;whnf
  refine fe ?_
  conv=>lhs;whnf
  refine cvU hO (w:=4294967295) (by omega) (by rfl) ?_
  conv=>lhs;whnf
  refine adU hO (by omega) ?_
  conv=>lhs;whnf
  refine eqT hO (by omega) ?_
  conv=>lhs;whnf
  refine HT (by exact G65.kp (n:=4) (by exact Kq.kp (Kq.tp (Kq.ml (Kq.ml kr)) k71)) (by omega)) (by omega) _ _ (by omega) (fun n76 m76 h76 g76 k76=>?_)
  conv=>lhs;whnf
  exact hf _ _ (by omega) (by omega) (by exact Kq.kp (Kq.tp (Kq.tp (Kq.ml (Kq.ml (Kq.s5 K65))) k71) k76))
 ·conv=>lhs;whnf
  (refine HCf (rb:=rb) (v:=vK Y q (p + 1)) S14 _ _ (by omega) (fun v78 n78 m78 h78 g78 k78 q78=>?_);rw [decC Y q (p + 1) (by omega)] at q78;obtain ⟨rfl,S78⟩:=q78;have S78:SvAt m78 n78 sb rb (vD Y q (p + 1)):=S78;have G78:Gl m78:=(by exact G14.kp (n:=4) (by exact Kq.kp (Kq.s2 k78)) (by omega));have R78:RingAt m78 n78 rb Au:=(by exact (R14.ksv (by exact Kq.s1 k78) S14 (by omega)).up h78);have C78:ClAt m78 n78 cb rb (Ca Y Au (cK Y q (p + 1)) (B8 q (p + 1)) ask0B):=(by exact (C14.ksv (by exact Kq.s1 k78) S14 (by omega)).up h78);have K78:Kq [cb,sb] n m m78:=(by exact Kq.tr (Kq.tp (Kq.ml (Kq.s4 K11)) k14) (Kq.s3 k78)))
  conv=>lhs;whnf
  (refine HCf (rb:=rb) (v:=vD Y q (p + 1)) S78 _ _ (by omega) (fun v79 n79 m79 h79 g79 k79 q79=>?_);rw [decC2] at q79;obtain ⟨rfl,S79⟩:=q79;have S79:SvAt m79 n79 sb rb (vD Y q (p + 1)):=S79;have G79:Gl m79:=(by exact G78.kp (n:=4) (by exact Kq.kp (Kq.s2 k79)) (by omega));have R79:RingAt m79 n79 rb Au:=(by exact (R78.ksv (by exact Kq.s1 k79) S78 (by omega)).up h79);have C79:ClAt m79 n79 cb rb (Ca Y Au (cK Y q (p + 1)) (B8 q (p + 1)) ask0B):=(by exact (C78.ksv (by exact Kq.s1 k79) S78 (by omega)).up h79);have K79:Kq [cb,sb] n m m79:=(by exact Kq.tr (Kq.s4 K78) (Kq.s3 k79)))
  conv=>lhs;whnf
  (refine HM (rb:=rb) (v:=vD Y q (p + 1)) S79 _ _ (by omega) (fun n80 m80 h80 g80 k80=>?_);have G80:Gl m80:=(by exact G79.kp (n:=4) (by exact Kq.kp (Kq.dp k80)) (by omega));have R80:RingAt m80 n80 rb Au:=(by exact (R78.ksv (by exact Kq.tp (Kq.s1 k79) k80) S78 (by omega)).up (by omega));have C80:ClAt m80 n80 cb rb (Ca Y Au (cK Y q (p + 1)) (B8 q (p + 1)) ask0B):=(by exact (C78.ksv (by exact Kq.tp (Kq.s1 k79) k80) S78 (by omega)).up (by omega));have K80:Kq [cb,sb] n m m80:=(by exact Kq.tp (Kq.s4 K79) k80);have G80:Gl m80:=G80;have R80:RingAt m80 n80 rb Au:=R80;have S80:SvAt m80 n80 sb rb (vD Y q (p + 1)):=(by exact (S79.kp (by exact Kq.kp (Kq.dp k80))).up h80);have K80:Kq [cb,sb] n m m80:=(by exact Kq.s4 K80))
  conv=>lhs;whnf
  refine alO hO (by omega) ?_
  conv=>lhs;whnf
  refine ust hO ?_
  conv=>lhs;whnf
  refine Aq (by exact asm) ?_
  conv=>lhs;whnf
  refine (D6 _ _).trans ?_
  conv=>lhs;whnf
  refine pM_mp.trans ?_
  conv=>lhs;whnf
  refine cvI hO (by omega) ?_
  conv=>lhs;whnf
  refine rmI hO (by omega) ?_
  conv=>lhs;whnf
  refine ix01 hO (by omega) ?_
  have A89:Am m80 D _:=ka k80 (Kq.a1 k79 (Kq.a1 k78 y1))
  conv=>lhs;whnf
  refine ldC hO (by exact an (an A89)) (by assumption) ?_
  conv=>lhs;whnf
  (have hw2:which % (1 + many % 8) < p:=(by omega);refine HTJ (v:=vD Y q (p + 1)) (rb:=rb) (K:=Au) (s:=(cK Y q (which % (1 + many % 8))).ses) (e:=(cK Y q (which % (1 + many % 8))).ep) (cn:=B8 q (which % (1 + many % 8))) (tk:=tkK Y q (which % (1 + many % 8))) (sn:=q) (by exact G80.kp (n:=4) (by exact Kq.kp (Kq.ml (Kq.ml kr))) (by omega)) (by omega) (by omega) (by exact (S80.kp (by exact Kq.kp (Kq.ml (Kq.ml kr)))).up (by omega)) (by exact (R78.ksv (by exact Kq.ml (Kq.ml (Kq.tp (Kq.s1 k79) k80))) S78 (by omega)).up (by omega)) (I9 Y q _) (by rw [M4];omega) (E8 q _) (tkK_lt Y q _) hq (show Sl _ _ _ (hB Y q (which % (1 + many % 8))) from (by exact Sl.ownE (by exact an (an (ka k80 (Kq.a1 k79 (Kq.a1 k78 y4))))) (by omega) rfl (by omega))) rfl (fun h=>I3 (q:=q) hw2 (by omega) (Eq.symm h.2.2)) (rejK Y q _ (p + 1) (by omega) (by omega)) _ _ (by omega) (fun v90 n90 m90 h90 g90 k90 q90=>?_);obtain ⟨⟨b90,rfl,d90,e90,f90⟩,S90⟩:=q90;have G90:Gl m90:=(by exact G80.kp (n:=4) (by exact Kq.kp (Kq.tr (Kq.ml (Kq.ml kr)) (Kq.s2 k90))) (by omega));have R90:RingAt m90 n90 rb Au:=(by exact (R80.ksv (by exact Kq.tr (Kq.ml (Kq.ml kr)) (Kq.s1 k90)) S80 (by omega)).up (by omega));have C90:ClAt m90 n90 cb rb (Ca Y Au (cK Y q (p + 1)) (B8 q (p + 1)) ask0B):=(by exact (C80.ksv (by exact Kq.tr (Kq.ml (Kq.ml kr)) (Kq.s1 k90)) S80 (by omega)).up (by omega));have K90:Kq [cb,sb] n m m90:=(by exact Kq.tr (Kq.ml (Kq.ml (Kq.s4 K80))) (Kq.s3 k90)))
  conv=>lhs;whnf
  refine alO hO (by omega) ?_
  conv=>lhs;whnf
  ((refine Iq ?_);refine Ez hO (N:=68) (by exact asm) (by kernel_rfl) (B2 L32.z' L32.z') (Fo (by exact Or.inr ⟨_,_,_,_,_,_,rfl⟩) (by exact Or.inl rfl)) (fun _=>rfl) ?_)
  conv=>lhs;whnf
  refine cvI hO (by omega) ?_
  conv=>lhs;whnf
  refine rmI hO (by omega) ?_
  conv=>lhs;whnf
  refine sbI hO (by omega) (by omega) ?_
  conv=>lhs;whnf
  refine eqF hO (by omega) ?_
  conv=>lhs;whnf
  refine eqF hO (by omega) ?_
  conv=>lhs;whnf
  refine neF hO (by omega) ?_
  conv=>lhs;whnf
  refine fa0 hO ?_
  conv=>lhs;whnf
  refine ldC hO (by exact asm) (by rfl) ?_
  conv=>lhs;whnf
  refine uln hO ?_
  conv=>lhs;whnf
  refine lnF_x ?_
  conv=>lhs;whnf
  refine Aq (by exact an (an (Kq.a1 k90 asm))) ?_
  conv=>lhs;whnf
  refine fe ?_
  conv=>lhs;whnf
  refine fe ?_
  conv=>lhs;whnf
  refine fe ?_
  conv=>lhs;whnf
  (refine HM (rb:=rb) (v:=vD Y q (p + 1)) (by exact (S90.kp (by exact Kq.kp (Kq.ml (Kq.ml kr)))).up (by omega)) _ _ (by omega) (fun n107 m107 h107 g107 k107=>?_);have G107:Gl m107:=(by exact G90.kp (n:=4) (by exact Kq.kp (Kq.tp (Kq.ml (Kq.ml kr)) k107)) (by omega));have R107:RingAt m107 n107 rb Au:=(by exact (R80.ksv (by exact Kq.tp (Kq.ml (Kq.ml (Kq.tr (Kq.ml (Kq.ml kr)) (Kq.s1 k90)))) k107) S80 (by omega)).up (by omega));have C107:ClAt m107 n107 cb rb (Ca Y Au (cK Y q (p + 1)) (B8 q (p + 1)) ask0B):=(by exact (C80.ksv (by exact Kq.tp (Kq.ml (Kq.ml (Kq.tr (Kq.ml (Kq.ml kr)) (Kq.s1 k90)))) k107) S80 (by omega)).up (by omega));have K107:Kq [cb,sb] n m m107:=(by exact Kq.tp (Kq.ml (Kq.ml (Kq.s4 K90))) k107);have G107:Gl m107:=G107;have R107:RingAt m107 n107 rb Au:=R107;have S107:SvAt m107 n107 sb rb (vD Y q (p + 1)):=(by exact (S90.kp (by exact Kq.kp (Kq.tp (Kq.ml (Kq.ml kr)) k107))).up (by omega));have K107:Kq [cb,sb] n m m107:=(by exact Kq.s4 K107))
  have A108:Am m107 n80 _:=ka k107 (an (an (Kq.a1 k90 asm)))
  conv=>lhs;whnf
  refine uln hO ?_
  conv=>lhs;whnf
  refine lnF_x ?_
  conv=>lhs;whnf
  refine Aq A108 ?_
  conv=>lhs;whnf
  refine fe ?_
  conv=>lhs;whnf
  refine fe ?_
  conv=>lhs;whnf
  refine fe ?_
  conv=>lhs;whnf
  refine rcE hO (by kernel_rfl) rfl ?_
  conv=>lhs;whnf
  refine eqI3 hO (by rfl) (by rfl) ?_
  conv=>lhs;whnf
  refine fa0 hO ?_
  conv=>lhs;whnf
  refine ldI hO A108 (by rfl) ?_
  conv=>lhs;whnf
  refine cvU hO (w:=4294967295) (by omega) (by rfl) ?_
  conv=>lhs;whnf
  refine neF hO (by omega) ?_
  conv=>lhs;whnf
  refine fa0 hO ?_
  conv=>lhs;whnf
  refine ldC hO (by exact ka k107 asm) (by rfl) ?_
  conv=>lhs;whnf
  (refine HTF (c:=(Ca Y Au (cK Y q (p + 1)) (B8 q (p + 1)) ask0B)) (rb:=rb) (K:=Au) (s:=(cK Y q (which % (1 + many % 8))).ses) (e:=(cK Y q (which % (1 + many % 8))).ep) (cn:=B8 q (which % (1 + many % 8))) G107 (by omega) (by omega) C107 R107 (I9 Y q _) (by rw [M4];omega) (E8 q _) (Mm _ _ _ _ _ _) (by exact Sl.own (by exact ka k107 (an (an f90))) (by omega) (by omega)) (show 5 ≠ 0 by decide) (I3 (q:=q) (show which % (1 + many % 8) < p + 1 by omega) (by omega)) _ _ (by omega) (fun v122 n122 m122 h122 g122 k122 q122=>?_);obtain ⟨rfl,C122⟩:=q122;have G122:Gl m122:=(by exact G107.kp (n:=4) (by exact Kq.kp (Kq.s2 k122)) (by omega));have R122:RingAt m122 n122 rb Au:=(by exact (R107.kcl (by exact Kq.s1 k122) C107 (by omega)).up h122);have S122:SvAt m122 n122 sb rb (vD Y q (p + 1)):=(by exact (S107.kcl (by exact Kq.s1 k122) C107 (by omega)).up h122);have K122:Kq [cb,sb] n m m122:=(by exact Kq.tr (Kq.s4 K107) (Kq.s1 k122)))
  conv=>lhs;whnf
  refine alO hO (by omega) ?_
  conv=>lhs;whnf
  refine stZ67 hO (by exact asm) Fd (fun _=>rfl) ?_
  conv=>lhs;whnf
  refine neF hO (by omega) ?_
  conv=>lhs;whnf
  refine ix01 hO (by omega) ?_
  have A127:Am m122 D _:=Kq.a1 k122 (ka k107 (an (an (Kq.a1 k90 (an (an A89))))))
  conv=>lhs;whnf
  refine ldC hO (by exact an (an A127)) (by assumption) ?_
  conv=>lhs;whnf
  (refine HTA (v:=vD Y q (p + 1)) (rb:=rb) (K:=Au) (s:=5) (e:=p + 1) (cn:=B8 q (p + 1)) (tk:=Bf Y Au 5 (p + 1)) (sn:=q) (by exact G122.kp (n:=4) (by exact Kq.kp (Kq.ml (Kq.ml kr))) (by omega)) (by omega) (by omega) (by exact (S107.kcl (by exact Kq.ml (Kq.ml (Kq.s1 k122))) C107 (by omega)).up (by omega)) (by exact (R107.kcl (by exact Kq.ml (Kq.ml (Kq.s1 k122))) C107 (by omega)).up (by omega)) (by decide) (by omega) (E8 q _) (E6 Y _ _) hq (show Sl _ _ _ (hB Y q (p + 1)) from (by exact Sl.ownE (by exact an (an (Kq.a1 k122 (ka k107 (an (an (Kq.a1 k90 (an (an (ka k80 (Kq.a1 k79 (Kq.a1 k78 y5)))))))))))) (by omega) rfl (by omega))) (fun _ h=>I3 (q:=q) (show p < p + 1 by omega) (by omega) h.2.2) (accC Y q p (by omega)) _ _ (by omega) (fun v128 n128 m128 h128 g128 k128 q128=>?_);obtain ⟨⟨b128,rfl,d128,e128,f128⟩,S128⟩:=q128;have hep:(Jl Y Au (vD Y q (p + 1)) 5 (p + 1) (B8 q (p + 1)) q).ep=p + 1 + 1:=congrArg (· + 1) (vD_ep Y q (p + 1));have G128:Gl m128:=(by exact G122.kp (n:=4) (by exact Kq.kp (Kq.tr (Kq.ml (Kq.ml kr)) (Kq.s2 k128))) (by omega));have R128:RingAt m128 n128 rb Au:=(by exact (R122.ksv (by exact Kq.tr (Kq.ml (Kq.ml kr)) (Kq.s1 k128)) S122 (by omega)).up (by omega));have C128:ClAt m128 n128 cb rb (Ca Y Au (cK Y q (p + 1)) (B8 q (p + 1)) ask0B):=(by exact (C122.ksv (by exact Kq.tr (Kq.ml (Kq.ml kr)) (Kq.s1 k128)) S122 (by omega)).up (by omega));have K128:Kq [cb,sb] n m m128:=(by exact Kq.tr (Kq.ml (Kq.ml (Kq.s4 K122))) (Kq.s3 k128)))
  conv=>lhs;whnf
  refine alO hO (by omega) ?_
  conv=>lhs;whnf
  ((refine Iq ?_);refine Ez hO (N:=68) (by exact asm) (by kernel_rfl) (B2 (by exact L32.way _ _ _ _ _ _ _) (by exact L32.way _ _ _ _ _ _ _)) (Fo (by exact Or.inr ⟨_,_,_,_,_,_,rfl⟩) (by exact Or.inl rfl)) (fun _=>rfl) ?_)
  conv=>lhs;whnf
  refine eqT hO (by omega) ?_
  conv=>lhs;whnf
  refine fa0 hO ?_
  conv=>lhs;whnf
  refine ldC hO (by exact asm) (by rfl) ?_
  conv=>lhs;whnf
  refine HM (rb:=rb) (v:=Jl Y Au (vD Y q (p + 1)) 5 (p + 1) (B8 q (p + 1)) q) (by exact (S128.kp (by exact Kq.kp (Kq.ml (Kq.ml kr)))).up (by omega)) _ _ (by omega) (fun n134 m134 h134 g134 k134=>?_)
  conv=>lhs;whnf
  refine fe ?_
  conv=>lhs;whnf
  refine cvU hO (w:=4294967295) (by omega) (by rfl) ?_
  conv=>lhs;whnf
  refine adU hO (by omega) ?_
  conv=>lhs;whnf
  refine eqT hO (by omega) ?_
  conv=>lhs;whnf
  refine HT (by exact G128.kp (n:=4) (by exact Kq.kp (Kq.tp (Kq.ml (Kq.ml kr)) k134)) (by omega)) (by omega) _ _ (by omega) (fun n139 m139 h139 g139 k139=>?_)
  conv=>lhs;whnf
  exact hf _ _ (by omega) (by omega) (by exact Kq.kp (Kq.tp (Kq.tp (Kq.ml (Kq.ml (Kq.s5 K128))) k134) k139))
 ·conv=>lhs;whnf
  (refine HTA (v:=vK Y q j) (rb:=rb) (K:=Au) (s:=(cK Y q j).ses) (e:=(cK Y q j).ep) (cn:=B8 q j) (tk:=tkK Y q j) (sn:=q) G14 (by omega) (by omega) S14 R14 (I9 Y q j) (by rw [M4];omega) (E8 q j) (tkK_lt Y q j) hq (show Sl _ _ _ (hB Y q j) from (by exact Sl.own F14 (by omega) (by omega))) (fresh0 Y q j (by omega)) (acc0 Y q j (by omega)) _ _ (by omega) (fun v141 n141 m141 h141 g141 k141 q141=>?_);rw [welK] at q141;obtain ⟨⟨b141,rfl,d141,e141,f141⟩,S141⟩:=q141;have S141:SvAt m141 n141 sb rb (vK Y q (j + 1)):=S141;have G141:Gl m141:=(by exact G14.kp (n:=4) (by exact Kq.kp (Kq.s2 k141)) (by omega));have R141:RingAt m141 n141 rb Au:=(by exact (R14.ksv (by exact Kq.s1 k141) S14 (by omega)).up h141);have C141:ClAt m141 n141 cb rb (Ca Y Au (cK Y q j) (B8 q j) ask0B):=(by exact (C14.ksv (by exact Kq.s1 k141) S14 (by omega)).up h141);have H141:HsAt Y q nA m141 n141 hv (j + 1):=(by exact (H14.ksv (by exact Kq.s1 k141) S14).up h141);have K141:Kq [cb,sb] n m m141:=(by exact Kq.tr (Kq.s4 K14) (Kq.s3 k141)))
  conv=>lhs;whnf
  refine alO hO (by omega) ?_
  conv=>lhs;whnf
  ((refine Iq ?_);refine Ez hO (N:=68) (by exact asm) (by kernel_rfl) (B2 (by exact L32.way _ _ _ _ _ _ _) (by exact L32.way _ _ _ _ _ _ _)) (Fo (by exact Or.inr ⟨_,_,_,_,_,_,rfl⟩) (by exact Or.inl rfl)) (fun _=>rfl) ?_)
  conv=>lhs;whnf
  refine fa0 hO ?_
  conv=>lhs;whnf
  refine ldC hO (by exact asm) (by rfl) ?_
  conv=>lhs;whnf
  (refine HTB (c:=(Ca Y Au (cK Y q j) (B8 q j) ask0B)) (rb:=rb) (K:=Au) (s:=5) (e:=j + 1) (cn:=B8 q j) (sn:=q) (tk:=Bf Y Au 5 (j + 1)) (ls:=0) (by exact G141.kp (n:=4) (by exact Kq.kp (Kq.ml (Kq.ml kr))) (by omega)) (by omega) (by omega) (by exact (C14.ksv (by exact Kq.ml (Kq.ml (Kq.s1 k141))) S14 (by omega)).up (by omega)) (by exact (R14.ksv (by exact Kq.ml (Kq.ml (Kq.s1 k141))) S14 (by omega)).up (by omega)) (by decide) (by omega) (E8 q j) hq (E6 Y _ _) (by decide) (Mm _ _ _ _ _ _) (by exact Sl.own (by exact an (an f141)) (by omega) (by omega)) rfl (by decide) (show 5=(cK Y q j).ses ∨ (cK Y q j).ses=0 from cK_or Y q j) (show (cK Y q j).ep < j + 1 by rw [M4];omega) _ _ (by omega) (fun v146 n146 m146 h146 g146 k146 q146=>?_);obtain ⟨rfl,C146⟩:=q146;have C146:ClAt m146 n146 cb rb (cK Y q (j + 1)):=C146;have G146:Gl m146:=(by exact G141.kp (n:=4) (by exact Kq.kp (Kq.tr (Kq.ml (Kq.ml kr)) (Kq.s2 k146))) (by omega));have R146:RingAt m146 n146 rb Au:=(by exact (R141.kcl (by exact Kq.tr (Kq.ml (Kq.ml kr)) (Kq.s1 k146)) C141 (by omega)).up (by omega));have S146:SvAt m146 n146 sb rb (vK Y q (j + 1)):=(by exact (S141.kcl (by exact Kq.tr (Kq.ml (Kq.ml kr)) (Kq.s1 k146)) C141 (by omega)).up (by omega));have H146:HsAt Y q nA m146 n146 hv (j + 1):=(by exact (H141.kcl (by exact Kq.tr (Kq.ml (Kq.ml kr)) (Kq.s1 k146)) C141).up (by omega));have K146:Kq [cb,sb] n m m146:=(by exact Kq.tr (Kq.ml (Kq.ml (Kq.s4 K141))) (Kq.s1 k146)))
  conv=>lhs;whnf
  refine alO hO (by omega) ?_
  conv=>lhs;whnf
  ((refine atS67 ?_);refine Ez hO (N:=67) (by exact asm) (by kernel_rfl) (Fz (by exact L32.way _ _ _ _ _ _ _) (by exact L32.way _ _ _ _ _ _ _)) (oneBeg _ _ _ _ _) (fun _=>rfl) ?_)
  conv=>lhs;whnf
  refine neF hO (by omega) ?_
  conv=>lhs;whnf
  refine neF hO (by omega) ?_
  conv=>lhs;whnf
  refine fa0 hO ?_
  conv=>lhs;whnf
  refine ldC hO (by exact asm) (by rfl) ?_
  conv=>lhs;whnf
  refine cvI hO (by omega) ?_
  conv=>lhs;whnf
  refine adI hO (by omega) ?_
  conv=>lhs;whnf
  refine neF hO (by omega) ?_
  conv=>lhs;whnf
  refine adI hO (by omega) ?_
  conv=>lhs;whnf
  exact hih (1 + many % 8 - (j + 1)) _ _ _ (by omega) ⟨j + 1,hv,by omega,rfl,rfl,by omega,by omega,(by exact Kq.kp (Kq.ml (Kq.ml (Kq.s5 K146)))),(by exact G146.kp (n:=4) (by exact Kq.kp (Kq.ml (Kq.ml kr))) (by omega)),(by exact (R141.kcl (by exact Kq.ml (Kq.ml (Kq.tr (Kq.ml (Kq.ml kr)) (Kq.s1 k146)))) C141 (by omega)).up (by omega)),(by exact (C146.kp (by exact Kq.kp (Kq.ml (Kq.ml kr)))).up (by omega)),(by exact (S141.kcl (by exact Kq.ml (Kq.ml (Kq.tr (Kq.ml (Kq.ml kr)) (Kq.s1 k146)))) C141 (by omega)).up (by omega)),(by exact (H146.kp (by exact Kq.kp (Kq.ml (Kq.ml kr)))).up (by omega))⟩
end Go.Proofs.YtfdfdagbeeeomaaDoor.V2.S
