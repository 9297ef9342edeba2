/- Part 8 of the proof: texts of the proof. -/
import Derived.Test.YtfdfdagbeeeomaaDoorQL7
namespace Go.Proofs.YtfdfdagbeeeomaaDoor.V2
def N8.st {α:Type} (t:N8 α) (i:Nat) (x:α):N8 α:=match t with
 | ⟨a0,a1,a2,a3,a4,a5,a6,a7⟩=>match i with
  | 0=>⟨x,a1,a2,a3,a4,a5,a6,a7⟩
  | 1=>⟨a0,x,a2,a3,a4,a5,a6,a7⟩
  | 2=>⟨a0,a1,x,a3,a4,a5,a6,a7⟩
  | 3=>⟨a0,a1,a2,x,a4,a5,a6,a7⟩
  | 4=>⟨a0,a1,a2,a3,x,a5,a6,a7⟩
  | 5=>⟨a0,a1,a2,a3,a4,x,a6,a7⟩
  | 6=>⟨a0,a1,a2,a3,a4,a5,x,a7⟩
  | 7=>⟨a0,a1,a2,a3,a4,a5,a6,x⟩
  | _=>t
def N8.at_ {α:Type} (t:N8 α) (i:Nat):α:=match t with
 | ⟨a0,a1,a2,a3,a4,a5,a6,a7⟩=>match i with
  | 0=>a0
  | 1=>a1
  | 2=>a2
  | 3=>a3
  | 4=>a4
  | 5=>a5
  | 6=>a6
  | _=>a7
def N16.st {α:Type} (t:N16 α) (i:Nat) (x:α):N16 α:=match t with
 | ⟨a0,a1,a2,a3,a4,a5,a6,a7,a8,a9,a10,a11,a12,a13,a14,a15⟩=>match i with
  | 0=>⟨x,a1,a2,a3,a4,a5,a6,a7,a8,a9,a10,a11,a12,a13,a14,a15⟩
  | 1=>⟨a0,x,a2,a3,a4,a5,a6,a7,a8,a9,a10,a11,a12,a13,a14,a15⟩
  | 2=>⟨a0,a1,x,a3,a4,a5,a6,a7,a8,a9,a10,a11,a12,a13,a14,a15⟩
  | 3=>⟨a0,a1,a2,x,a4,a5,a6,a7,a8,a9,a10,a11,a12,a13,a14,a15⟩
  | 4=>⟨a0,a1,a2,a3,x,a5,a6,a7,a8,a9,a10,a11,a12,a13,a14,a15⟩
  | 5=>⟨a0,a1,a2,a3,a4,x,a6,a7,a8,a9,a10,a11,a12,a13,a14,a15⟩
  | 6=>⟨a0,a1,a2,a3,a4,a5,x,a7,a8,a9,a10,a11,a12,a13,a14,a15⟩
  | 7=>⟨a0,a1,a2,a3,a4,a5,a6,x,a8,a9,a10,a11,a12,a13,a14,a15⟩
  | 8=>⟨a0,a1,a2,a3,a4,a5,a6,a7,x,a9,a10,a11,a12,a13,a14,a15⟩
  | 9=>⟨a0,a1,a2,a3,a4,a5,a6,a7,a8,x,a10,a11,a12,a13,a14,a15⟩
  | 10=>⟨a0,a1,a2,a3,a4,a5,a6,a7,a8,a9,x,a11,a12,a13,a14,a15⟩
  | 11=>⟨a0,a1,a2,a3,a4,a5,a6,a7,a8,a9,a10,x,a12,a13,a14,a15⟩
  | 12=>⟨a0,a1,a2,a3,a4,a5,a6,a7,a8,a9,a10,a11,x,a13,a14,a15⟩
  | 13=>⟨a0,a1,a2,a3,a4,a5,a6,a7,a8,a9,a10,a11,a12,x,a14,a15⟩
  | 14=>⟨a0,a1,a2,a3,a4,a5,a6,a7,a8,a9,a10,a11,a12,a13,x,a15⟩
  | 15=>⟨a0,a1,a2,a3,a4,a5,a6,a7,a8,a9,a10,a11,a12,a13,a14,x⟩
  | _=>t
def N16.at_ {α:Type} (t:N16 α) (i:Nat):α:=match t with
 | ⟨a0,a1,a2,a3,a4,a5,a6,a7,a8,a9,a10,a11,a12,a13,a14,a15⟩=>match i with
  | 0=>a0
  | 1=>a1
  | 2=>a2
  | 3=>a3
  | 4=>a4
  | 5=>a5
  | 6=>a6
  | 7=>a7
  | 8=>a8
  | 9=>a9
  | 10=>a10
  | 11=>a11
  | 12=>a12
  | 13=>a13
  | 14=>a14
  | _=>a15
end Go.Proofs.YtfdfdagbeeeomaaDoor.V2
namespace Go.Proofs.YtfdfdagbeeeomaaDoor.V2.S
open Go
set_option linter.unusedVariables false
noncomputable section
def eput (e:E) (n:Nat) (x:FV):E:=N16.st e (n / 64) (N8.st (N16.at_ e (n / 64)) (n / 8 % 8) (N8.st (N8.at_ (N16.at_ e (n / 64)) (n / 8 % 8)) (n % 8) x))
def eof:List (Nat × FV) → E
 | []=>e0
 | (n,x) :: l=>eput (eof l) n x
def Kq (xs:List Nat) (n:Nat) (m m':T FObj):Prop:=∀ b o,b < n → (∀ x ∈ xs,b ≠ x) → Am m b o → Am m' b o
theorem Kq.refl (xs:List Nat) (n:Nat) (m:T FObj):Kq xs n m m:=fun _ _ _ _ h=>h
theorem Kq.of {n:Nat} {m m':T FObj} (h:Kp n m m') (xs:List Nat):Kq xs n m m':=fun b o hb _ ha=>h b o hb ha
theorem Kq.kp {n:Nat} {m m':T FObj} (h:Kq [] n m m'):Kp n m m':=fun b o hb ha=>h b o hb (fun x hx=>absurd hx List.not_mem_nil) ha
theorem Kq.trans {xs:List Nat} {n k:Nat} {a b c:T FObj} (h:Kq xs n a b) (g:Kq xs k b c) (hk:n ≤ k):Kq xs n a c:=fun x o hx hn ha=>g x o (by omega) hn (h x o hx hn ha)
theorem Kq.transP {xs:List Nat} {n k:Nat} {a b c:T FObj} (h:Kq xs n a b) (g:Kp k b c) (hk:n ≤ k):Kq xs n a c:=fun x o hx hn ha=>g x o (by omega) (h x o hx hn ha)
theorem Kq.mp {xs:List Nat} {n:Nat} {a b:T FObj} (h:Kq xs n a b) {c:Nat} {o:FObj} (hn:n ≤ c ∨ c ∈ xs) (hc:c < 1000000):Kq xs n a (mp b c o):=fun x p hx hxn ha=>Ir hc (by
 rcases hn with hn | hn
 ·omega
 ·exact hxn c hn) (h x p hx hxn ha)
theorem Kq.am {xs:List Nat} {n:Nat} {m m':T FObj} {b:Nat} {o:FObj} (h:Kq xs n m m') (hb:b < n) (hn:∀ x ∈ xs,b ≠ x) (ha:Am m b o):Am m' b o:=h b o hb hn ha
theorem Kq.low {xs:List Nat} {n k:Nat} {a b:T FObj} (h:Kq xs k a b) (hk:n ≤ k) (hx:∀ x ∈ xs,n ≤ x):Kp n a b:=fun y o hy ha=>h y o (by omega) (fun x hxx=>by have:=hx x hxx;omega) ha
/-! What a function gives. -/
def Ret (C:Nat) (H:HF) (args:List FV) (n:Nat) (m:T FObj) (v:FV):Prop:=∀ (k:KV) (P:FR),n + C ≤ 1000000 → (∀ n' m',n ≤ n' → n' ≤ n + C → Kp n m m' → k v ⟨n',m'⟩=P) → H args ⟨n,m⟩ k=P
def Ms (H:HF) (args:List FV) (n:Nat) (m:T FObj) (v:FV):Prop:=∀ (k:KV) (P:FR),k v ⟨n,m⟩=P → H args ⟨n,m⟩ k=P
def Dc (C:Nat) (xs:List Nat) (H:HF) (args:List FV) (n:Nat) (m:T FObj) (Q:FV → Nat → T FObj → Prop):Prop:=∀ (k:KV) (P:FR),n + C ≤ 1000000 → (∀ v n' m',n ≤ n' → n' ≤ n + C → Kq xs n m m' → Q v n' m' → k v ⟨n',m'⟩=P) → H args ⟨n,m⟩ k=P
/-! Maps whose keys are strings. -/
section
variable {O:Oz} (hO:O=zO) {P:FR} {c:FV → FR} {k:KV} {n:Nat} {m:T FObj}
include hO
end
section
variable {O:Oz} (hO:O=zO) {P:FR} {c:FV → FR} {k:KV} {n:Nat} {m:T FObj}
include hO
/-! Appends. -/
end
theorem rowSb {n:Nat} {m:T FObj} {b o L:Nat} {l:Bs} {el:TypeId} {tl:Tl} (ha:Am m b (.bs (Ac l) el tl)) (hl:o + L ≤ l.length) (c:Nat → RowF → FR):J2 1 ⟨n,m⟩ b o L 1 c=c L (.bs (Ac ((l.drop o).take L))):=by
 unfold J2
 rw [Eu ha]
 show gT (Nat.beq 1 1) (gT (Nat.ble (Nat.add o (Nat.mul L 1)) (bl (Ac l))) (fN (At (Ac l) o (Nat.mul L 1)) fun q=>c L (.bs q)))=_
 rw [gTt (b:=Nat.beq 1 1) rfl,Ck,show Nat.mul L 1=L from Nat.mul_one _,gTt (b:=Nat.ble (Nat.add o L) l.length) (A4 hl),Aj,bpartP hl]
theorem rowQs {z z' b o L Kk:Nat} {x:Bool} {σ:FH} {c:Nat → RowF → FR}:L4 false z σ (.sl b o L Kk x z') c=J2 z σ b o L z' c:=rfl
theorem rowSc {n:Nat} {m:T FObj} {b o L z:Nat} {l:List FV} {el:TypeId} {tl:Tl} (ha:Am m b (.cells l el tl)) (hl:o + L * z ≤ l.length) (h1:∀ r,Cx l r=r) (c:Nat → RowF → FR):J2 z ⟨n,m⟩ b o L z c=c L (.cells ((l.drop o).take (L * z))):=by
 unfold J2
 rw [Eu ha]
 show gT (Nat.beq z z) (Cx l (A9 l 0 fun q=>gT (Nat.ble (Nat.add o (Nat.mul L z)) q) (Bo o l fun l=>Be (Nat.mul L z) l fun l=>c L (.cells l))))=_
 rw [gTt (Nat.beq_refl z),h1,A0,Nat.zero_add,gTt (b:=Nat.ble (Nat.add o (Nat.mul L z)) l.length) (A4 hl),B9,Bq];rfl
theorem baB {n:Nat} {m:T FObj} {b o L Kk N z:Nat} {s:Nat} {e el:TypeId} {tl:Tl} (ha:Am m b (.bs s el tl)) (he:Nat.beq el e=true) (ht:∀ r,gW tl r=r) (f:FH → FR):baQ e N (.sl b o L Kk false z) ⟨n,m⟩ f=f ⟨n,mp m b .dead⟩:=by
 show (gM ⟨n,m⟩ b fun ob=>FObj.rec (motive:=fun _=>FR) .bad (fun _ el t=>Bool.rec (gT (Nat.beq el e) (gW t (pM ⟨n,m⟩ b .dead f))) (Bool.rec (gT (Nat.beq el e) (gW t (pM ⟨n,m⟩ b .dead f))) (f ⟨n,m⟩) (Nat.ble (Nat.succ Kk) N)) false) (fun _ el t=>Bool.rec (gT (Nat.beq el e) (gW t (pM ⟨n,m⟩ b .dead f))) (Bool.rec (gT (Nat.beq el e) (gW t (pM ⟨n,m⟩ b .dead f))) (f ⟨n,m⟩) (Nat.ble (Nat.succ Kk) N)) false) (fun _ _ el t=>Bool.rec (gT (Nat.beq el e) (gW t (pM ⟨n,m⟩ b .dead f))) (Bool.rec (gT (Nat.beq el e) (gW t (pM ⟨n,m⟩ b .dead f))) (f ⟨n,m⟩) (Nat.ble (Nat.succ Kk) N)) false) (fun _=>.bad) .bad ob)=_
 rw [Eu ha]
 show gT (Nat.beq el e) (gW tl (pM ⟨n,m⟩ b .dead f))=_
 rw [gTt he,ht,pM_mp]
theorem baC {n:Nat} {m:T FObj} {b o L Kk N z:Nat} {s:List FV} {e el:TypeId} {tl:Tl} (ha:Am m b (.cells s el tl)) (he:Nat.beq el e=true) (ht:∀ r,gW tl r=r) (f:FH → FR):baQ e N (.sl b o L Kk false z) ⟨n,m⟩ f=f ⟨n,mp m b .dead⟩:=by
 show (gM ⟨n,m⟩ b fun ob=>FObj.rec (motive:=fun _=>FR) .bad (fun _ el t=>Bool.rec (gT (Nat.beq el e) (gW t (pM ⟨n,m⟩ b .dead f))) (Bool.rec (gT (Nat.beq el e) (gW t (pM ⟨n,m⟩ b .dead f))) (f ⟨n,m⟩) (Nat.ble (Nat.succ Kk) N)) false) (fun _ el t=>Bool.rec (gT (Nat.beq el e) (gW t (pM ⟨n,m⟩ b .dead f))) (Bool.rec (gT (Nat.beq el e) (gW t (pM ⟨n,m⟩ b .dead f))) (f ⟨n,m⟩) (Nat.ble (Nat.succ Kk) N)) false) (fun _ _ el t=>Bool.rec (gT (Nat.beq el e) (gW t (pM ⟨n,m⟩ b .dead f))) (Bool.rec (gT (Nat.beq el e) (gW t (pM ⟨n,m⟩ b .dead f))) (f ⟨n,m⟩) (Nat.ble (Nat.succ Kk) N)) false) (fun _=>.bad) .bad ob)=_
 rw [Eu ha]
 show gT (Nat.beq el e) (gW tl (pM ⟨n,m⟩ b .dead f))=_
 rw [gTt he,ht,pM_mp]
theorem apR_ {e:TypeId} {z q:Nat} {s:FV} {R2:RowF} {σ:FH} {k:KV} {P:FR} (h:(L4 false z σ s fun n R1=>fN (Nat.add n (Nat.succ q)) fun N=>gT (Nat.ble N 1000000000000) (baQ e N s σ fun σ=>catQ e R1 R2 fun o=>nM σ o fun b σ=>k (.sl b 0 N N false z) σ))=P):apR e z s (q + 1) R2 σ k=P:=h
section
variable {O:Oz} (hO:O=zO) {P:FR} {c:FV → FR} {k:KV} {n:Nat} {m:T FObj}
include hO
theorem apBB {e el el':TypeId} {tl tl':Tl} {l l':Bs} {b b' o o' L L' Kk K':Nat} {x':Bool} (ha:Am m b (.bs (Ac l) el tl)) (ha':Am m b' (.bs (Ac l') el' tl')) (hl:o + L ≤ l.length) (hl':o' + L' ≤ l'.length) (hp:0 < L') (he:Nat.beq el e=true) (ht:∀ r,gW tl r=r) (hb:L + L' ≤ 1000000000000) (hn:n < 1000000)
  (h:k (.sl n 0 (L + L') (L + L') false 1) ⟨n + 1,mp (mp m b .dead) n (.bs (Ac ((l.drop o).take L ++ (l'.drop o').take L')) e .more)⟩=P):O.ap e false 1 (.sl b o L Kk false 1) (.sl b' o' L' K' x' 1) ⟨n,m⟩ k=P:=by
 subst hO
 obtain ⟨q,rfl⟩:∃ q,L'=q + 1:=⟨L' - 1,by omega⟩
 show J2 1 ⟨n,m⟩ b' o' (q + 1) 1 (fun mm R2=>apR e 1 (.sl b o L Kk false 1) mm R2 ⟨n,m⟩ k)=P
 rw [rowSb ha' hl']
 refine apR_ ?_
 rw [rowQs,rowSb ha hl,Aj,show Nat.add L (Nat.succ q)=L + (q + 1) from rfl,gTt (A4 hb),baB ha he ht]
 show (fN (Bx (Ac ((l.drop o).take L)) (Ac ((l'.drop o').take (q + 1)))) fun s=>nM ⟨n,mp m b .dead⟩ (.bs s e .more) fun b σ=>k (.sl b 0 (L + (q + 1)) (L + (q + 1)) false 1) σ)=P
 rw [Aj,bappP,Bg hn];exact h
theorem apNB {e el':TypeId} {tl':Tl} {l':Bs} {b' o' L' K':Nat} {x':Bool} (ha':Am m b' (.bs (Ac l') el' tl')) (hl':o' + L' ≤ l'.length) (hp:0 < L') (hb:L' ≤ 1000000000000) (hn:n < 1000000)
  (h:k (.sl n 0 L' L' false 1) ⟨n + 1,mp m n (.bs (Ac ((l'.drop o').take L')) e .more)⟩=P):O.ap e false 1 (.o .sl) (.sl b' o' L' K' x' 1) ⟨n,m⟩ k=P:=by
 subst hO
 obtain ⟨q,rfl⟩:∃ q,L'=q + 1:=⟨L' - 1,by omega⟩
 show J2 1 ⟨n,m⟩ b' o' (q + 1) 1 (fun mm R2=>apR e 1 (.o .sl) mm R2 ⟨n,m⟩ k)=P
 rw [rowSb ha' hl']
 refine apR_ ?_
 show (fN (Nat.add 0 (Nat.succ q)) fun N=>gT (Nat.ble N 1000000000000) (nM ⟨n,m⟩ (.bs (Ac ((l'.drop o').take (q + 1))) e .more) fun b σ=>k (.sl b 0 N N false 1) σ))=P
 rw [Aj,show Nat.add 0 (Nat.succ q)=q + 1 by show 0 + (q + 1)=q + 1;omega,gTt (A4 hb),Bg hn];exact h
theorem apB0 {e el':TypeId} {tl':Tl} {l':Bs} {b b' o o' L K' Kk:Nat} {x x':Bool} (ha':Am m b' (.bs (Ac l') el' tl')) (hl':o' + 0 ≤ l'.length) (h:k (.sl b o L Kk x 1) ⟨n,m⟩=P):O.ap e false 1 (.sl b o L Kk x 1) (.sl b' o' 0 K' x' 1) ⟨n,m⟩ k=P:=by
 subst hO
 show J2 1 ⟨n,m⟩ b' o' 0 1 (fun mm R2=>apR e 1 (.sl b o L Kk x 1) mm R2 ⟨n,m⟩ k)=P
 rw [rowSb ha' hl']
 show gT (Nat.beq 1 1) (k (.sl b o L Kk x 1) ⟨n,m⟩)=P
 rw [gTt (b:=Nat.beq 1 1) rfl];exact h
theorem apCC {e el el':TypeId} {tl tl':Tl} {l l':List FV} {b b' o o' L L' Kk K' z:Nat} {x':Bool} (ha:Am m b (.cells l el tl)) (ha':Am m b' (.cells l' el' tl')) (hl:o + L * z ≤ l.length) (hl':o' + L' * z ≤ l'.length) (h1:∀ r,Cx l r=r) (h1':∀ r,Cx l' r=r) (hp:0 < L') (he:Nat.beq el e=true) (ht:∀ r,gW tl r=r) (hb:L + L' ≤ 1000000000000) (hn:n < 1000000)
  (hq:∀ c,ofQ ((l.drop o).take (L * z) ++ (l'.drop o').take (L' * z)) e .more c=c (.cells ((l.drop o).take (L * z) ++ (l'.drop o').take (L' * z)) e .more))
  (h:k (.sl n 0 (L + L') (L + L') false z) ⟨n + 1,mp (mp m b .dead) n (.cells ((l.drop o).take (L * z) ++ (l'.drop o').take (L' * z)) e .more)⟩=P):O.ap e false z (.sl b o L Kk false z) (.sl b' o' L' K' x' z) ⟨n,m⟩ k=P:=by
 subst hO
 obtain ⟨q,rfl⟩:∃ q,L'=q + 1:=⟨L' - 1,by omega⟩
 show J2 z ⟨n,m⟩ b' o' (q + 1) z (fun mm R2=>apR e z (.sl b o L Kk false z) mm R2 ⟨n,m⟩ k)=P
 rw [rowSc ha' hl' h1']
 refine apR_ ?_
 rw [rowQs,rowSc ha hl h1,Aj,show Nat.add L (Nat.succ q)=L + (q + 1) from rfl,gTt (A4 hb),baC ha he ht]
 show (Dk ((l.drop o).take (L * z)) ((l'.drop o').take ((q + 1) * z)) fun l=>ofQ l e .more fun o=>nM ⟨n,mp m b .dead⟩ o fun b σ=>k (.sl b 0 (L + (q + 1)) (L + (q + 1)) false z) σ)=P
 rw [Co,hq,Bg hn];exact h
theorem apNC {e el':TypeId} {tl':Tl} {l':List FV} {b' o' L' K' z:Nat} {x':Bool} (ha':Am m b' (.cells l' el' tl')) (hl':o' + L' * z ≤ l'.length) (h1':∀ r,Cx l' r=r) (hp:0 < L') (hb:L' ≤ 1000000000000) (hn:n < 1000000)
  (hq:∀ c,ofQ ((l'.drop o').take (L' * z)) e .more c=c (.cells ((l'.drop o').take (L' * z)) e .more))
  (h:k (.sl n 0 L' L' false z) ⟨n + 1,mp m n (.cells ((l'.drop o').take (L' * z)) e .more)⟩=P):O.ap e false z (.o .sl) (.sl b' o' L' K' x' z) ⟨n,m⟩ k=P:=by
 subst hO
 obtain ⟨q,rfl⟩:∃ q,L'=q + 1:=⟨L' - 1,by omega⟩
 show J2 z ⟨n,m⟩ b' o' (q + 1) z (fun mm R2=>apR e z (.o .sl) mm R2 ⟨n,m⟩ k)=P
 rw [rowSc ha' hl' h1']
 refine apR_ ?_
 show (fN (Nat.add 0 (Nat.succ q)) fun N=>gT (Nat.ble N 1000000000000) (ofQ ((l'.drop o').take ((q + 1) * z)) e .more fun o=>nM ⟨n,m⟩ o fun b σ=>k (.sl b 0 N N false z) σ))=P
 rw [Aj,show Nat.add 0 (Nat.succ q)=q + 1 by show 0 + (q + 1)=q + 1;omega,gTt (A4 hb),hq,Bg hn];exact h
end
end
end Go.Proofs.YtfdfdagbeeeomaaDoor.V2.S
namespace Go.Proofs.YtfdfdagbeeeomaaDoor.V2.S
open Go
set_option maxRecDepth 100000
set_option linter.unusedVariables false
section
variable {O:Oz} (hO:O=zO) {P:FR} {c:FV → FR} {k:KV} {n:Nat} {m:T FObj}
include hO
theorem bs1 {a:Nat} {e:TypeId} (ha:a < 256) (hn:n < 1000000) (h:k (.sl n 0 1 1 true 1) ⟨n + 1,mp m n (.bs (Ac [UInt8.ofNat a]) e .exact)⟩=P):O.bs e 1 1 [.n .u8 a] ⟨n,m⟩ k=P:=by
 subst hO
 show (ofQ [.n .u8 a] e .exact fun o=>nM ⟨n,m⟩ o fun b σ=>k (.sl b 0 1 1 true 1) σ)=P
 have e2:βO (.ints .u8 [Int.ofNat a] e .exact)=.bs (Ac [UInt8.ofNat a]) e .exact:=by
  have:G6 [Int.ofNat a]=some (Ac [UInt8.ofNat a]):=by
   simp only [G6,Nat.blt_eq,ha,cond_true,Option.map_some,Ac,show Nat.blt a 256=true by rw [Nat.blt_eq];exact ha,show (UInt8.ofNat a).toNat=a by rw [UInt8.toNat_ofNat'];omega]
  simp only [βO,this]
 show (fO (βO (.ints .u8 [Int.ofNat a] e .exact)) fun o=>nM ⟨n,m⟩ o fun b σ=>k (.sl b 0 1 1 true 1) σ)=P
 rw [e2,D6,Bg hn];exact h
theorem bs2 {a b:Nat} {e:TypeId} (ha:a < 256) (hb:b < 256) (hn:n < 1000000) (h:k (.sl n 0 2 2 true 1) ⟨n + 1,mp m n (.bs (Ac [UInt8.ofNat a,UInt8.ofNat b]) e .exact)⟩=P):O.bs e 1 2 [.n .u8 a,.n .u8 b] ⟨n,m⟩ k=P:=by
 subst hO
 show (ofQ [.n .u8 a,.n .u8 b] e .exact fun o=>nM ⟨n,m⟩ o fun b σ=>k (.sl b 0 2 2 true 1) σ)=P
 have e2:βO (.ints .u8 [Int.ofNat a,Int.ofNat b] e .exact)=.bs (Ac [UInt8.ofNat a,UInt8.ofNat b]) e .exact:=by
  have:G6 [Int.ofNat a,Int.ofNat b]=some (Ac [UInt8.ofNat a,UInt8.ofNat b]):=by
   simp only [G6,cond_true,Option.map_some,Ac,show Nat.blt a 256=true by rw [Nat.blt_eq];exact ha,show Nat.blt b 256=true by rw [Nat.blt_eq];exact hb,show (UInt8.ofNat a).toNat=a by rw [UInt8.toNat_ofNat'];omega,show (UInt8.ofNat b).toNat=b by rw [UInt8.toNat_ofNat'];omega]
  simp only [βO,this]
 show (fO (βO (.ints .u8 [Int.ofNat a,Int.ofNat b] e .exact)) fun o=>nM ⟨n,m⟩ o fun b σ=>k (.sl b 0 2 2 true 1) σ)=P
 rw [e2,D6,Bg hn];exact h
end
end Go.Proofs.YtfdfdagbeeeomaaDoor.V2.S
namespace Go.Proofs.YtfdfdagbeeeomaaDoor.V2.S
open Go
theorem nm0 {b:Nat}:∀ x ∈ ([]:List Nat),b ≠ x:=fun _ h=>absurd h List.not_mem_nil
theorem nm1 {b x:Nat} (h:b ≠ x):∀ y ∈ [x],b ≠ y:=fun y hy=>by rw [List.mem_singleton.1 hy];exact h
theorem or0 {ys:List Nat} {n:Nat}:∀ x ∈ ([]:List Nat),x ∈ ys ∨ n ≤ x:=fun _ h=>absurd h List.not_mem_nil
theorem or1 {ys:List Nat} {n a:Nat} (h:a ∈ ys ∨ n ≤ a):∀ x ∈ [a],x ∈ ys ∨ n ≤ x:=fun y hy=>by rw [List.mem_singleton.1 hy];exact h
theorem or2 {ys:List Nat} {n a b:Nat} (h:a ∈ ys ∨ n ≤ a) (g:b ∈ ys ∨ n ≤ b):∀ x ∈ [a,b],x ∈ ys ∨ n ≤ x:=fun y hy=>by
 rcases List.mem_cons.1 hy with rfl | hy
 ·exact h
 ·rw [List.mem_singleton.1 hy];exact g
theorem Kq.dnP {xs:List Nat} {n k:Nat} {a b:T FObj} (h:Kp k a b) (hn:n ≤ k):Kq xs n a b:=fun x o hx _ ha=>h x o (by omega) ha
theorem Kq.sb {xs ys:List Nat} {n k:Nat} {a b:T FObj} (h:Kq xs k a b) (hn:n ≤ k) (hs:∀ x ∈ xs,x ∈ ys ∨ n ≤ x):Kq ys n a b:=fun x o hx hx2 ha=>h x o (by omega) (fun y hy e=>by
 rcases hs y hy with h1 | h1
 ·exact hx2 y h1 e
 ·omega) ha
theorem Kq.tr {xs:List Nat} {n:Nat} {a b c:T FObj} (h:Kq xs n a b) (g:Kq xs n b c):Kq xs n a c:=fun x o hx hn ha=>g x o hx hn (h x o hx hn ha)
/-! The same,with order found by itself. -/
theorem fe {x:Nat} {f:Nat → FR} {P:FR} (h:f x=P):fN x f=P:=(Aj _ _).trans h
theorem asm {m:T FObj} {b:Nat} {o:FObj} (h:b < 1000000:=by omega):Am (mp m b o) b o:=am_same h
theorem an {m:T FObj} {b c:Nat} {o p:FObj} (ha:Am m b p) (h:c < 1000000:=by omega) (hne:b ≠ c:=by omega):Am (mp m c o) b p:=Ir h hne ha
theorem ka {n:Nat} {m m':T FObj} {b:Nat} {o:FObj} (h:Kp n m m') (ha:Am m b o) (hb:b < n:=by omega):Am m' b o:=h b o hb ha
theorem Kq.a0 {n:Nat} {m m':T FObj} {b:Nat} {o:FObj} (h:Kq [] n m m') (ha:Am m b o) (hb:b < n:=by omega):Am m' b o:=h.am hb nm0 ha
theorem Kq.a1 {n x:Nat} {m m':T FObj} {b:Nat} {o:FObj} (h:Kq [x] n m m') (ha:Am m b o) (hb:b < n:=by omega) (hx:b ≠ x:=by omega):Am m' b o:=h.am hb (nm1 hx) ha
theorem kr {xs:List Nat} {n:Nat} {m:T FObj}:Kq xs n m m:=Kq.refl _ _ _
theorem Kq.ml {xs:List Nat} {n c:Nat} {a b:T FObj} {o:FObj} (h:Kq xs n a b) (hn:n ≤ c:=by omega) (hc:c < 1000000:=by omega):Kq xs n a (V2.mp b c o):=h.mp (.inl hn) hc
theorem Kq.mr {xs:List Nat} {n c:Nat} {a b:T FObj} {o:FObj} (h:Kq (c :: xs) n a b) (hc:c < 1000000:=by omega):Kq (c :: xs) n a (V2.mp b c o):=h.mp (.inr List.mem_cons_self) hc
theorem Kq.s0 {ys:List Nat} {n k:Nat} {a b:T FObj} (h:Kq [] k a b) (hn:n ≤ k:=by omega):Kq ys n a b:=h.sb hn or0
theorem Kq.s1 {ys:List Nat} {n k c:Nat} {a b:T FObj} (h:Kq [c] k a b) (hn:n ≤ k:=by omega):Kq (c :: ys) n a b:=h.sb hn (or1 (.inl List.mem_cons_self))
theorem Kq.s3 {ys:List Nat} {n k c d:Nat} {a b:T FObj} (h:Kq [c] k a b) (hn:n ≤ k:=by omega):Kq (d :: c :: ys) n a b:=h.sb hn (or1 (.inl (List.mem_cons_of_mem _ List.mem_cons_self)))
theorem Kq.s2 {ys:List Nat} {n k c:Nat} {a b:T FObj} (h:Kq [c] k a b) (hn:n ≤ k:=by omega) (hc:n ≤ c:=by omega):Kq ys n a b:=h.sb hn (or1 (.inr hc))
theorem Kq.s4 {ys:List Nat} {n k c d:Nat} {a b:T FObj} (h:Kq [c,d] k a b) (hn:n ≤ k:=by omega):Kq (c :: d :: ys) n a b:=h.sb hn (or2 (.inl List.mem_cons_self) (.inl (List.mem_cons_of_mem _ List.mem_cons_self)))
theorem Kq.s5 {ys:List Nat} {n k c d:Nat} {a b:T FObj} (h:Kq [c,d] k a b) (hn:n ≤ k:=by omega) (hc:n ≤ c:=by omega) (hd:n ≤ d:=by omega):Kq ys n a b:=h.sb hn (or2 (.inr hc) (.inr hd))
theorem Kq.dp {xs:List Nat} {n k:Nat} {a b:T FObj} (h:Kp k a b) (hn:n ≤ k:=by omega):Kq xs n a b:=Kq.dnP h hn
theorem Kq.tp {xs:List Nat} {n k:Nat} {a b c:T FObj} (h:Kq xs n a b) (g:Kp k b c) (hn:n ≤ k:=by omega):Kq xs n a c:=h.transP g hn
end Go.Proofs.YtfdfdagbeeeomaaDoor.V2.S
namespace Go.Proofs.YtfdfdagbeeeomaaDoor.V2.S
open Go
set_option maxRecDepth 100000
set_option linter.unusedVariables false
def D2 (a:Nat):Bs:=[UInt8.ofNat (a / 256 % 256),UInt8.ofNat (a % 256)]
def Ak (a:Nat):Bs:=D2 (a / 65536 % 65536) ++ D2 (a % 65536)
def Ae (a:Nat):Bs:=Ak (a / 4294967296 % 4294967296) ++ Ak (a % 4294967296)
def D3 (s:Bs):Bs:=D2 s.length ++ s
def beV (l:Bs):Nat:=l.foldl (fun n c=>n * 256 + c.toNat) 0
theorem Bc (a:Nat):(D2 a).length=2:=rfl
theorem Ai (a:Nat):(Ak a).length=4:=rfl
theorem Ad (a:Nat):(Ae a).length=8:=rfl
theorem Bj (s:Bs):(D3 s).length=2 + s.length:=by unfold D3;rw [List.length_append];rfl
theorem foldBe (l:Bs):∀ n:Nat,l.foldl (fun n c=>n * 256 + c.toNat) n=n * 256 ^ l.length + beV l:=by
 unfold beV
 induction l with
 | nil=>intro n;simp
 | cons b l ih =>
  intro n
  rw [List.foldl_cons,ih,List.foldl_cons,ih (0 * 256 + b.toNat),List.length_cons,Nat.pow_succ,Nat.zero_mul,Nat.zero_add,Nat.add_mul,Nat.mul_assoc,Nat.mul_comm 256,Nat.add_assoc]
theorem beV_app (a b:Bs):beV (a ++ b)=beV a * 256 ^ b.length + beV b:=by
 show (a ++ b).foldl _ 0=_
 rw [List.foldl_append,foldBe b];rfl
theorem beV_one (a:Nat) (h:a < 256):beV [UInt8.ofNat a]=a:=by
 show 0 * 256 + (UInt8.ofNat a).toNat=a
 rw [UInt8.toNat_ofNat'];omega
theorem beV_two (a:Nat) (h:a < 65536):beV (D2 a)=a:=by
 show (0 * 256 + (UInt8.ofNat (a / 256 % 256)).toNat) * 256 + (UInt8.ofNat (a % 256)).toNat=a
 rw [UInt8.toNat_ofNat',UInt8.toNat_ofNat'];omega
theorem beV_four (a:Nat) (h:a < 4294967296):beV (Ak a)=a:=by
 unfold Ak
 rw [beV_app,beV_two _ (by omega),beV_two _ (by omega),Bc];omega
theorem beV_eight (a:Nat) (h:a < 18446744073709551616):beV (Ae a)=a:=by
 unfold Ae
 rw [beV_app,beV_four _ (by omega),beV_four _ (by omega),Ai];omega
theorem beV_lt (l:Bs):beV l < 256 ^ l.length:=by
 induction l with
 | nil=>decide
 | cons b l ih =>
  have:=beV_app [b] l
  have hb:=b.toNat_lt
  rw [show [b] ++ l=b :: l from rfl,show beV [b]=b.toNat by show 0 * 256 + b.toNat=_;omega] at this
  rw [this,List.length_cons,Nat.pow_succ]
  have h2:b.toNat * 256 ^ l.length + 256 ^ l.length ≤ 256 ^ l.length * 256:=by
   have h3:(b.toNat + 1) * 256 ^ l.length ≤ 256 * 256 ^ l.length:=Nat.mul_le_mul_right _ (by omega)
   rw [Nat.add_mul,Nat.one_mul] at h3;rw [Nat.mul_comm _ 256];exact h3
  omega
theorem beV_take_succ {l:Bs} {i:Nat} (h:i < l.length):beV (l.take (i + 1))=beV (l.take i) * 256 + bt l i:=by
 rw [List.take_add_one,beV_app,List.getElem?_eq_getElem h]
 show _ * 256 ^ 1 + beV [l[i]]=_
 rw [Nat.pow_one]
 congr 1
 unfold bt
 rw [List.getD_eq_getElem?_getD,List.getElem?_eq_getElem h]
 show 0 * 256 + l[i].toNat=_
 rw [Nat.zero_mul,Nat.zero_add];rfl
theorem tk0 {l:Bs} {L:Nat} (h:L=l.length):(l.drop 0).take L=l:=by rw [List.drop_zero,h,List.take_length]
theorem bt_le (l:Bs) (i:Nat):bt l i ≤ 255:=by have:=bt_lt l i;omega
theorem toldB_ne (s:Bs):D3 s ≠ []:=by unfold D3 D2;simp
theorem twoB_ne (a:Nat):D2 a ≠ []:=by unfold D2;simp
theorem K8 (a:Nat):Ak a ≠ []:=by unfold Ak D2;simp
theorem Ef (a:Nat):Ae a ≠ []:=by unfold Ae Ak D2;simp
end Go.Proofs.YtfdfdagbeeeomaaDoor.V2.S
namespace Go.Proofs.YtfdfdagbeeeomaaDoor.V2.S
open Go
set_option maxRecDepth 100000
set_option linter.unusedVariables false
theorem baCx {n:Nat} {m:T FObj} {b o L Kk N z:Nat} {s:List FV} {e el:TypeId} {tl:Tl} (ha:Am m b (.cells s el tl)) (hN:Kk < N) (f:FH → FR):baQ e N (.sl b o L Kk true z) ⟨n,m⟩ f=f ⟨n,m⟩:=by
 show (gM ⟨n,m⟩ b fun ob=>FObj.rec (motive:=fun _=>FR) .bad (fun _ el t=>Bool.rec (gT (Nat.beq el e) (gW t (pM ⟨n,m⟩ b .dead f))) (Bool.rec (gT (Nat.beq el e) (gW t (pM ⟨n,m⟩ b .dead f))) (f ⟨n,m⟩) (Nat.ble (Nat.succ Kk) N)) true) (fun _ el t=>Bool.rec (gT (Nat.beq el e) (gW t (pM ⟨n,m⟩ b .dead f))) (Bool.rec (gT (Nat.beq el e) (gW t (pM ⟨n,m⟩ b .dead f))) (f ⟨n,m⟩) (Nat.ble (Nat.succ Kk) N)) true) (fun _ _ el t=>Bool.rec (gT (Nat.beq el e) (gW t (pM ⟨n,m⟩ b .dead f))) (Bool.rec (gT (Nat.beq el e) (gW t (pM ⟨n,m⟩ b .dead f))) (f ⟨n,m⟩) (Nat.ble (Nat.succ Kk) N)) true) (fun _=>.bad) .bad ob)=_
 rw [Eu ha]
 show (Bool.rec (gT (Nat.beq el e) (gW tl (pM ⟨n,m⟩ b .dead f))) (f ⟨n,m⟩) (Nat.ble (Nat.succ Kk) N):FR)=_
 rw [A4 hN]
section
variable {O:Oz} (hO:O=zO) {P:FR} {c:FV → FR} {k:KV} {n:Nat} {m:T FObj}
include hO
theorem hrK {K:IntKind} {a s:Nat} (hs:Nat.ble s (Hy K)=true) (hc:c (.n K (a / 2 ^ s))=P):O.hr (.n K a) (.n .u64 s) c=P:=by
 subst hO
 show (Bool.rec (gI .shr K (Int.ofNat a) (Int.ofNat s) c) (fN (Nat.shiftRight a s) fun r=>c (.n K r)) (Nat.ble s (Hy K)):FR)=P
 rw [hs,Aj,show Nat.shiftRight a s=a / 2 ^ s from Nat.shiftRight_eq_div_pow a s]
 exact hc
theorem cvM {j K:IntKind} {a w:Nat} (hl:lim j=w) (hw:∀ x:Int,wr j x=x % ((w + 1:Nat):Int)) (hk:∀ x:Nat,Nat.ble x w=true → vI j (Int.ofNat x) c=c (.n j x)) (hc:c (.n j (a % (w + 1)))=P):O.cv j (.n K a) c=P:=by
 subst hO
 show (fN a fun m=>Bool.rec (sW j (Int.ofNat m) c) (c (.n j m)) (Nat.ble m (lim j)):FR)=P
 rw [Aj,hl]
 by_cases h:a ≤ w
 ·rw [show Nat.ble a w=true from A4 h]
  rw [Nat.mod_eq_of_lt (by omega)] at hc;exact hc
 ·rw [show Nat.ble a w=false from ble_f (by omega)]
  show vI j (wr j (Int.ofNat a)) c=P
  rw [hw,show (Int.ofNat a) % ((w + 1:Nat):Int)=Int.ofNat (a % (w + 1)) from (Int.natCast_emod a (w + 1)).symm,hk _ (A4 (by have:=Nat.mod_lt a (show 0 < w + 1 by omega);omega))]
  exact hc
theorem cv8 {K:IntKind} {a:Nat} (hc:c (.n .u8 (a % 256))=P):O.cv .u8 (.n K a) c=P:=cvM hO (w:=255) rfl (fun _=>rfl) (fun x h=>by show (fN x fun m=>c (.n .u8 m))=_;rw [Aj]) hc
theorem cv16 {K:IntKind} {a:Nat} (hc:c (.n .u16 (a % 65536))=P):O.cv .u16 (.n K a) c=P:=cvM hO (w:=65535) rfl (fun _=>rfl) (fun x h=>by show (fN x fun m=>c (.n .u16 m))=_;rw [Aj]) hc
theorem cv32 {K:IntKind} {a:Nat} (hc:c (.n .u32 (a % 4294967296))=P):O.cv .u32 (.n K a) c=P:=cvM hO (w:=4294967295) rfl (fun _=>rfl) (fun x h=>by show (fN x fun m=>c (.n .u32 m))=_;rw [Aj]) hc
theorem cv64 {K:IntKind} {a:Nat} (hc:c (.n .u64 (a % 18446744073709551616))=P):O.cv .u64 (.n K a) c=P:=cvM hO (w:=18446744073709551615) rfl (fun _=>rfl) (fun x h=>by show (fN x fun m=>c (.n .u64 m))=_;rw [Aj]) hc
theorem apSN {e:TypeId} {b o L Kk:Nat} {x:Bool} (h:k (.sl b o L Kk x 1) ⟨n,m⟩=P):O.ap e false 1 (.sl b o L Kk x 1) (.o .sl) ⟨n,m⟩ k=P:=by subst hO;exact h
theorem apNN {e:TypeId} (h:k (.o .sl) ⟨n,m⟩=P):O.ap e false 1 (.o .sl) (.o .sl) ⟨n,m⟩ k=P:=by subst hO;exact h
theorem bs0 {e:TypeId} (hn:n < 1000000) (h:k (.sl n 0 0 0 true 1) ⟨n + 1,mp m n (.cells [] e .exact)⟩=P):O.bs e 1 0 [] ⟨n,m⟩ k=P:=by
 subst hO
 show (nM ⟨n,m⟩ (.cells [] e .exact) fun b σ=>k (.sl b 0 0 0 true 1) σ)=P
 rw [Bg hn];exact h
theorem apZB {e el el':TypeId} {tl tl':Tl} {l':Bs} {b b' o' L' K':Nat} {x':Bool} (ha:Am m b (.cells [] el tl)) (ha':Am m b' (.bs (Ac l') el' tl')) (hl':o' + L' ≤ l'.length) (hp:0 < L') (hb:L' ≤ 1000000000000) (hn:n < 1000000)
  (h:k (.sl n 0 L' L' false 1) ⟨n + 1,mp m n (.bs (Ac ((l'.drop o').take L')) e .more)⟩=P):O.ap e false 1 (.sl b 0 0 0 true 1) (.sl b' o' L' K' x' 1) ⟨n,m⟩ k=P:=by
 subst hO
 obtain ⟨q,rfl⟩:∃ q,L'=q + 1:=⟨L' - 1,by omega⟩
 show J2 1 ⟨n,m⟩ b' o' (q + 1) 1 (fun mm R2=>apR e 1 (.sl b 0 0 0 true 1) mm R2 ⟨n,m⟩ k)=P
 rw [rowSb ha' hl']
 refine apR_ ?_
 rw [rowQs,rowSc ha (by show 0 + 0 * 1 ≤ 0;omega) (fun _=>rfl),Aj,show Nat.add 0 (Nat.succ q)=q + 1 by show 0 + (q + 1)=q + 1;omega,gTt (A4 hb)]
 rw [baCx ha (by omega)]
 show (nM ⟨n,m⟩ (.bs (Ac ((l'.drop o').take (q + 1))) e .more) fun b σ=>k (.sl b 0 (q + 1) (q + 1) false 1) σ)=P
 rw [Bg hn];exact h
theorem hl64 {a:Nat} (ha:a < 72057594037927936) (hc:c (.n .u64 (a * 256))=P):O.hl (.n .u64 a) (.n .u64 8) c=P:=by
 subst hO
 show (Bool.rec (gI .shl .u64 (Int.ofNat a) (Int.ofNat 8) c) (wN .u64 (Nat.shiftLeft a 8) c) (Nat.ble 8 (Hy .u64)):FR)=P
 rw [show Nat.ble 8 (Hy .u64)=true from rfl,show Nat.shiftLeft a 8=a * 256 from Nat.shiftLeft_eq a 8]
 show (fN (a * 256) fun m=>Bool.rec (sW .u64 (Int.ofNat m) c) (c (.n .u64 m)) (Nat.ble m (lim .u64)):FR)=P
 rw [Aj,show Nat.ble (a * 256) (lim .u64)=true from A4 (show a * 256 ≤ 18446744073709551615 by omega)];exact hc
theorem ro64 {a b:Nat} (ha:a < 72057594037927936) (hb:b ≤ 255) (hc:c (.n .u64 (a * 256 + b))=P):O.ro (.n .u64 (a * 256)) (.n .u64 b) c=P:=by
 subst hO
 show gK .u64 .u64 (Bool.rec (gI .or .u64 (Int.ofNat (a * 256)) (Int.ofNat b) c) (Bool.rec (gI .or .u64 (Int.ofNat (a * 256)) (Int.ofNat b) c) (fN (Nat.lor (a * 256) b) fun r=>c (.n .u64 r)) (Nat.ble b (lim .u64))) (Nat.ble (a * 256) (lim .u64)):FR)=P
 rw [show Nat.ble (a * 256) (lim .u64)=true from A4 (show a * 256 ≤ 18446744073709551615 by omega),show Nat.ble b (lim .u64)=true from A4 (show b ≤ 18446744073709551615 by omega)]
 have e:Nat.lor (a * 256) b=a * 256 + b:=by
  have:=(Nat.shiftLeft_add_eq_or_of_lt (i:=8) (b:=b) (by omega) a).symm
  rw [Nat.shiftLeft_eq] at this
  exact this
 show (fN (Nat.lor (a * 256) b) fun r=>c (.n .u64 r))=P
 rw [Aj,e];exact hc
theorem bSP {b o L Kk:Nat} {x:Bool} {l:Bs} {e:TypeId} {t:Tl} (ha:Am m b (.bs (Ac l) e t)) (hl:o + L ≤ l.length) (h:c (.s (Ac ((l.drop o).take L)))=P):O.bS (.sl b o L Kk x 1) ⟨n,m⟩ c=P:=by
 subst hO
 show (L4 false 1 ⟨n,m⟩ (.sl b o L Kk x 1) fun _ R=>kR (fun s=>c (.s s)) (fun l=>List.rec (motive:=fun _=>FR) (c (.s 1)) (fun _ _ _=>.bad) l) (fun _ _=>slV (Bn std (αH ⟨n,m⟩) .sl2str [αV (.sl b o L Kk x 1)]) c) R)=P
 rw [rowQs,rowSb ha hl];exact h
end
def RetN (C N:Nat) (H:HF) (args:List FV) (n:Nat) (m:T FObj) (Q:FV → Nat → T FObj → Prop):Prop:=∀ (k:KV) (P:FR),n + C ≤ 1000000 → (∀ v n' m',n ≤ n' → n' ≤ n + C → Kp N m m' → Q v n' m' → k v ⟨n',m'⟩=P) → H args ⟨n,m⟩ k=P
def Sl (m:T FObj) (N:Nat) (v:FV) (x:Bs):Prop:=(v=.o .sl ∧ x=[]) ∨ ∃ b o L K fl l el tl,b < N ∧ v=.sl b o L K fl 1 ∧ Am m b (.bs (Ac l) el tl) ∧ o + L ≤ l.length ∧ L ≤ K ∧ x=(l.drop o).take L
theorem Sl.kp {m m':T FObj} {N:Nat} {v:FV} {x:Bs} (h:Sl m N v x) (k:Kp N m m'):Sl m' N v x:=by
 rcases h with h | ⟨b,o,L,K,fl,l,el,tl,h1,h2,h3,h4,h6,h5⟩
 ·exact .inl h
 ·exact .inr ⟨b,o,L,K,fl,l,el,tl,h1,h2,k _ _ h1 h3,h4,h6,h5⟩
theorem Sl.up {m:T FObj} {N N':Nat} {v:FV} {x:Bs} (h:Sl m N v x) (k:N ≤ N'):Sl m N' v x:=by
 rcases h with h | ⟨b,o,L,K,fl,l,el,tl,h1,h2,h3,h4,h6,h5⟩
 ·exact .inl h
 ·exact .inr ⟨b,o,L,K,fl,l,el,tl,by omega,h2,h3,h4,h6,h5⟩
theorem Sl.own {m:T FObj} {N b K:Nat} {x:Bs} {fl:Bool} {el:TypeId} {tl:Tl} (h:Am m b (.bs (Ac x) el tl)) (hb:b < N) (hK:x.length ≤ K):Sl m N (.sl b 0 x.length K fl 1) x:=.inr ⟨b,0,x.length,K,fl,x,el,tl,hb,rfl,h,by omega,hK,(tk0 rfl).symm⟩
theorem Sl.ownE {m:T FObj} {N b L K:Nat} {x:Bs} {fl:Bool} {el:TypeId} {tl:Tl} (h:Am m b (.bs (Ac x) el tl)) (hb:b < N) (hL:L=x.length) (hK:L ≤ K):Sl m N (.sl b 0 L K fl 1) x:=.inr ⟨b,0,L,K,fl,x,el,tl,hb,rfl,h,by omega,hK,(tk0 hL).symm⟩
theorem Sl.nil {m:T FObj} {N:Nat}:Sl m N (.o .sl) []:=.inl ⟨rfl,rfl⟩
section
variable {O:Oz} (hO:O=zO) {P:FR} {c:FV → FR} {K:IntKind} {a:Nat}
include hO
theorem hrA (hs:Nat.ble 8 (Hy K)=true) (hc:c (.n K (a / 256))=P):O.hr (.n K a) (.n .u64 8) c=P:=hrK hO hs hc
theorem hrB (hs:Nat.ble 16 (Hy K)=true) (hc:c (.n K (a / 65536))=P):O.hr (.n K a) (.n .u64 16) c=P:=hrK hO hs hc
theorem hrC (hs:Nat.ble 32 (Hy K)=true) (hc:c (.n K (a / 4294967296))=P):O.hr (.n K a) (.n .u64 32) c=P:=hrK hO hs hc
end
def WrA (m:T FObj) (N wb:Nat) (bs:Bs):Prop:=wb < N ∧ ∃ v,Am m wb (.cells [v,.n .i64 0] 81 .exact) ∧ ((bs=[] ∧ v=.o .sl) ∨ ∃ Db,wb < Db ∧ Db < N ∧ v=.sl Db 0 bs.length bs.length false 1 ∧ Am m Db (.bs (Ac bs) 5 .more) ∧ bs ≠ [])
theorem WrA.mk {m:T FObj} {N wb Db L:Nat} {y z:Bs} (hw:wb < N) (h1:Am m wb (.cells [.sl Db 0 L L false 1,.n .i64 0] 81 .exact)) (h2:Am m Db (.bs (Ac y) 5 .more)) (h3:wb < Db) (h4:Db < N) (hy:y=z) (hL:L=z.length) (hz:z ≠ []):WrA m N wb z:=by
 subst hy hL
 exact ⟨hw,_,h1,.inr ⟨Db,h3,h4,rfl,h2,hz⟩⟩
theorem WrA.new {m:T FObj} {N wb:Nat} (hw:wb < N) (h1:Am m wb (.cells [.o .sl,.n .i64 0] 81 .exact)):WrA m N wb []:=⟨hw,_,h1,.inl ⟨rfl,rfl⟩⟩
theorem WrA.kp {m m':T FObj} {N wb:Nat} {bs:Bs} (h:WrA m N wb bs) (k:Kp N m m'):WrA m' N wb bs:=by
 obtain ⟨h1,v,h2,h3⟩:=h
 refine ⟨h1,v,k _ _ h1 h2,?_⟩
 rcases h3 with h3 | ⟨Db,g1,g2,g3,g4,g5⟩
 ·exact .inl h3
 ·exact .inr ⟨Db,g1,g2,g3,k _ _ g2 g4,g5⟩
theorem WrA.up {m:T FObj} {N N' wb:Nat} {bs:Bs} (h:WrA m N wb bs) (k:N ≤ N'):WrA m N' wb bs:=by
 obtain ⟨h1,v,h2,h3⟩:=h
 refine ⟨by omega,v,h2,?_⟩
 rcases h3 with h3 | ⟨Db,g1,g2,g3,g4,g5⟩
 ·exact .inl h3
 ·exact .inr ⟨Db,g1,by omega,g3,g4,g5⟩
theorem WrA.to {m:T FObj} {N wb:Nat} {a b:Bs} (h:WrA m N wb a) (e:a=b):WrA m N wb b:=e ▸ h
theorem Hn {l:Bs} {o L:Nat} (h:o + L ≤ l.length):((l.drop o).take L).length=L:=by rw [List.length_take,List.length_drop];omega
theorem Sl.kq {m m':T FObj} {N rb n:Nat} {v:FV} {x:Bs} {l:List FV} {e:TypeId} {t:Tl} (h:Sl m N v x) (hr:Am m rb (.cells l e t)) (k:Kq [rb] n m m') (hN:N ≤ n):Sl m' N v x:=by
 rcases h with h | ⟨b,o,L,K,fl,l,el,tl,h1,h2,h3,h4,h6,h5⟩
 ·exact .inl h
 ·refine .inr ⟨b,o,L,K,fl,l,el,tl,h1,h2,k _ _ (by omega) (fun y hy=>?_) h3,h4,h6,h5⟩
  rw [List.mem_singleton.1 hy]
  rintro rfl
  unfold Am at h3 hr
  rw [h3] at hr;cases hr
def Cp (m:T FObj) (n n':Nat) (r:FV) (x:Bs):Prop:=(x=[] ∧ r=.o .sl) ∨ ∃ b,r=.sl b 0 x.length x.length false 1 ∧ n ≤ b ∧ b < n' ∧ Am m b (.bs (Ac x) 5 .more) ∧ x ≠ []
theorem Cp.ne {m:T FObj} {n n':Nat} {r:FV} {x:Bs} (h:Cp m n n' r x) (hx:x ≠ []):∃ b,r=.sl b 0 x.length x.length false 1 ∧ n ≤ b ∧ b < n' ∧ Am m b (.bs (Ac x) 5 .more):=by
 rcases h with ⟨h,_⟩ | ⟨b,h0,h1,h2,h3,h4⟩
 ·exact absurd h hx
 ·exact ⟨b,h0,h1,h2,h3⟩
def RdB (m:T FObj) (N rb:Nat) (x:Bs):Prop:=rb < N ∧ ∃ v,Am m rb (.cells [v,.b false] 116 .exact) ∧ Sl m N v x
theorem RdB.kp {m m':T FObj} {N rb:Nat} {x:Bs} (h:RdB m N rb x) (k:Kp N m m'):RdB m' N rb x:=by
 obtain ⟨h1,v,h2,h3⟩:=h
 exact ⟨h1,v,k _ _ h1 h2,h3.kp k⟩
theorem RdB.up {m:T FObj} {N N' rb:Nat} {x:Bs} (h:RdB m N rb x) (k:N ≤ N'):RdB m N' rb x:=by
 obtain ⟨h1,v,h2,h3⟩:=h
 exact ⟨by omega,v,h2,h3.up k⟩
theorem RdB.to {m:T FObj} {N rb:Nat} {a b:Bs} (h:RdB m N rb a) (e:a=b):RdB m N rb b:=e ▸ h
theorem beV_56 (p:Bs) {i:Nat} (h:i ≤ 7):beV (p.take i) < 72057594037927936:=by
 have h1:=beV_lt (p.take i)
 have h2:256 ^ (p.take i).length ≤ 256 ^ 7:=Nat.pow_le_pow_right (by omega) (by rw [List.length_take];omega)
 have h3:(256:Nat) ^ 7=72057594037927936:=by decide
 omega
section
variable {O:Oz} (hO:O=zO) {P:FR} {c:FV → FR} {K:IntKind} {a:Nat}
include hO
theorem cvU {j:IntKind} {w:Nat} (h:a ≤ w) (hl:lim j=w) (hc:c (.n j a)=P):O.cv j (.n K a) c=P:=by
 subst hO
 show (fN a fun m=>Bool.rec (sW j (Int.ofNat m) c) (c (.n j m)) (Nat.ble m (lim j)):FR)=P
 rw [Aj,hl,show Nat.ble a w=true from A4 h];exact hc
end
def Nm (o:FObj):Prop:=∀ c e,o ≠ .bs c e .more
def Kx (wb n:Nat) (m m':T FObj):Prop:=∀ b o,b < n → b ≠ wb → Nm o → Am m b o → Am m' b o
theorem Kx.refl (wb n:Nat) (m:T FObj):Kx wb n m m:=fun _ _ _ _ _ h=>h
theorem Kx.mpN {wb n c:Nat} {a b:T FObj} {o:FObj} (h:Kx wb n a b) (hn:n ≤ c ∨ c=wb) (hc:c < 1000000):Kx wb n a (mp b c o):=fun x p hx hw hm ha=>Ir hc (by omega) (h x p hx hw hm ha)
theorem Kx.mpD {wb n c s:Nat} {e:TypeId} {a b:T FObj} {o:FObj} (h:Kx wb n a b) (hD:Am a c (.bs s e .more)) (hc:c < 1000000):Kx wb n a (mp b c o):=fun x p hx hw hm ha=>Ir hc (by
 rintro rfl
 unfold Am at ha hD
 rw [hD] at ha
 exact hm _ _ (Option.some.inj ha).symm) (h x p hx hw hm ha)
theorem Kx.trans {wb n n':Nat} {a b c:T FObj} (h:Kx wb n a b) (g:Kx wb n' b c) (hn:n ≤ n'):Kx wb n a c:=fun x p hx hw hm ha=>g x p (by omega) hw hm (h x p hx hw hm ha)
end Go.Proofs.YtfdfdagbeeeomaaDoor.V2.S
namespace Go.Proofs.YtfdfdagbeeeomaaDoor.V2.S
open Go
set_option linter.unusedVariables false
noncomputable section
def zF67:List FV:=[.n .u32 0,.n .u32 0,.n .u32 0] ++ List.replicate 64 (.n .u8 0)
def zA67:List AV:=[.int .u32 0,.int .u32 0,.int .u32 0] ++ List.replicate 64 (.int .u8 0)
def Jc:List FV:=[.o .sl,.b false,.n .u32 0,.o .sl] ++ List.replicate 64 (.n .u8 0)
def zA68:List AV:=[.nilsl,.bool false,.int .u32 0,.nilsl] ++ List.replicate 64 (.int .u8 0)
def zF32:List FV:=List.replicate 32 (.n .u8 0)
def zA32:List AV:=List.replicate 32 (.int .u8 0)
theorem qz {n:Nat} {f:Func} (nt np:Nat) (kp:List Nat) {q:Phi → HF} (h:Tryd.prog.funcs[n]?=some f) (hb:okZ f=true) (hq:thrF 1000000 (drOf nt kp) np (eZ f)=q) (hf:Nat.blt n 1048576=true:=by rfl):QeOk ⟨n,eZ f,q⟩:=qe_of (nt:=nt) (np:=np) (kp:=kp) (eokZ h hb) hq hf
def vC (r:Rd):Rs:=v1 r
def p3 (O:Oz):Phi → HF:=fnQ (An fun v1=>(An fun v2=>(An fun v3=>(A1 (cWr X6 (.b false) (Aa (Ab 5 []) fun v4=>(Aa (o1 (exG 0) (rdV v4)) fun v5=>(Aa (o1 (exG 1) (rdV v4)) fun v6=>(Aa (o2 (F5 false .ptr) (rdV v5) (rdV (.o .ptr))) fun v7=>(As (Ap (rdV v7) (cWr X6 (.b false) Ao) Ah) (Aa (o2 O.rm (rdV v1) (rdV (.n .u8 8))) fun v8=>(Aa (o1 (O.cv .i64) (rdV v8)) fun v9=>(Aa (o2 O.ad (rdV (.n .i64 1)) (rdV v9)) fun v10=>(cWr X10 (.o .sl) (Aa (o2 O.ad (rdV v10) (rdV (.n .i64 1))) fun v11=>(cWr X39 (.n .i64 0) (As (Ds 0 (O.lp 1000000 (Aa (o2 O.lt R39 (rdV v11)) fun v12=>(As (Ap (rdV v12) Ah (Hx 0)) (As (Ds 1 (Aa (oV R39) fun v13=>(Aa (o1 (O.cv .u64) (rdV v13)) fun v14=>(Aa (o2 O.ad (rdV v3) (rdV v14)) fun v15=>(Aa (nL (O.bu [.n .u32 0,.o .sl] [(.int .u32 0),.nilsl] [(0,1)]) [(rdV (.n .u32 1))]) fun v16=>(Aa (Ab 6 [(rdV v5),(rdV v15),(rdV v16)]) fun v17=>(Aa (o1 (exG 0) (rdV v17)) fun v18=>(Aa (o1 (exG 1) (rdV v17)) fun v19=>(Aa (o2 O.ne (rdV v19) (rdV (.n .i64 0))) fun v20=>(As (Ap (rdV v20) (cWr X6 (.b false) Ao) Ah) (Aa (oV R10) fun v21=>(Aa (nL (O.bs 28 1 1) [(rdV v18)]) fun v22=>(Aa (n2 (O.ap 28 false 1) (rdV v21) (rdV v22)) fun v23=>(cWr X10 v23 (Aa (o2 O.eq (rdV v13) (rdV v10)) fun v24=>(As (Ap (rdV v24) (Hx 0) Ah) (Aa (Ab 7 [(rdV v6),(rdV v18),(rdV v3),(rdV (.n .u32 0))]) fun v25=>(Aa (o1 (exG 0) (rdV v25)) fun v26=>(Aa (o1 (exG 1) (rdV v25)) fun v27=>(Aa (n0Z O.al (.cells Jc 39 .exact)) fun v28=>(cDo (n2 (O.st 68) (rdV v28) (rdV v26)) (Aa (o1 (O.fa 0) (rdV v28)) fun v29=>(Aa (m1 O.ld (rdV v29)) fun v30=>(Aa (Ab 8 [(rdV v5),(rdV v30)]) fun v31=>(Aa (o1 (exG 0) (rdV v31)) fun v32=>(Aa (o1 (exG 1) (rdV v31)) fun v33=>(Aa (n0Z O.al (.cells zF67 43 .exact)) fun v34=>(cDo (n2 (O.st 67) (rdV v34) (rdV v32)) (Aa (o2 O.ne (rdV v27) (rdV (.n .i64 0))) fun v35=>(Aa (oG false (rdV v35) (oV (rdV v33))) fun v36=>(Aa (oG false (rdV v35) (o2 O.ne (rdV v36) (rdV (.n .i64 0)))) fun v37=>(Aa (o3 pkF (rdV v35) (rdV (.b true)) (rdV v37)) fun v38=>(Aa (oG false (rdV v38) (o1 (O.fa 1) (rdV v34))) fun v39=>(Aa (oG false (rdV v38) (m1 O.ld (rdV v39))) fun v40=>(Aa (oG false (rdV v38) (o1 (O.cv .i64) (rdV v40))) fun v41=>(Aa (oG false (rdV v38) (oV (rdV v13))) fun v42=>(Aa (oG false (rdV v38) (o2 O.ad (rdV v42) (rdV (.n .i64 1)))) fun v43=>(Aa (oG false (rdV v38) (o2 O.ne (rdV v41) (rdV v43))) fun v44=>(Aa (o3 pkF (rdV v38) (rdV (.b true)) (rdV v44)) fun v45=>(As (Ap (rdV v45) (cWr X6 (.b false) Ao) Ah) Ah)))))))))))))))))))))))))))))))))))))))) (Aa (o2 O.ad R39 (rdV (.n .i64 1))) fun v46=>(cWr X39 v46 Ah))))))) (Aa (Ab 9 [(rdV v6)]) fun v47=>(Aa (o1 F3 (rdV v47)) fun v48=>(Aa (oG false (rdV v48) (oV (rdV v6))) fun v49=>(Aa (oG false (rdV v48) (Ab 9 [(rdV v49)])) fun v50=>(Aa (o3 pkF (rdV v48) (rdV (.b true)) (rdV v50)) fun v51=>(As (Ap (rdV v51) (cWr X6 (.b false) Ao) Ah) (Aa (Ab 10 [(rdV v6)]) fun v52=>(Aa (n0Z O.al (.ints .u32 [Int.ofNat 0,Int.ofNat 0,Int.ofNat 0] 48 .exact)) fun v53=>(cDo (n2 (O.st 3) (rdV v53) (rdV v52)) (Aa (oV R10) fun v54=>(Aa (o1 (O.cv .i64) (rdV v2)) fun v55=>(Aa (o2 O.rm (rdV v55) (rdV v10)) fun v56=>(Aa (o2 (O.ix 1) (rdV v54) (rdV v56)) fun v57=>(Aa (m1 O.ld (rdV v57)) fun v58=>(Aa (Ab 7 [(rdV v6),(rdV v58),(rdV v3),(rdV (.n .u32 0))]) fun v59=>(Aa (o1 (exG 0) (rdV v59)) fun v60=>(Aa (o1 (exG 1) (rdV v59)) fun v61=>(Aa (n0Z O.al (.cells Jc 39 .exact)) fun v62=>(cDo (n2 (O.st 68) (rdV v62) (rdV v60)) (Aa (o1 (O.cv .i64) (rdV v2)) fun v63=>(Aa (o2 O.rm (rdV v63) (rdV v10)) fun v64=>(Aa (o2 O.sb (rdV v10) (rdV (.n .i64 1))) fun v65=>(Aa (o2 O.eq (rdV v64) (rdV v65)) fun v66=>(Aa (o2 O.eq (rdV v61) (rdV (.n .i64 0))) fun v67=>(Aa (o2 (F5 true .bool) (rdV v66) (rdV v67)) fun v68=>(Aa (oG false (rdV v68) (oV (rdV v66))) fun v69=>(Aa (oG false (rdV v68) (o1 F3 (rdV v69))) fun v70=>(Aa (oG false (rdV v68) (oV (rdV v70))) fun v71=>(Aa (oG true (rdV v71) (oV (rdV v61))) fun v72=>(Aa (oG true (rdV v71) (o2 O.ne (rdV v72) (rdV (.n .i64 13)))) fun v73=>(Aa (oG false (rdV v68) (o3 pkF (rdV v71) (rdV v73) (rdV (.b false)))) fun v74=>(Aa (o3 pkF (rdV v68) (rdV (.b true)) (rdV v74)) fun v75=>(Aa (oG false (rdV v75) (o1 (O.fa 1) (rdV v62))) fun v76=>(Aa (oG false (rdV v75) (m1 O.ld (rdV v76))) fun v77=>(Aa (o3 pkF (rdV v75) (rdV (.b true)) (rdV v77)) fun v78=>(Aa (oG false (rdV v78) (oV (rdV v6))) fun v79=>(Aa (oG false (rdV v78) (m1 (O.ln 3) (rdV v53))) fun v80=>(Aa (oG false (rdV v78) (Ab 10 [(rdV v79)])) fun v81=>(cRz O.rc (oG false (rdV v78) (m1 (O.ln 3) (rdV v53))) v80 (Aa (oG false (rdV v78) (nL (O.pq (.eqF true [.int,.int,.int])) [(rdV v81),(rdV v80)])) fun v82=>(Aa (o3 pkF (rdV v78) (rdV (.b true)) (rdV v82)) fun v83=>(Aa (oG false (rdV v83) (o1 (O.fa 2) (rdV v53))) fun v84=>(Aa (oG false (rdV v83) (m1 O.ld (rdV v84))) fun v85=>(Aa (oG false (rdV v83) (oV (rdV v10))) fun v86=>(Aa (oG false (rdV v83) (o1 (O.cv .u32) (rdV v86))) fun v87=>(Aa (oG false (rdV v83) (o2 O.ne (rdV v85) (rdV v87))) fun v88=>(Aa (o3 pkF (rdV v83) (rdV (.b true)) (rdV v88)) fun v89=>(As (Ap (rdV v89) (cWr X6 (.b false) Ao) Ah) (Aa (o1 (O.fa 0) (rdV v62)) fun v90=>(Aa (m1 O.ld (rdV v90)) fun v91=>(Aa (Ab 8 [(rdV v5),(rdV v91)]) fun v92=>(Aa (o1 (exG 0) (rdV v92)) fun v93=>(Aa (o1 (exG 1) (rdV v92)) fun v94=>(Aa (n0Z O.al (.cells zF67 43 .exact)) fun v95=>(cDo (n2 (O.st 67) (rdV v95) (rdV v93)) (Aa (o2 O.ne (rdV v94) (rdV (.n .i64 13))) fun v96=>(As (Ap (rdV v96) (cWr X6 (.b false) Ao) Ah) (Aa (oV R10) fun v97=>(Aa (o2 (O.ix 1) (rdV v97) (rdV v10)) fun v98=>(Aa (m1 O.ld (rdV v98)) fun v99=>(Aa (Ab 7 [(rdV v6),(rdV v99),(rdV v3),(rdV (.n .u32 0))]) fun v100=>(Aa (o1 (exG 0) (rdV v100)) fun v101=>(Aa (o1 (exG 1) (rdV v100)) fun v102=>(Aa (n0Z O.al (.cells Jc 39 .exact)) fun v103=>(cDo (n2 (O.st 68) (rdV v103) (rdV v101)) (Aa (o2 O.eq (rdV v102) (rdV (.n .i64 0))) fun v104=>(Aa (oG true (rdV v104) (o1 (O.fa 1) (rdV v103))) fun v105=>(Aa (oG true (rdV v104) (m1 O.ld (rdV v105))) fun v106=>(Aa (o3 pkF (rdV v104) (rdV v106) (rdV (.b false))) fun v107=>(Aa (oG true (rdV v107) (oV (rdV v6))) fun v108=>(Aa (oG true (rdV v107) (Ab 10 [(rdV v108)])) fun v109=>(Aa (oG true (rdV v107) (o1 (f1F 1) (rdV v109))) fun v110=>(Aa (oG true (rdV v107) (oV (rdV v10))) fun v111=>(Aa (oG true (rdV v107) (o1 (O.cv .u32) (rdV v111))) fun v112=>(Aa (oG true (rdV v107) (o2 O.ad (rdV v112) (rdV (.n .u32 1)))) fun v113=>(Aa (oG true (rdV v107) (o2 O.eq (rdV v110) (rdV v113))) fun v114=>(Aa (o3 pkF (rdV v107) (rdV v114) (rdV (.b false))) fun v115=>(Aa (oG true (rdV v115) (Ab 11 [])) fun v116=>(Aa (o3 pkF (rdV v115) (rdV v116) (rdV (.b false))) fun v117=>(cWr X6 v117 Ao))))))))))))))))))))))))))))))))))))))))))))))))))))))))))))))))))))))))))))))))))))))))))))) [vT R6]))))
theorem k3:QeOk ⟨3,eZ Tryd.f3,p3 zO⟩:=qz 186 3 [6,10,39] Tryd.func3 (by kernel_rfl) (by kernel_rfl)
def p5 (O:Oz):Phi → HF:=fnQ (A1 (cWr X0 (.o .ptr) (cWr X1 (.o .ptr) (Aa (Ab 12 []) fun v1=>(Aa (nL (O.bu [.n .u32 0,.n .u32 0,.n .u64 0] [(.int .u32 0),(.int .u32 0),(.int .u64 0)] []) []) fun v2=>(Aa (Ab 20 [(rdV v1),(rdV v2)]) fun v3=>(Aa (o1 (exG 0) (rdV v3)) fun v4=>(Aa (o1 (exG 1) (rdV v3)) fun v5=>(Aa (nL (O.bu [.n .u32 0,.n .u32 0,.n .u32 0] [(.int .u32 0),(.int .u32 0),(.int .u32 0)] [(0,1)]) [(rdV (.n .u32 5))]) fun v6=>(Aa (Ab 21 [(rdV v1),(rdV v6)]) fun v7=>(Aa (o1 (exG 0) (rdV v7)) fun v8=>(Aa (o1 (exG 1) (rdV v7)) fun v9=>(Aa (o2 O.ne (rdV v5) (rdV (.n .i64 0))) fun v10=>(Aa (oG false (rdV v10) (oV (rdV v9))) fun v11=>(Aa (oG false (rdV v10) (o2 O.ne (rdV v11) (rdV (.n .i64 0)))) fun v12=>(Aa (o3 pkF (rdV v10) (rdV (.b true)) (rdV v12)) fun v13=>(As (Ap (rdV v13) (cWr X0 (.o .ptr) (cWr X1 (.o .ptr) Ao)) Ah) (cWr X0 v4 (cWr X1 v8 Ao)))))))))))))))))) [vT R0,vT R1])
theorem k5:QeOk ⟨5,eZ Tryd.f5,p5 zO⟩:=qz 28 0 [0,1] Tryd.func5 (by kernel_rfl) (by kernel_rfl)
def p6 (O:Oz):Phi → HF:=fnQ (An fun v1=>(An fun v2=>(An fun v3=>(A1 (Aa (n1 (O.bx 35) (rdV v3)) fun v4=>(cWr X6 (.o .sl) (cWr X7 (.n .i64 0) (Aa (Ab 23 [(rdV v1)]) fun v5=>(As (Ap (rdV v5) (cWr X6 (.o .sl) (cWr X7 (.n .i64 2) Ao)) Ah) (Aa (m1 (O.ln 2) (rdV v4)) fun v6=>(Aa (Ab 24 [(rdV v6)]) fun v7=>(Aa (o1 (exG 0) (rdV v7)) fun v8=>(Aa (o1 (exG 1) (rdV v7)) fun v9=>(Aa (o2 O.ne (rdV v9) (rdV (.n .i64 0))) fun v10=>(As (Ap (rdV v10) (cWr X6 (.o .sl) (cWr X7 (.n .i64 1) Ao)) Ah) (Aa (o1 ncF (rdV v1)) fun v11=>(Aa (o1 (O.fa 1) (rdV v11)) fun v12=>(Aa (o1 (O.fa 2) (rdV v12)) fun v13=>(Aa (m1 O.ld (rdV v13)) fun v14=>(cWr X10 v14 (Aa (o1 ncF (rdV v1)) fun v15=>(Aa (o1 (O.fa 1) (rdV v15)) fun v16=>(Aa (o1 (O.fa 0) (rdV v16)) fun v17=>(Aa (m1 O.ld (rdV v17)) fun v18=>(Aa (o2 O.eq (rdV v18) (rdV (.n .u32 0))) fun v19=>(As (Ap (rdV v19) (cWr X10 (.n .u64 0) Ah) Ah) (Aa (n0Z O.al (.cells [.o .sl,.n .i64 0] 81 .exact)) fun v20=>(Aa (Ab 25 [(rdV v20),(rdV v2)]) fun v21=>(Aa (oV R10) fun v22=>(Aa (Ab 25 [(rdV v21),(rdV v22)]) fun v23=>(Aa (Ab 26 [(rdV v23),(rdV v8)]) fun v24=>(Aa (Ab 27 [(rdV v24)]) fun v25=>(Aa (o1 (exG 0) (rdV v25)) fun v26=>(Aa (o1 (exG 1) (rdV v25)) fun v27=>(Aa (o1 ncF (rdV v1)) fun v28=>(Aa (o1 (O.fa 4) (rdV v28)) fun v29=>(cDo (n2 (O.st 1) (rdV v29) (rdV v2)) (Aa (o1 ncF (rdV v1)) fun v30=>(Aa (o1 (O.fa 0) (rdV v30)) fun v31=>(Aa (m1 O.ld (rdV v31)) fun v32=>(Aa (o1 ncF (rdV v1)) fun v33=>(Aa (o1 (O.fa 1) (rdV v33)) fun v34=>(Aa (o1 (O.fa 0) (rdV v34)) fun v35=>(Aa (m1 O.ld (rdV v35)) fun v36=>(Aa (o1 ncF (rdV v1)) fun v37=>(Aa (o1 (O.fa 1) (rdV v37)) fun v38=>(Aa (o1 (O.fa 1) (rdV v38)) fun v39=>(Aa (m1 O.ld (rdV v39)) fun v40=>(Aa (nL (O.bu [.n .u8 0,.n .u32 0,.n .u32 0,.n .u32 0,.n .u32 0,.n .u32 0,.o .sl] [(.int .u8 0),(.int .u32 0),(.int .u32 0),(.int .u32 0),(.int .u32 0),(.int .u32 0),.nilsl] [(0,1),(1,1),(2,1),(6,1)]) [(rdV (.n .u8 1)),(rdV v36),(rdV v40),(rdV v26)]) fun v41=>(Aa (Ab 28 [(rdV v32),(rdV v41)]) fun v42=>(Aa (o1 ncF (rdV v1)) fun v43=>(Aa (o1 (O.fa 5) (rdV v43)) fun v44=>(Aa (n2 (O.st 1) (rdV v44) (rdV v42)) fun v45=>(Aa (o1 ncF (rdV v1)) fun v46=>(Aa (o1 (O.fa 5) (rdV v46)) fun v47=>(Aa (m1 O.ld (rdV v47)) fun v48=>(Aa (Ab 29 [(rdV v48)]) fun v49=>(cWr X6 v49 (cWr X7 (.n .i64 0) Ao))))))))))))))))))))))))))))))))))))))))))))))))))))))) [vT R6,vT R7]))))
theorem k6:QeOk ⟨6,eZ Tryd.f6,p6 zO⟩:=qz 73 3 [6,7,10] Tryd.func6 (by kernel_rfl) (by kernel_rfl)
def p7 (O:Oz):Phi → HF:=fnQ (An fun v1=>(An fun v2=>(An fun v3=>(An fun v4=>(A1 (Aa (n1 (O.bx 24) (rdV v1)) fun v5=>(Aa (n1 (O.bx 22) (rdV v3)) fun v6=>(E3 (n0Z O.al (.cells Jc 39 .exact)) X8 fun v7=>(cWr X9 (.n .i64 0) (Aa (m1 O.ld (rdV v5)) fun v8=>(Aa (Ab 30 [(rdV v8)]) fun v9=>(As (Ap (rdV v9) (Aa (nL (O.bu Jc zA68 []) []) fun v10=>(cDo (n2 (O.st 68) (rdV v7) (rdV v10)) (cWr X9 (.n .i64 2) Ao))) Ah) (Aa (m1 O.ld (rdV v5)) fun v11=>(Aa (o1 ncF (rdV v11)) fun v12=>(Aa (o1 (O.fa 0) (rdV v12)) fun v13=>(Aa (m1 O.ld (rdV v13)) fun v14=>(Aa (nL (O.bs 5 1 1) [(rdV (.n .u8 1))]) fun v15=>(Aa (Ab 31 [(rdV v14),(rdV v2),(rdV v15)]) fun v16=>(Aa (o1 (exG 0) (rdV v16)) fun v17=>(Aa (o1 (exG 1) (rdV v16)) fun v18=>(Aa (n0Z O.al (.cells [.n .u8 0,.n .u32 0,.n .u32 0,.n .u32 0,.n .u32 0,.n .u32 0,.o .sl] 86 .exact)) fun v19=>(cDo (n2 (O.st 7) (rdV v19) (rdV v17)) (Aa (o2 O.ne (rdV v18) (rdV (.n .i64 0))) fun v20=>(As (Ap (rdV v20) (Aa (nL (O.bu Jc zA68 []) []) fun v21=>(cDo (n2 (O.st 68) (rdV v7) (rdV v21)) (cWr X9 v18 Ao))) Ah) (Aa (o1 (O.fa 6) (rdV v19)) fun v22=>(Aa (m1 O.ld (rdV v22)) fun v23=>(Aa (Ab 32 [(rdV v23)]) fun v24=>(Aa (o1 (O.fa 1) (rdV v19)) fun v25=>(Aa (m1 O.ld (rdV v25)) fun v26=>(Aa (o1 (O.fa 2) (rdV v19)) fun v27=>(Aa (m1 O.ld (rdV v27)) fun v28=>(Aa (n0Z O.al (.cells [.n .u32 0,.n .u32 0,.n .u64 0] 91 .exact)) fun v29=>(Aa (Ab 33 [(rdV v24)]) fun v30=>(cRz O.rc (m1 O.ld (rdV v25)) v26 (cRz O.rc (m1 O.ld (rdV v27)) v28 (Aa (nL (O.bu [.n .u32 0,.n .u32 0,.n .u64 0] [(.int .u32 0),(.int .u32 0),(.int .u64 0)] [(0,1),(1,1),(2,1)]) [(rdV v26),(rdV v28),(rdV v30)]) fun v31=>(Aa (n2 (O.st 3) (rdV v29) (rdV v31)) fun v32=>(Aa (Ab 33 [(rdV v24)]) fun v33=>(Aa (Ab 34 [(rdV v24)]) fun v34=>(Aa (o2 O.ne (rdV v34) (rdV (.n .i64 0))) fun v35=>(As (Ap (rdV v35) (Aa (nL (O.bu Jc zA68 []) []) fun v36=>(cDo (n2 (O.st 68) (rdV v7) (rdV v36)) (cWr X9 (.n .i64 5) Ao))) Ah) (Aa (Ab 36 [(rdV v24)]) fun v37=>(Aa (Ab 35 [(rdV v37)]) fun v38=>(Aa (o1 (exG 0) (rdV v38)) fun v39=>(Aa (o1 (exG 1) (rdV v38)) fun v40=>(Aa (n0Z O.al (.cells [.n .u32 0,.o .sl] 35 .exact)) fun v41=>(cDo (n2 (O.st 2) (rdV v41) (rdV v39)) (As (Ds 0 (Aa (o2 O.ne (rdV v40) (rdV (.n .i64 0))) fun v42=>(As (Ap (rdV v42) (Aa (nL (O.bu Jc zA68 []) []) fun v43=>(cDo (n2 (O.st 68) (rdV v7) (rdV v43)) (cWr X9 (.n .i64 5) Ao))) (Aa (m1 O.ld (rdV v5)) fun v44=>(Aa (o1 ncF (rdV v44)) fun v45=>(Aa (o1 (O.fa 4) (rdV v45)) fun v46=>(Aa (m1 O.ld (rdV v46)) fun v47=>(Aa (oG true (rdV v47) (m1 O.ld (rdV v5))) fun v48=>(Aa (oG true (rdV v47) (o1 ncF (rdV v48))) fun v49=>(Aa (oG true (rdV v47) (o1 (O.fa 5) (rdV v49))) fun v50=>(Aa (oG true (rdV v47) (m1 (O.ln 3) (rdV v50))) fun v51=>(Aa (oG true (rdV v47) (m1 (O.ln 3) (rdV v29))) fun v52=>(Aa (oG true (rdV v47) (nL (O.pq (.eqF false [.int,.int,.int])) [(rdV v51),(rdV v52)])) fun v53=>(Aa (o3 pkF (rdV v47) (rdV v53) (rdV (.b false))) fun v54=>(As (Ap (rdV v54) (Aa (m1 O.ld (rdV v5)) fun v55=>(Aa (o1 ncF (rdV v55)) fun v56=>(Aa (o1 (O.fa 8) (rdV v56)) fun v57=>(Aa (m1 O.ld (rdV v57)) fun v58=>(Aa (Ab 29 [(rdV v58)]) fun v59=>(Aa (nL (O.bu Jc zA68 [(0,1)]) [(rdV v59)]) fun v60=>(cDo (n2 (O.st 68) (rdV v7) (rdV v60)) (cWr X9 (.n .i64 0) Ao)))))))) (Aa (m1 O.ld (rdV v5)) fun v61=>(Aa (m1 (O.ln 3) (rdV v29)) fun v62=>(Aa (m1 (O.ln 2) (rdV v41)) fun v63=>(Aa (Ab 37 [(rdV v61),(rdV v62),(rdV v33),(rdV v63),(rdV v4)]) fun v64=>(Aa (o1 F3 (rdV v64)) fun v65=>(As (Ap (rdV v65) (Aa (n0Z O.al (.cells [.o .sl,.n .i64 0] 81 .exact)) fun v66=>(Aa (o1 (O.fa 2) (rdV v29)) fun v67=>(Aa (m1 O.ld (rdV v67)) fun v68=>(Aa (Ab 25 [(rdV v66),(rdV v68)]) fun v69=>(Aa (Ab 27 [(rdV v69)]) fun v70=>(Aa (o1 (exG 0) (rdV v70)) fun v71=>(Aa (o1 (exG 1) (rdV v70)) fun v72=>(Aa (m1 O.ld (rdV v5)) fun v73=>(Aa (o1 ncF (rdV v73)) fun v74=>(Aa (o1 (O.fa 0) (rdV v74)) fun v75=>(Aa (m1 O.ld (rdV v75)) fun v76=>(Aa (o1 (O.fa 0) (rdV v29)) fun v77=>(Aa (m1 O.ld (rdV v77)) fun v78=>(Aa (o1 (O.fa 1) (rdV v29)) fun v79=>(Aa (m1 O.ld (rdV v79)) fun v80=>(Aa (nL (O.bu [.n .u8 0,.n .u32 0,.n .u32 0,.n .u32 0,.n .u32 0,.n .u32 0,.o .sl] [(.int .u8 0),(.int .u32 0),(.int .u32 0),(.int .u32 0),(.int .u32 0),(.int .u32 0),.nilsl] [(0,1),(1,1),(2,1),(6,1)]) [(rdV (.n .u8 5)),(rdV v78),(rdV v80),(rdV v71)]) fun v81=>(Aa (Ab 28 [(rdV v76),(rdV v81)]) fun v82=>(Aa (nL (O.bu Jc zA68 [(0,1)]) [(rdV v82)]) fun v83=>(Aa (n2 (O.st 68) (rdV v7) (rdV v83)) fun v84=>(cWr X9 (.n .i64 13) Ao)))))))))))))))))))) Ah) Ah))))))) Ah))))))))))))) Ah))) (Aa (m1 O.ld (rdV v5)) fun v85=>(Aa (o1 ncF (rdV v85)) fun v86=>(Aa (o1 (O.fa 1) (rdV v86)) fun v87=>(Aa (o1 (O.fa 1) (rdV v87)) fun v88=>(Aa (m1 O.ld (rdV v88)) fun v89=>(Aa (o2 O.ad (rdV v89) (rdV (.n .u32 1))) fun v90=>(Aa (o1 ncF (rdV v85)) fun v91=>(Aa (o1 (O.fa 1) (rdV v91)) fun v92=>(Aa (o1 (O.fa 1) (rdV v92)) fun v93=>(cDo (n2 (O.st 1) (rdV v93) (rdV v90)) (Aa (m1 O.ld (rdV v5)) fun v94=>(Aa (o1 ncF (rdV v94)) fun v95=>(Aa (o1 (O.fa 1) (rdV v95)) fun v96=>(Aa (m1 (O.ln 3) (rdV v96)) fun v97=>(Aa (n0Z O.al (.ints .u32 [Int.ofNat 0,Int.ofNat 0,Int.ofNat 0] 48 .exact)) fun v98=>(cDo (n2 (O.st 3) (rdV v98) (rdV v97)) (Aa (n0Z O.al (.cells [.o .sl,.n .i64 0] 81 .exact)) fun v99=>(Aa (o1 (O.fa 2) (rdV v29)) fun v100=>(Aa (m1 O.ld (rdV v100)) fun v101=>(Aa (m1 O.ld (rdV v6)) fun v102=>(Aa (m1 O.ld (rdV v5)) fun v103=>(Aa (o1 ncF (rdV v103)) fun v104=>(Aa (o1 (O.fa 0) (rdV v104)) fun v105=>(Aa (m1 O.ld (rdV v105)) fun v106=>(Aa (o1 (O.fa 0) (rdV v98)) fun v107=>(Aa (m1 O.ld (rdV v107)) fun v108=>(Aa (o1 (O.fa 1) (rdV v98)) fun v109=>(Aa (m1 O.ld (rdV v109)) fun v110=>(Aa (Ab 25 [(rdV v99),(rdV v101)]) fun v111=>(cRz O.rc (m1 O.ld (rdV v6)) v102 (cRz O.rc (m1 O.ld (rdV v5)) v103 (cRz O.rc (m1 O.ld (rdV v105)) v106 (cRz O.rc (m1 O.ld (rdV v107)) v108 (cRz O.rc (m1 O.ld (rdV v109)) v110 (Aa (Ab 25 [(rdV v111),(rdV v102)]) fun v112=>(cRz O.rc (m1 O.ld (rdV v5)) v103 (cRz O.rc (m1 O.ld (rdV v105)) v106 (cRz O.rc (m1 O.ld (rdV v107)) v108 (cRz O.rc (m1 O.ld (rdV v109)) v110 (Aa (Ab 38 [(rdV v106),(rdV v108),(rdV v110)]) fun v113=>(Aa (Ab 25 [(rdV v112),(rdV v113)]) fun v114=>(Aa (Ab 39 [(rdV v114),(rdV v4)]) fun v115=>(Aa (Ab 27 [(rdV v115)]) fun v116=>(Aa (o1 (exG 0) (rdV v116)) fun v117=>(Aa (o1 (exG 1) (rdV v116)) fun v118=>(Aa (m1 O.ld (rdV v5)) fun v119=>(Aa (m1 O.ld (rdV v5)) fun v120=>(Aa (m1 (O.ln 3) (rdV v29)) fun v121=>(Aa (o1 ncF (rdV v119)) fun v122=>(Aa (o1 (O.fa 4) (rdV v122)) fun v123=>(Aa (n2 (O.st 1) (rdV v123) (rdV (.b true))) fun v124=>(cRz O.rc (m1 O.ld (rdV v5)) v120 (cRz O.rc (m1 (O.ln 3) (rdV v29)) v121 (Aa (o1 ncF (rdV v120)) fun v125=>(Aa (o1 (O.fa 5) (rdV v125)) fun v126=>(Aa (n2 (O.st 3) (rdV v126) (rdV v121)) fun v127=>(Aa (m1 O.ld (rdV v5)) fun v128=>(Aa (m1 O.ld (rdV v5)) fun v129=>(Aa (o1 ncF (rdV v129)) fun v130=>(Aa (o1 (O.fa 0) (rdV v130)) fun v131=>(Aa (m1 O.ld (rdV v131)) fun v132=>(Aa (o1 (O.fa 0) (rdV v98)) fun v133=>(Aa (m1 O.ld (rdV v133)) fun v134=>(Aa (o1 (O.fa 1) (rdV v98)) fun v135=>(Aa (m1 O.ld (rdV v135)) fun v136=>(Aa (nL (O.bu [.n .u8 0,.n .u32 0,.n .u32 0,.n .u32 0,.n .u32 0,.n .u32 0,.o .sl] [(.int .u8 0),(.int .u32 0),(.int .u32 0),(.int .u32 0),(.int .u32 0),(.int .u32 0),.nilsl] [(0,1),(1,1),(2,1),(6,1)]) [(rdV (.n .u8 2)),(rdV v134),(rdV v136),(rdV v117)]) fun v137=>(Aa (Ab 28 [(rdV v132),(rdV v137)]) fun v138=>(cRz O.rc (m1 O.ld (rdV v5)) v128 (Aa (o1 ncF (rdV v128)) fun v139=>(Aa (o1 (O.fa 8) (rdV v139)) fun v140=>(Aa (n2 (O.st 1) (rdV v140) (rdV v138)) fun v141=>(Aa (nL (mfG (.func 40) 0) [(rdV v5),(rdV v98),(rdV v29),(rdV v6)]) fun v142=>(Aa (m1 O.ld (rdV v5)) fun v143=>(Aa (o1 ncF (rdV v143)) fun v144=>(Aa (o1 (O.fa 8) (rdV v144)) fun v145=>(Aa (m1 O.ld (rdV v145)) fun v146=>(Aa (m1 (O.ln 2) (rdV v41)) fun v147=>(Aa (Ab 29 [(rdV v146)]) fun v148=>(cRz O.rc (m1 (O.ln 2) (rdV v41)) v147 (Aa (Gc (rdV v142) [(rdV (.n .i64 0))]) fun v149=>(cRz O.rc (m1 (O.ln 2) (rdV v41)) v147 (Aa (Gc (rdV v142) [(rdV (.n .i64 1))]) fun v150=>(cRz O.rc (m1 (O.ln 2) (rdV v41)) v147 (Aa (nL (O.bu Jc zA68 [(0,1),(1,1),(2,2),(4,32),(36,32)]) [(rdV v148),(rdV (.b true)),(rdV v147),(rdV v149),(rdV v150)]) fun v151=>(Aa (n2 (O.st 68) (rdV v7) (rdV v151)) fun v152=>(cWr X9 (.n .i64 0) Ao))))))))))))))))))))))))))))))))))))))))))))))))))))))))))))))))))))))))))))))))))))))))))))))))))))))))))))))))))))))))))))))))) [vN 68 R8,vT R9])))))
theorem k7:QeOk ⟨7,eZ Tryd.f7,p7 zO⟩:=qz 180 4 [8,9] Tryd.func7 (by kernel_rfl) (by kernel_rfl)
def p8 (O:Oz):Phi → HF:=fnQ (An fun v1=>(An fun v2=>(A1 (Aa (n1 (O.bx 23) (rdV v1)) fun v3=>(E3 (n0Z O.al (.cells zF67 43 .exact)) X4 fun v4=>(cWr X5 (.n .i64 0) (Aa (m1 O.ld (rdV v3)) fun v5=>(Aa (Ab 23 [(rdV v5)]) fun v6=>(As (Ap (rdV v6) (Aa (nL (O.bu zF67 zA67 []) []) fun v7=>(cDo (n2 (O.st 67) (rdV v4) (rdV v7)) (cWr X5 (.n .i64 2) Ao))) Ah) (Aa (m1 O.ld (rdV v3)) fun v8=>(Aa (o1 ncF (rdV v8)) fun v9=>(Aa (o1 (O.fa 0) (rdV v9)) fun v10=>(Aa (m1 O.ld (rdV v10)) fun v11=>(Aa (nL (O.bs 5 1 2) [(rdV (.n .u8 2)),(rdV (.n .u8 5))]) fun v12=>(Aa (Ab 31 [(rdV v11),(rdV v2),(rdV v12)]) fun v13=>(Aa (o1 (exG 0) (rdV v13)) fun v14=>(Aa (o1 (exG 1) (rdV v13)) fun v15=>(Aa (n0Z O.al (.cells [.n .u8 0,.n .u32 0,.n .u32 0,.n .u32 0,.n .u32 0,.n .u32 0,.o .sl] 86 .exact)) fun v16=>(cDo (n2 (O.st 7) (rdV v16) (rdV v14)) (Aa (o2 O.ne (rdV v15) (rdV (.n .i64 0))) fun v17=>(As (Ap (rdV v17) (Aa (nL (O.bu zF67 zA67 []) []) fun v18=>(cDo (n2 (O.st 67) (rdV v4) (rdV v18)) (cWr X5 v15 Ao))) Ah) (Aa (o1 (O.fa 6) (rdV v16)) fun v19=>(Aa (m1 O.ld (rdV v19)) fun v20=>(Aa (Ab 32 [(rdV v20)]) fun v21=>(Aa (Ab 33 [(rdV v21)]) fun v22=>(Aa (n0Z O.al (.ints .u64 [Int.ofNat 0] 22 .exact)) fun v23=>(cDo (n2 (O.st 1) (rdV v23) (rdV v22)) (Aa (n0Z O.al (.ints .u64 [Int.ofNat 0] 22 .exact)) fun v24=>(cWr X11 (.n .u64 0) (cWr X12 (.n .u32 0) (Aa (o1 (O.fa 0) (rdV v16)) fun v25=>(Aa (m1 O.ld (rdV v25)) fun v26=>(Aa (o2 O.eq (rdV v26) (rdV (.n .u8 2))) fun v27=>(As (Ap (rdV v27) (Aa (Ab 33 [(rdV v21)]) fun v28=>(Aa (Ab 33 [(rdV v21)]) fun v29=>(Aa (Ab 42 [(rdV v21)]) fun v30=>(cDo (n2 (O.st 1) (rdV v24) (rdV v28)) (cWr X11 v29 (cWr X12 v30 Ah)))))) Ah) (Aa (o1 (O.fa 1) (rdV v16)) fun v31=>(Aa (m1 O.ld (rdV v31)) fun v32=>(Aa (m1 O.ld (rdV v3)) fun v33=>(Aa (o1 ncF (rdV v33)) fun v34=>(Aa (o1 (O.fa 1) (rdV v34)) fun v35=>(Aa (o1 (O.fa 0) (rdV v35)) fun v36=>(Aa (m1 O.ld (rdV v36)) fun v37=>(Aa (o2 O.eq (rdV v32) (rdV v37)) fun v38=>(Aa (oG false (rdV v38) (m1 O.ld (rdV v3))) fun v39=>(Aa (oG false (rdV v38) (o1 ncF (rdV v39))) fun v40=>(Aa (oG false (rdV v38) (o1 (O.fa 1) (rdV v40))) fun v41=>(Aa (oG false (rdV v38) (o1 (O.fa 0) (rdV v41))) fun v42=>(Aa (oG false (rdV v38) (m1 O.ld (rdV v42))) fun v43=>(Aa (oG false (rdV v38) (o2 O.eq (rdV v43) (rdV (.n .u32 0)))) fun v44=>(Aa (o3 pkF (rdV v38) (rdV (.b true)) (rdV v44)) fun v45=>(As (Ds 0 (Aa (Ab 34 [(rdV v21)]) fun v46=>(Aa (o2 O.ne (rdV v46) (rdV (.n .i64 0))) fun v47=>(Aa (oG false (rdV v47) (oV (rdV v21))) fun v48=>(Aa (oG false (rdV v47) (Ab 43 [(rdV v48)])) fun v49=>(Aa (oG false (rdV v47) (o2 O.gt (rdV v49) (rdV (.n .i64 0)))) fun v50=>(Aa (o3 pkF (rdV v47) (rdV (.b true)) (rdV v50)) fun v51=>(As (Ap (rdV v51) (Aa (nL (O.bu zF67 zA67 []) []) fun v52=>(cDo (n2 (O.st 67) (rdV v4) (rdV v52)) (cWr X5 (.n .i64 5) Ao))) (Aa (m1 O.ld (rdV v3)) fun v53=>(Aa (Ab 22 [(rdV v53)]) fun v54=>(Aa (o1 F3 (rdV v54)) fun v55=>(Aa (oG false (rdV v55) (m1 O.ld (rdV v23))) fun v56=>(Aa (oG false (rdV v55) (m1 O.ld (rdV v3))) fun v57=>(Aa (oG false (rdV v55) (o1 ncF (rdV v57))) fun v58=>(Aa (oG false (rdV v55) (o1 (O.fa 4) (rdV v58))) fun v59=>(Aa (oG false (rdV v55) (m1 O.ld (rdV v59))) fun v60=>(Aa (oG false (rdV v55) (o2 O.ne (rdV v56) (rdV v60))) fun v61=>(Aa (o3 pkF (rdV v55) (rdV (.b true)) (rdV v61)) fun v62=>(As (Ap (rdV v62) (Aa (nL (O.bu zF67 zA67 []) []) fun v63=>(cDo (n2 (O.st 67) (rdV v4) (rdV v63)) (cWr X5 (.n .i64 13) Ao))) (Aa (o1 (O.fa 0) (rdV v16)) fun v64=>(Aa (m1 O.ld (rdV v64)) fun v65=>(Aa (o2 O.eq (rdV v65) (rdV (.n .u8 5))) fun v66=>(As (Ap (rdV v66) (Aa (m1 O.ld (rdV v3)) fun v67=>(Aa (o1 ncF (rdV v67)) fun v68=>(Aa (o1 (O.fa 5) (rdV v68)) fun v69=>(cDo (n2 (O.st 1) (rdV v69) (rdV (.o .sl))) (Aa (nL (O.bu zF67 zA67 []) []) fun v70=>(cDo (n2 (O.st 67) (rdV v4) (rdV v70)) (cWr X5 (.n .i64 6) Ao))))))) (Aa (o1 (O.fa 1) (rdV v16)) fun v71=>(Aa (m1 O.ld (rdV v71)) fun v72=>(Aa (o2 O.eq (rdV v72) (rdV (.n .u32 0))) fun v73=>(Aa (oG false (rdV v73) (oV (rdV v45))) fun v74=>(Aa (oG false (rdV v73) (o1 F3 (rdV v74))) fun v75=>(Aa (o3 pkF (rdV v73) (rdV (.b true)) (rdV v75)) fun v76=>(Aa (oG false (rdV v76) (o1 (O.fa 2) (rdV v16))) fun v77=>(Aa (oG false (rdV v76) (m1 O.ld (rdV v77))) fun v78=>(Aa (oG false (rdV v76) (m1 O.ld (rdV v3))) fun v79=>(Aa (oG false (rdV v76) (o1 ncF (rdV v79))) fun v80=>(Aa (oG false (rdV v76) (o1 (O.fa 1) (rdV v80))) fun v81=>(Aa (oG false (rdV v76) (o1 (O.fa 1) (rdV v81))) fun v82=>(Aa (oG false (rdV v76) (m1 O.ld (rdV v82))) fun v83=>(Aa (oG false (rdV v76) (o2 O.le (rdV v78) (rdV v83))) fun v84=>(Aa (o3 pkF (rdV v76) (rdV (.b true)) (rdV v84)) fun v85=>(As (Ap (rdV v85) (Aa (nL (O.bu zF67 zA67 []) []) fun v86=>(cDo (n2 (O.st 67) (rdV v4) (rdV v86)) (cWr X5 (.n .i64 13) Ao))) Ah) Ah))))))))))))))))) Ah))))) Ah)))))))))))) Ah)))))))) (Aa (m1 O.ld (rdV v3)) fun v87=>(Aa (m1 O.ld (rdV v3)) fun v88=>(Aa (o1 (O.fa 1) (rdV v16)) fun v89=>(Aa (m1 O.ld (rdV v89)) fun v90=>(Aa (o1 (O.fa 2) (rdV v16)) fun v91=>(Aa (m1 O.ld (rdV v91)) fun v92=>(Aa (oV R11) fun v93=>(Aa (nL (O.bu [.n .u32 0,.n .u32 0,.n .u64 0] [(.int .u32 0),(.int .u32 0),(.int .u64 0)] [(0,1),(1,1),(2,1)]) [(rdV v90),(rdV v92),(rdV v93)]) fun v94=>(Aa (o1 ncF (rdV v87)) fun v95=>(Aa (o1 (O.fa 5) (rdV v95)) fun v96=>(Aa (n2 (O.st 1) (rdV v96) (rdV (.o .sl))) fun v97=>(cRz O.rc (m1 O.ld (rdV v3)) v88 (cRz O.rc (m1 O.ld (rdV v89)) v90 (cRz O.rc (m1 O.ld (rdV v91)) v92 (Aa (o1 ncF (rdV v88)) fun v98=>(Aa (o1 (O.fa 1) (rdV v98)) fun v99=>(Aa (n2 (O.st 3) (rdV v99) (rdV v94)) fun v100=>(Aa (nL (mfG (.func 44) 0) [(rdV v3),(rdV v16),(rdV v23),(rdV v24)]) fun v101=>(Aa (o1 (O.fa 1) (rdV v16)) fun v102=>(Aa (m1 O.ld (rdV v102)) fun v103=>(Aa (o1 (O.fa 2) (rdV v16)) fun v104=>(Aa (m1 O.ld (rdV v104)) fun v105=>(Aa (oV R12) fun v106=>(Aa (Gc (rdV v101) [(rdV (.n .i64 0))]) fun v107=>(cRz O.rc (m1 O.ld (rdV v102)) v103 (cRz O.rc (m1 O.ld (rdV v104)) v105 (Aa (Gc (rdV v101) [(rdV (.n .i64 1))]) fun v108=>(cRz O.rc (m1 O.ld (rdV v102)) v103 (cRz O.rc (m1 O.ld (rdV v104)) v105 (Aa (nL (O.bu zF67 zA67 [(0,1),(1,1),(2,1),(3,32),(35,32)]) [(rdV v103),(rdV v105),(rdV v106),(rdV v107),(rdV v108)]) fun v109=>(Aa (n2 (O.st 67) (rdV v4) (rdV v109)) fun v110=>(cWr X5 (.n .i64 0) Ao))))))))))))))))))))))))))))))))))))))))))))))))))))))))))))))))))))))))))))))) [vN 67 R4,vT R5])))
theorem k8:QeOk ⟨8,eZ Tryd.f8,p8 zO⟩:=qz 135 2 [4,5,11,12] Tryd.func8 (by kernel_rfl) (by kernel_rfl)
def p9 (O:Oz):Phi → HF:=fnQ (An fun v1=>(A1 (cWr X2 (.b false) (Aa (Ab 30 [(rdV v1)]) fun v2=>(Aa (oG false (rdV v2) (oV (rdV v1))) fun v3=>(Aa (oG false (rdV v2) (o1 ncF (rdV v3))) fun v4=>(Aa (oG false (rdV v2) (o1 (O.fa 1) (rdV v4))) fun v5=>(Aa (oG false (rdV v2) (o1 (O.fa 2) (rdV v5))) fun v6=>(Aa (oG false (rdV v2) (m1 O.ld (rdV v6))) fun v7=>(Aa (oG false (rdV v2) (oV (rdV v1))) fun v8=>(Aa (oG false (rdV v2) (o1 ncF (rdV v8))) fun v9=>(Aa (oG false (rdV v2) (o1 (O.fa 1) (rdV v9))) fun v10=>(Aa (oG false (rdV v2) (o1 (O.fa 1) (rdV v10))) fun v11=>(Aa (oG false (rdV v2) (m1 O.ld (rdV v11))) fun v12=>(Aa (oG false (rdV v2) (o2 O.eq (rdV v7) (rdV v12))) fun v13=>(Aa (o3 pkF (rdV v2) (rdV (.b true)) (rdV v13)) fun v14=>(As (Ap (rdV v14) (cWr X2 (.b false) Ao) Ah) (Aa (o1 ncF (rdV v1)) fun v15=>(Aa (o1 (O.fa 1) (rdV v15)) fun v16=>(Aa (o1 (O.fa 1) (rdV v16)) fun v17=>(Aa (m1 O.ld (rdV v17)) fun v18=>(Aa (o1 ncF (rdV v1)) fun v19=>(Aa (o1 (O.fa 1) (rdV v19)) fun v20=>(Aa (o1 (O.fa 2) (rdV v20)) fun v21=>(cDo (n2 (O.st 1) (rdV v21) (rdV v18)) (cWr X2 (.b true) Ao)))))))))))))))))))))))) [vT R2]))
theorem k9:QeOk ⟨9,eZ Tryd.f9,p9 zO⟩:=qz 27 1 [2] Tryd.func9 (by kernel_rfl) (by kernel_rfl)
def p10 (O:Oz):Phi → HF:=fnQ (An fun v1=>(A1 (E3 (n0Z O.al (.ints .u32 [Int.ofNat 0,Int.ofNat 0,Int.ofNat 0] 48 .exact)) X2 fun v2=>(Aa (Ab 30 [(rdV v1)]) fun v3=>(As (Ap (rdV v3) (Aa (nL (O.bu [.n .u32 0,.n .u32 0,.n .u32 0] [(.int .u32 0),(.int .u32 0),(.int .u32 0)] []) []) fun v4=>(cDo (n2 (O.st 3) (rdV v2) (rdV v4)) Ao)) Ah) (Aa (o1 ncF (rdV v1)) fun v5=>(Aa (o1 (O.fa 1) (rdV v5)) fun v6=>(Aa (m1 (O.ln 3) (rdV v6)) fun v7=>(cDo (n2 (O.st 3) (rdV v2) (rdV v7)) Ao))))))) [vN 3 R2]))
theorem k10:QeOk ⟨10,eZ Tryd.f10,p10 zO⟩:=qz 10 1 [2] Tryd.func10 (by kernel_rfl) (by kernel_rfl)
def p11 (O:Oz):Phi → HF:=fnQ (A1 (cWr X0 (.b false) (Aa (Ab 5 []) fun v1=>(Aa (o1 (exG 0) (rdV v1)) fun v2=>(Aa (o1 (exG 1) (rdV v1)) fun v3=>(Aa (nL (O.bu [.n .u32 0,.o .sl] [(.int .u32 0),.nilsl] [(0,1)]) [(rdV (.n .u32 1))]) fun v4=>(Aa (Ab 6 [(rdV v2),(rdV (.n .u64 1)),(rdV v4)]) fun v5=>(Aa (o1 (exG 0) (rdV v5)) fun v6=>(Aa (o1 (exG 1) (rdV v5)) fun v7=>(Aa (Ab 7 [(rdV v3),(rdV v6),(rdV (.n .u64 2)),(rdV (.n .u32 0))]) fun v8=>(Aa (o1 (exG 0) (rdV v8)) fun v9=>(Aa (o1 (exG 1) (rdV v8)) fun v10=>(Aa (n0Z O.al (.cells Jc 39 .exact)) fun v11=>(cDo (n2 (O.st 68) (rdV v11) (rdV v9)) (Aa (Ab 7 [(rdV v3),(rdV v6),(rdV (.n .u64 3)),(rdV (.n .u32 0))]) fun v12=>(Aa (o1 (exG 0) (rdV v12)) fun v13=>(Aa (o1 (exG 1) (rdV v12)) fun v14=>(Aa (n0Z O.al (.cells Jc 39 .exact)) fun v15=>(cDo (n2 (O.st 68) (rdV v15) (rdV v13)) (Aa (o1 (O.fa 0) (rdV v15)) fun v16=>(Aa (m1 O.ld (rdV v16)) fun v17=>(Aa (Ab 8 [(rdV v2),(rdV v17)]) fun v18=>(Aa (o1 (exG 0) (rdV v18)) fun v19=>(Aa (o1 (exG 1) (rdV v18)) fun v20=>(Aa (n0Z O.al (.cells zF67 43 .exact)) fun v21=>(cDo (n2 (O.st 67) (rdV v21) (rdV v19)) (Aa (o2 (F5 true .ptr) (rdV v2) (rdV (.o .ptr))) fun v22=>(Aa (oG true (rdV v22) (oV (rdV v7))) fun v23=>(Aa (oG true (rdV v22) (o2 O.eq (rdV v23) (rdV (.n .i64 0)))) fun v24=>(Aa (o3 pkF (rdV v22) (rdV v24) (rdV (.b false))) fun v25=>(Aa (oG true (rdV v25) (oV (rdV v10))) fun v26=>(Aa (oG true (rdV v25) (o2 O.eq (rdV v26) (rdV (.n .i64 0)))) fun v27=>(Aa (o3 pkF (rdV v25) (rdV v27) (rdV (.b false))) fun v28=>(Aa (oG true (rdV v28) (oV (rdV v14))) fun v29=>(Aa (oG true (rdV v28) (o2 O.eq (rdV v29) (rdV (.n .i64 0)))) fun v30=>(Aa (o3 pkF (rdV v28) (rdV v30) (rdV (.b false))) fun v31=>(Aa (oG true (rdV v31) (o1 (O.fa 1) (rdV v11))) fun v32=>(Aa (oG true (rdV v31) (m1 O.ld (rdV v32))) fun v33=>(Aa (o3 pkF (rdV v31) (rdV v33) (rdV (.b false))) fun v34=>(Aa (oG true (rdV v34) (o1 (O.fa 1) (rdV v15))) fun v35=>(Aa (oG true (rdV v34) (m1 O.ld (rdV v35))) fun v36=>(Aa (oG true (rdV v34) (o1 F3 (rdV v36))) fun v37=>(Aa (o3 pkF (rdV v34) (rdV v37) (rdV (.b false))) fun v38=>(Aa (oG true (rdV v38) (o1 (O.fa 0) (rdV v11))) fun v39=>(Aa (oG true (rdV v38) (m1 O.ld (rdV v39))) fun v40=>(Aa (oG true (rdV v38) (m1 O.bS (rdV v40))) fun v41=>(Aa (oG true (rdV v38) (o1 (O.fa 0) (rdV v15))) fun v42=>(Aa (oG true (rdV v38) (m1 O.ld (rdV v42))) fun v43=>(Aa (oG true (rdV v38) (m1 O.bS (rdV v43))) fun v44=>(Aa (oG true (rdV v38) (o2 O.eq (rdV v41) (rdV v44))) fun v45=>(Aa (o3 pkF (rdV v38) (rdV v45) (rdV (.b false))) fun v46=>(Aa (oG true (rdV v46) (oV (rdV v20))) fun v47=>(Aa (oG true (rdV v46) (o2 O.eq (rdV v47) (rdV (.n .i64 0)))) fun v48=>(Aa (o3 pkF (rdV v46) (rdV v48) (rdV (.b false))) fun v49=>(Aa (oG true (rdV v49) (o1 (O.fa 1) (rdV v21))) fun v50=>(Aa (oG true (rdV v49) (m1 O.ld (rdV v50))) fun v51=>(Aa (oG true (rdV v49) (o2 O.eq (rdV v51) (rdV (.n .u32 1)))) fun v52=>(Aa (o3 pkF (rdV v49) (rdV v52) (rdV (.b false))) fun v53=>(Aa (oG true (rdV v53) (o1 (O.fa 0) (rdV v21))) fun v54=>(Aa (oG true (rdV v53) (m1 O.ld (rdV v54))) fun v55=>(Aa (oG true (rdV v53) (o2 O.eq (rdV v55) (rdV (.n .u32 5)))) fun v56=>(Aa (o3 pkF (rdV v53) (rdV v56) (rdV (.b false))) fun v57=>(Aa (oG true (rdV v57) (o1 (O.fa 3) (rdV v21))) fun v58=>(Aa (oG true (rdV v57) (m1 (O.ln 32) (rdV v58))) fun v59=>(Aa (oG true (rdV v57) (o1 (O.fa 4) (rdV v11))) fun v60=>(Aa (oG true (rdV v57) (m1 (O.ln 32) (rdV v60))) fun v61=>(Aa (oG true (rdV v57) (nL (O.pq (.eqF false [.int,.int,.int,.int,.int,.int,.int,.int,.int,.int,.int,.int,.int,.int,.int,.int,.int,.int,.int,.int,.int,.int,.int,.int,.int,.int,.int,.int,.int,.int,.int,.int])) [(rdV v59),(rdV v61)])) fun v62=>(Aa (o3 pkF (rdV v57) (rdV v62) (rdV (.b false))) fun v63=>(Aa (oG true (rdV v63) (oV (rdV v3))) fun v64=>(Aa (oG true (rdV v63) (Ab 10 [(rdV v64)])) fun v65=>(Aa (oG true (rdV v63) (nL (O.bu [.n .u32 0,.n .u32 0,.n .u32 0] [(.int .u32 0),(.int .u32 0),(.int .u32 0)] [(0,1),(1,1)]) [(rdV (.n .u32 5)),(rdV (.n .u32 1))])) fun v66=>(Aa (oG true (rdV v63) (nL (O.pq (.eqF false [.int,.int,.int])) [(rdV v65),(rdV v66)])) fun v67=>(Aa (o3 pkF (rdV v63) (rdV v67) (rdV (.b false))) fun v68=>(cWr X0 v68 Ao))))))))))))))))))))))))))))))))))))))))))))))))))))))))))))))))))))))))) [vT R0])
theorem k11:QeOk ⟨11,eZ Tryd.f11,p11 zO⟩:=qz 99 0 [0] Tryd.func11 (by kernel_rfl) (by kernel_rfl)
def p12 (O:Oz):Phi → HF:=fnQ (A1 (cWr X0 (.o .ptr) (Aa (nL (O.bs 5 1 6) [(rdV (.n .u8 115)),(rdV (.n .u8 101)),(rdV (.n .u8 99)),(rdV (.n .u8 114)),(rdV (.n .u8 101)),(rdV (.n .u8 116))]) fun v1=>(Aa (n1 mkQ (rdV v1)) fun v2=>(Aa (Ab 45 [(rdV v2)]) fun v3=>(Aa (o1 (exG 0) (rdV v3)) fun v4=>(Aa (o1 (exG 1) (rdV v3)) fun v5=>(cWr X0 v4 Ao))))))) [vT R0])
theorem k12:QeOk ⟨12,eZ Tryd.f12,p12 zO⟩:=qz 10 0 [0] Tryd.func12 (by kernel_rfl) (by kernel_rfl)
def p20 (O:Oz):Phi → HF:=fnQ (An fun v1=>(An fun v2=>(A1 (Aa (n1 (O.bx 61) (rdV v2)) fun v3=>(cWr X4 (.o .ptr) (cWr X5 (.n .i64 0) (Aa (o2 (F5 false .ptr) (rdV v1) (rdV (.o .ptr))) fun v4=>(Aa (oG false (rdV v4) (o1 (O.fa 0) (rdV v3))) fun v5=>(Aa (oG false (rdV v4) (m1 O.ld (rdV v5))) fun v6=>(Aa (oG false (rdV v4) (o2 O.eq (rdV v6) (rdV (.n .u32 0)))) fun v7=>(Aa (oG false (rdV v4) (o1 (O.fa 1) (rdV v3))) fun v8=>(Aa (oG false (rdV v4) (m1 O.ld (rdV v8))) fun v9=>(Aa (oG false (rdV v4) (o2 O.eq (rdV v9) (rdV (.n .u32 0)))) fun v10=>(Aa (oG false (rdV v4) (o2 (F5 true .bool) (rdV v7) (rdV v10))) fun v11=>(Aa (o3 pkF (rdV v4) (rdV (.b true)) (rdV v11)) fun v12=>(As (Ap (rdV v12) (cWr X4 (.o .ptr) (cWr X5 (.n .i64 1) Ao)) Ah) (Aa (m1 (O.ln 3) (rdV v3)) fun v13=>(Aa (nL (O.bu [.o .ptr,.n .u32 0,.n .u32 0,.n .u64 0,.n .u64 0,.o .sl] [.nilptr,(.int .u32 0),(.int .u32 0),(.int .u64 0),(.int .u64 0),.nilsl] [(0,1),(1,3)]) [(rdV v1),(rdV v13)]) fun v14=>(Aa (n1 (O.bx 78) (rdV v14)) fun v15=>(cWr X4 v15 (cWr X5 (.n .i64 0) Ao)))))))))))))))))) [vT R4,vT R5])))
theorem k20:QeOk ⟨20,eZ Tryd.f20,p20 zO⟩:=qz 21 2 [4,5] Tryd.func20 (by kernel_rfl) (by kernel_rfl)
def p21 (O:Oz):Phi → HF:=fnQ (An fun v1=>(An fun v2=>(A1 (Aa (n1 (O.bx 48) (rdV v2)) fun v3=>(cWr X4 (.o .ptr) (cWr X5 (.n .i64 0) (Aa (o2 (F5 false .ptr) (rdV v1) (rdV (.o .ptr))) fun v4=>(Aa (oG false (rdV v4) (o1 (O.fa 0) (rdV v3))) fun v5=>(Aa (oG false (rdV v4) (m1 O.ld (rdV v5))) fun v6=>(Aa (oG false (rdV v4) (o2 O.eq (rdV v6) (rdV (.n .u32 0)))) fun v7=>(Aa (o3 pkF (rdV v4) (rdV (.b true)) (rdV v7)) fun v8=>(Aa (oG false (rdV v8) (o1 (O.fa 2) (rdV v3))) fun v9=>(Aa (oG false (rdV v8) (m1 O.ld (rdV v9))) fun v10=>(Aa (oG false (rdV v8) (o1 (O.fa 1) (rdV v3))) fun v11=>(Aa (oG false (rdV v8) (m1 O.ld (rdV v11))) fun v12=>(Aa (oG false (rdV v8) (o2 O.gt (rdV v10) (rdV v12))) fun v13=>(Aa (o3 pkF (rdV v8) (rdV (.b true)) (rdV v13)) fun v14=>(As (Ap (rdV v14) (cWr X4 (.o .ptr) (cWr X5 (.n .i64 1) Ao)) Ah) (Aa (m1 (O.ln 3) (rdV v3)) fun v15=>(Aa (nL (O.bu [.o .ptr,.n .u32 0,.n .u32 0,.n .u32 0,.b false,.n .u32 0,.n .u32 0,.n .u64 0,.o .sl] [.nilptr,(.int .u32 0),(.int .u32 0),(.int .u32 0),(.bool false),(.int .u32 0),(.int .u32 0),(.int .u64 0),.nilsl] [(0,1),(1,3)]) [(rdV v1),(rdV v15)]) fun v16=>(Aa (n1 (O.bx 93) (rdV v16)) fun v17=>(cWr X4 v17 (cWr X5 (.n .i64 0) Ao)))))))))))))))))))) [vT R4,vT R5])))
theorem k21:QeOk ⟨21,eZ Tryd.f21,p21 zO⟩:=qz 24 2 [4,5] Tryd.func21 (by kernel_rfl) (by kernel_rfl)
def p22 (O:Oz):Phi → HF:=fnQ (An fun v1=>(A1 (cWr X2 (.b false) (Aa (Ab 23 [(rdV v1)]) fun v2=>(Aa (o1 F3 (rdV v2)) fun v3=>(Aa (oG true (rdV v3) (oV (rdV v1))) fun v4=>(Aa (oG true (rdV v3) (o1 ncF (rdV v4))) fun v5=>(Aa (oG true (rdV v3) (o1 (O.fa 5) (rdV v5))) fun v6=>(Aa (oG true (rdV v3) (m1 O.ld (rdV v6))) fun v7=>(Aa (oG true (rdV v3) (o2 (F5 true .sl) (rdV v7) (rdV (.o .sl)))) fun v8=>(Aa (o3 pkF (rdV v3) (rdV v8) (rdV (.b false))) fun v9=>(cWr X2 v9 Ao)))))))))) [vT R2]))
theorem k22:QeOk ⟨22,eZ Tryd.f22,p22 zO⟩:=qz 13 1 [2] Tryd.func22 (by kernel_rfl) (by kernel_rfl)
def p23 (O:Oz):Phi → HF:=fnQ (An fun v1=>(A1 (cWr X2 (.b false) (Aa (o2 (F5 false .ptr) (rdV v1) (rdV (.o .ptr))) fun v2=>(Aa (oG false (rdV v2) (oV (rdV v1))) fun v3=>(Aa (oG false (rdV v2) (o1 ncF (rdV v3))) fun v4=>(Aa (oG false (rdV v2) (o1 (O.fa 0) (rdV v4))) fun v5=>(Aa (oG false (rdV v2) (m1 O.ld (rdV v5))) fun v6=>(Aa (oG false (rdV v2) (o2 (F5 false .ptr) (rdV v6) (rdV (.o .ptr)))) fun v7=>(Aa (o3 pkF (rdV v2) (rdV (.b true)) (rdV v7)) fun v8=>(cWr X2 v8 Ao))))))))) [vT R2]))
theorem k23:QeOk ⟨23,eZ Tryd.f23,p23 zO⟩:=qz 12 1 [2] Tryd.func23 (by kernel_rfl) (by kernel_rfl)
def p24 (O:Oz):Phi → HF:=fnQ (An fun v1=>(A1 (Aa (n1 (O.bx 35) (rdV v1)) fun v2=>(cWr X2 (.o .sl) (cWr X3 (.n .i64 0) (Aa (m1 (O.ln 2) (rdV v2)) fun v3=>(Aa (Ab 46 [(rdV v3)]) fun v4=>(Aa (o1 F3 (rdV v4)) fun v5=>(As (Ap (rdV v5) (cWr X2 (.o .sl) (cWr X3 (.n .i64 1) Ao)) Ah) (Aa (n0Z O.al (.cells [.o .sl,.n .i64 0] 81 .exact)) fun v6=>(Aa (o1 (O.fa 0) (rdV v2)) fun v7=>(Aa (m1 O.ld (rdV v7)) fun v8=>(Aa (o1 (O.fa 1) (rdV v2)) fun v9=>(Aa (m1 O.ld (rdV v9)) fun v10=>(Aa (o1 O.lv (rdV v10)) fun v11=>(Aa (o1 (O.cv .u8) (rdV v11)) fun v12=>(Aa (nL (O.bs 5 1 1) [(rdV v12)]) fun v13=>(Aa (Ab 39 [(rdV v6),(rdV v8)]) fun v14=>(cRz O.rc (m1 O.ld (rdV v9)) v10 (Aa (Ab 26 [(rdV v14),(rdV v13)]) fun v15=>(Aa (o1 (O.fa 1) (rdV v2)) fun v16=>(Aa (m1 O.ld (rdV v16)) fun v17=>(Aa (o1 O.lv (rdV v17)) fun v18=>(cWr X23 (.n .i64 0) (As (Ds 0 (O.lp 1000000 (Aa (o2 O.lt R23 (rdV v18)) fun v19=>(As (Ap (rdV v19) Ah (Hx 0)) (As (Ds 1 (Aa (o2 (O.ix 4) (rdV v17) R23) fun v20=>(Aa (m1 (O.ln 4) (rdV v20)) fun v21=>(Aa (n0Z O.al (.cells [.n .u32 0,.n .u32 0,.n .u32 0,.b false] 65 .exact)) fun v22=>(cDo (n2 (O.st 4) (rdV v22) (rdV v21)) (cWr X7 (.n .u8 0) (Aa (o1 (O.fa 3) (rdV v22)) fun v23=>(Aa (m1 O.ld (rdV v23)) fun v24=>(As (Ap (rdV v24) (cWr X7 (.n .u8 1) Ah) Ah) (Aa (o1 (O.fa 0) (rdV v22)) fun v25=>(Aa (m1 O.ld (rdV v25)) fun v26=>(Aa (o1 (O.fa 1) (rdV v22)) fun v27=>(Aa (m1 O.ld (rdV v27)) fun v28=>(Aa (o1 (O.fa 2) (rdV v22)) fun v29=>(Aa (m1 O.ld (rdV v29)) fun v30=>(Aa (oV R7) fun v31=>(Aa (nL (O.bs 5 1 1) [(rdV v31)]) fun v32=>(Aa (Ab 39 [(rdV v6),(rdV v26)]) fun v33=>(cRz O.rc (m1 O.ld (rdV v27)) v28 (cRz O.rc (m1 O.ld (rdV v29)) v30 (Aa (Ab 39 [(rdV v33),(rdV v28)]) fun v34=>(cRz O.rc (m1 O.ld (rdV v29)) v30 (Aa (Ab 39 [(rdV v34),(rdV v30)]) fun v35=>(Aa (Ab 26 [(rdV v35),(rdV v32)]) fun v36=>Ah)))))))))))))))))))))))) (Aa (o2 O.ad R23 (rdV (.n .i64 1))) fun v37=>(cWr X23 v37 Ah))))))) (Aa (Ab 27 [(rdV v6)]) fun v38=>(Aa (o1 (exG 0) (rdV v38)) fun v39=>(Aa (o1 (exG 1) (rdV v38)) fun v40=>(cWr X2 v39 (cWr X3 v40 Ao)))))))))))))))))))))))))))) [vT R2,vT R3]))
theorem k24:QeOk ⟨24,eZ Tryd.f24,p24 zO⟩:=qz 45 1 [2,3,7,23] Tryd.func24 (by kernel_rfl) (by kernel_rfl)
def p25 (O:Oz):Phi → HF:=fnQ (An fun v1=>(An fun v2=>(A1 (cWr X4 (.o .ptr) (Aa (o2 O.hr (rdV v2) (rdV (.n .u64 32))) fun v3=>(Aa (o1 (O.cv .u32) (rdV v3)) fun v4=>(Aa (Ab 39 [(rdV v1),(rdV v4)]) fun v5=>(Aa (o1 (O.cv .u32) (rdV v2)) fun v6=>(Aa (Ab 39 [(rdV v5),(rdV v6)]) fun v7=>(cWr X4 v7 Ao))))))) [vT R4])))
theorem k25:QeOk ⟨25,eZ Tryd.f25,p25 zO⟩:=qz 13 2 [4] Tryd.func25 (by kernel_rfl) (by kernel_rfl)
def p26 (O:Oz):Phi → HF:=fnQ (aLetW X0 fun v1=>(An fun v2=>(A1 (cWr X4 (.o .ptr) (Aa (o2 (F5 false .ptr) (rdV v1) (rdV (.o .ptr))) fun v3=>(As (Ap (rdV v3) (Aa (nL (O.bu [.o .sl,.n .i64 0] [.nilsl,(.int .i64 0)] []) []) fun v4=>(Aa (n1 (O.bx 81) (rdV v4)) fun v5=>(cWr X0 v5 Ah))) Ah) (Aa (oV R0) fun v6=>(Aa (o1 ncF (rdV v6)) fun v7=>(Aa (o1 (O.fa 1) (rdV v7)) fun v8=>(Aa (m1 O.ld (rdV v8)) fun v9=>(Aa (o2 O.eq (rdV v9) (rdV (.n .i64 0))) fun v10=>(As (Ap (rdV v10) (Aa (oV R0) fun v11=>(Aa (oV R0) fun v12=>(Aa (o1 ncF (rdV v12)) fun v13=>(Aa (o1 (O.fa 0) (rdV v13)) fun v14=>(Aa (m1 O.ld (rdV v14)) fun v15=>(Aa (n2 (O.ap 5 false 1) (rdV v15) (rdV v2)) fun v16=>(Aa (o1 ncF (rdV v11)) fun v17=>(Aa (o1 (O.fa 0) (rdV v17)) fun v18=>(cDo (n2 (O.st 1) (rdV v18) (rdV v16)) Ah))))))))) Ah) (Aa (oV R0) fun v19=>(cWr X4 v19 Ao))))))))))) [vT R4])))
theorem k26:QeOk ⟨26,eZ Tryd.f26,p26 zO⟩:=qz 24 2 [0,4] Tryd.func26 (by kernel_rfl) (by kernel_rfl)
def p27 (O:Oz):Phi → HF:=fnQ (An fun v1=>(A1 (cWr X2 (.o .sl) (cWr X3 (.n .i64 0) (Aa (Ab 26 [(rdV v1),(rdV (.o .sl))]) fun v2=>(Aa (o1 ncF (rdV v2)) fun v3=>(Aa (o1 (O.fa 1) (rdV v3)) fun v4=>(Aa (m1 O.ld (rdV v4)) fun v5=>(Aa (o2 O.ne (rdV v5) (rdV (.n .i64 0))) fun v6=>(As (Ap (rdV v6) (Aa (o1 ncF (rdV v2)) fun v7=>(Aa (o1 (O.fa 1) (rdV v7)) fun v8=>(Aa (m1 O.ld (rdV v8)) fun v9=>(cWr X2 (.o .sl) (cWr X3 v9 Ao))))) Ah) (Aa (o1 ncF (rdV v2)) fun v10=>(Aa (o1 (O.fa 0) (rdV v10)) fun v11=>(Aa (m1 O.ld (rdV v11)) fun v12=>(Aa (Ab 29 [(rdV v12)]) fun v13=>(cWr X2 v13 (cWr X3 (.n .i64 0) Ao)))))))))))))) [vT R2,vT R3]))
theorem k27:QeOk ⟨27,eZ Tryd.f27,p27 zO⟩:=qz 20 1 [2,3] Tryd.func27 (by kernel_rfl) (by kernel_rfl)
def p28 (O:Oz):Phi → HF:=fnQ (An fun v1=>(An fun v2=>(A1 (Aa (n1 (O.bx 86) (rdV v2)) fun v3=>(cWr X4 (.o .sl) (Aa (m1 (O.ln 7) (rdV v3)) fun v4=>(Aa (m1 (O.ln 7) (rdV v3)) fun v5=>(Aa (Ab 48 [(rdV v1)]) fun v6=>(cRz O.rc (m1 (O.ln 7) (rdV v3)) v4 (cRz O.rc (m1 (O.ln 7) (rdV v3)) v5 (Aa (Ab 50 [(rdV v5)]) fun v7=>(cRz O.rc (m1 (O.ln 7) (rdV v3)) v4 (Aa (Ab 49 [(rdV v6),(rdV v7)]) fun v8=>(cRz O.rc (m1 (O.ln 7) (rdV v3)) v4 (Aa (Ab 47 [(rdV v4),(rdV v8)]) fun v9=>(Aa (o1 (exG 0) (rdV v9)) fun v10=>(Aa (o1 (exG 1) (rdV v9)) fun v11=>(cWr X4 v10 Ao))))))))))))))) [vT R4])))
theorem k28:QeOk ⟨28,eZ Tryd.f28,p28 zO⟩:=qz 18 2 [4] Tryd.func28 (by kernel_rfl) (by kernel_rfl)
def p29 (O:Oz):Phi → HF:=fnQ (An fun v1=>(A1 (cWr X2 (.o .sl) (Aa (o2 (F5 false .sl) (rdV v1) (rdV (.o .sl))) fun v2=>(As (Ap (rdV v2) (cWr X2 (.o .sl) Ao) Ah) (Aa (nL (O.bs 5 1 0) []) fun v3=>(Aa (n2 (O.ap 5 false 1) (rdV v3) (rdV v1)) fun v4=>(cWr X2 v4 Ao)))))) [vT R2]))
theorem k29:QeOk ⟨29,eZ Tryd.f29,p29 zO⟩:=qz 8 1 [2] Tryd.func29 (by kernel_rfl) (by kernel_rfl)
def p30 (O:Oz):Phi → HF:=fnQ (An fun v1=>(A1 (cWr X2 (.b false) (Aa (o2 (F5 false .ptr) (rdV v1) (rdV (.o .ptr))) fun v2=>(Aa (oG false (rdV v2) (oV (rdV v1))) fun v3=>(Aa (oG false (rdV v2) (o1 ncF (rdV v3))) fun v4=>(Aa (oG false (rdV v2) (o1 (O.fa 0) (rdV v4))) fun v5=>(Aa (oG false (rdV v2) (m1 O.ld (rdV v5))) fun v6=>(Aa (oG false (rdV v2) (o2 (F5 false .ptr) (rdV v6) (rdV (.o .ptr)))) fun v7=>(Aa (o3 pkF (rdV v2) (rdV (.b true)) (rdV v7)) fun v8=>(cWr X2 v8 Ao))))))))) [vT R2]))
theorem k30:QeOk ⟨30,eZ Tryd.f30,p30 zO⟩:=qz 12 1 [2] Tryd.func30 (by kernel_rfl) (by kernel_rfl)
def p31 (O:Oz):Phi → HF:=fnQ (An fun v1=>(An fun v2=>(An fun v3=>(A1 (E3 (n0Z O.al (.cells [.n .u8 0,.n .u32 0,.n .u32 0,.n .u32 0,.n .u32 0,.n .u32 0,.o .sl] 86 .exact)) X6 fun v4=>(cWr X7 (.n .i64 0) (Aa (Ab 51 [(rdV v2)]) fun v5=>(Aa (o1 (exG 0) (rdV v5)) fun v6=>(Aa (o1 (exG 1) (rdV v5)) fun v7=>(Aa (o1 (exG 2) (rdV v5)) fun v8=>(Aa (n0Z O.al (.cells [.n .u8 0,.n .u32 0,.n .u32 0,.n .u32 0,.n .u32 0,.n .u32 0,.o .sl] 86 .exact)) fun v9=>(cDo (n2 (O.st 7) (rdV v9) (rdV v6)) (As (Ds 0 (Aa (o2 O.ne (rdV v8) (rdV (.n .i64 0))) fun v10=>(As (Ap (rdV v10) (Aa (m1 (O.ln 7) (rdV v9)) fun v11=>(cDo (n2 (O.st 7) (rdV v4) (rdV v11)) (cWr X7 v8 Ao))) (Aa (o1 (O.fa 0) (rdV v9)) fun v12=>(Aa (m1 O.ld (rdV v12)) fun v13=>(Aa (Ab 52 [(rdV v3),(rdV v13)]) fun v14=>(Aa (o1 F3 (rdV v14)) fun v15=>(As (Ap (rdV v15) (Aa (m1 (O.ln 7) (rdV v9)) fun v16=>(cDo (n2 (O.st 7) (rdV v4) (rdV v16)) (cWr X7 (.n .i64 10) Ao))) (Aa (m1 (O.ln 7) (rdV v9)) fun v17=>(Aa (Ab 48 [(rdV v1)]) fun v18=>(cRz O.rc (m1 (O.ln 7) (rdV v9)) v17 (Aa (Ab 50 [(rdV v17)]) fun v19=>(Aa (Ab 49 [(rdV v18),(rdV v19)]) fun v20=>(Aa (o2 O.ne (rdV v7) (rdV v20)) fun v21=>(As (Ap (rdV v21) (Aa (m1 (O.ln 7) (rdV v9)) fun v22=>(cDo (n2 (O.st 7) (rdV v4) (rdV v22)) (cWr X7 (.n .i64 11) Ao))) Ah) Ah)))))))) Ah)))))) Ah))) (Aa (m1 (O.ln 7) (rdV v9)) fun v23=>(cDo (n2 (O.st 7) (rdV v4) (rdV v23)) (cWr X7 (.n .i64 0) Ao)))))))))))) [vN 7 R6,vT R7]))))
theorem k31:QeOk ⟨31,eZ Tryd.f31,p31 zO⟩:=qz 39 3 [6,7] Tryd.func31 (by kernel_rfl) (by kernel_rfl)
def p32 (O:Oz):Phi → HF:=fnQ (An fun v1=>(A1 (cWr X2 (.o .ptr) (Aa (Ab 29 [(rdV v1)]) fun v2=>(Aa (nL (O.bu [.o .sl,.b false] [.nilsl,(.bool false)] [(0,1)]) [(rdV v2)]) fun v3=>(Aa (n1 (O.bx 116) (rdV v3)) fun v4=>(cWr X2 v4 Ao))))) [vT R2]))
theorem k32:QeOk ⟨32,eZ Tryd.f32,p32 zO⟩:=qz 7 1 [2] Tryd.func32 (by kernel_rfl) (by kernel_rfl)
def p33 (O:Oz):Phi → HF:=fnQ (An fun v1=>(A1 (cWr X2 (.n .u64 0) (Aa (Ab 53 [(rdV v1),(rdV (.n .i64 8))]) fun v2=>(cWr X2 v2 Ao))) [vT R2]))
theorem k33:QeOk ⟨33,eZ Tryd.f33,p33 zO⟩:=qz 5 1 [2] Tryd.func33 (by kernel_rfl) (by kernel_rfl)
def p34 (O:Oz):Phi → HF:=fnQ (An fun v1=>(A1 (cWr X2 (.n .i64 0) (Aa (o2 (F5 false .ptr) (rdV v1) (rdV (.o .ptr))) fun v2=>(Aa (oG false (rdV v2) (oV (rdV v1))) fun v3=>(Aa (oG false (rdV v2) (o1 ncF (rdV v3))) fun v4=>(Aa (oG false (rdV v2) (o1 (O.fa 1) (rdV v4))) fun v5=>(Aa (oG false (rdV v2) (m1 O.ld (rdV v5))) fun v6=>(Aa (o3 pkF (rdV v2) (rdV (.b true)) (rdV v6)) fun v7=>(As (Ap (rdV v7) (cWr X2 (.n .i64 4) Ao) Ah) (cWr X2 (.n .i64 0) Ao))))))))) [vT R2]))
theorem k34:QeOk ⟨34,eZ Tryd.f34,p34 zO⟩:=qz 11 1 [2] Tryd.func34 (by kernel_rfl) (by kernel_rfl)
def p35 (O:Oz):Phi → HF:=fnQ (An fun v1=>(A1 (E3 (n0Z O.al (.cells [.n .u32 0,.o .sl] 35 .exact)) X2 fun v2=>(cWr X3 (.n .i64 0) (Aa (Ab 32 [(rdV v1)]) fun v3=>(Aa (Ab 42 [(rdV v3)]) fun v4=>(Aa (nL (O.bu [.n .u32 0,.o .sl] [(.int .u32 0),.nilsl] [(0,1)]) [(rdV v4)]) fun v5=>(Aa (n0Z O.al (.cells [.n .u32 0,.o .sl] 35 .exact)) fun v6=>(cDo (n2 (O.st 2) (rdV v6) (rdV v5)) (cWr X6 (.b false) (Aa (Ab 54 [(rdV v3)]) fun v7=>(cWr X16 (.n .u8 0) (As (Ds 0 (O.lp 1000000 (Aa (o2 O.lt R16 (rdV v7)) fun v8=>(As (Ap (rdV v8) Ah (Hx 0)) (As (Ds 1 (Aa (Ab 42 [(rdV v3)]) fun v9=>(Aa (Ab 42 [(rdV v3)]) fun v10=>(Aa (Ab 42 [(rdV v3)]) fun v11=>(Aa (nL (O.bu [.n .u32 0,.n .u32 0,.n .u32 0,.b false] [(.int .u32 0),(.int .u32 0),(.int .u32 0),(.bool false)] [(0,1),(1,1),(2,1)]) [(rdV v9),(rdV v10),(rdV v11)]) fun v12=>(Aa (n0Z O.al (.cells [.n .u32 0,.n .u32 0,.n .u32 0,.b false] 65 .exact)) fun v13=>(cDo (n2 (O.st 4) (rdV v13) (rdV v12)) (Aa (Ab 54 [(rdV v3)]) fun v14=>(Aa (o2 O.eq (rdV v14) (rdV (.n .u8 1))) fun v15=>(Aa (oV R6) fun v16=>(Aa (oG false (rdV v16) (oV (rdV v14))) fun v17=>(Aa (oG false (rdV v16) (o2 O.gt (rdV v17) (rdV (.n .u8 1)))) fun v18=>(Aa (o3 pkF (rdV v16) (rdV (.b true)) (rdV v18)) fun v19=>(Aa (o1 (O.fa 3) (rdV v13)) fun v20=>(cDo (n2 (O.st 1) (rdV v20) (rdV v15)) (cWr X6 v19 (Aa (o1 (O.fa 1) (rdV v6)) fun v21=>(Aa (m1 O.ld (rdV v21)) fun v22=>(Aa (m1 (O.ln 4) (rdV v13)) fun v23=>(Aa (nL (O.bs 65 4 1) [(rdV v23)]) fun v24=>(Aa (n2 (O.ap 65 false 4) (rdV v22) (rdV v24)) fun v25=>(Aa (o1 (O.fa 1) (rdV v6)) fun v26=>(cDo (n2 (O.st 1) (rdV v26) (rdV v25)) Ah))))))))))))))))))))))) (Aa (o2 O.ad R16 (rdV (.n .u8 1))) fun v27=>(cWr X16 v27 Ah))))))) (As (Ds 2 (Aa (Ab 34 [(rdV v3)]) fun v28=>(Aa (o2 O.ne (rdV v28) (rdV (.n .i64 0))) fun v29=>(As (Ap (rdV v29) (Aa (nL (O.bu [.n .u32 0,.o .sl] [(.int .u32 0),.nilsl] []) []) fun v30=>(Aa (Ab 34 [(rdV v3)]) fun v31=>(cDo (n2 (O.st 2) (rdV v2) (rdV v30)) (cWr X3 v31 Ao)))) (Aa (Ab 43 [(rdV v3)]) fun v32=>(Aa (o2 O.gt (rdV v32) (rdV (.n .i64 0))) fun v33=>(Aa (oG false (rdV v33) (oV R6)) fun v34=>(Aa (o3 pkF (rdV v33) (rdV (.b true)) (rdV v34)) fun v35=>(Aa (oG false (rdV v35) (m1 (O.ln 2) (rdV v6))) fun v36=>(Aa (oG false (rdV v35) (Ab 46 [(rdV v36)])) fun v37=>(Aa (oG false (rdV v35) (o1 F3 (rdV v37))) fun v38=>(Aa (o3 pkF (rdV v35) (rdV (.b true)) (rdV v38)) fun v39=>(As (Ap (rdV v39) (Aa (nL (O.bu [.n .u32 0,.o .sl] [(.int .u32 0),.nilsl] []) []) fun v40=>(cDo (n2 (O.st 2) (rdV v2) (rdV v40)) (cWr X3 (.n .i64 5) Ao))) Ah) Ah)))))))))) Ah)))) (Aa (m1 (O.ln 2) (rdV v6)) fun v41=>(cDo (n2 (O.st 2) (rdV v2) (rdV v41)) (cWr X3 (.n .i64 0) Ao))))))))))))))) [vN 2 R2,vT R3]))
theorem k35:QeOk ⟨35,eZ Tryd.f35,p35 zO⟩:=qz 63 1 [2,3,6,16] Tryd.func35 (by kernel_rfl) (by kernel_rfl)
def p36 (O:Oz):Phi → HF:=fnQ (An fun v1=>(A1 (cWr X2 (.o .sl) (Aa (Ab 43 [(rdV v1)]) fun v2=>(Aa (Ab 55 [(rdV v1),(rdV v2)]) fun v3=>(cWr X2 v3 Ao)))) [vT R2]))
theorem k36:QeOk ⟨36,eZ Tryd.f36,p36 zO⟩:=qz 7 1 [2] Tryd.func36 (by kernel_rfl) (by kernel_rfl)
def p37 (O:Oz):Phi → HF:=fnQ (An fun v1=>(An fun v2=>(An fun v3=>(An fun v4=>(An fun v5=>(A1 (Aa (n1 (O.bx 91) (rdV v2)) fun v6=>(Aa (n1 (O.bx 35) (rdV v4)) fun v7=>(cWr X10 (.b false) (Aa (m1 (O.ln 2) (rdV v7)) fun v8=>(Aa (Ab 56 [(rdV v8),(rdV v5)]) fun v9=>(Aa (o2 O.ne (rdV v9) (rdV (.n .i64 0))) fun v10=>(Aa (oG false (rdV v10) (oV (rdV v1))) fun v11=>(Aa (oG false (rdV v10) (o1 ncF (rdV v11))) fun v12=>(Aa (oG false (rdV v10) (o1 (O.fa 1) (rdV v12))) fun v13=>(Aa (oG false (rdV v10) (o1 (O.fa 1) (rdV v13))) fun v14=>(Aa (oG false (rdV v10) (m1 O.ld (rdV v14))) fun v15=>(Aa (oG false (rdV v10) (o2 O.eq (rdV v15) (rdV (.n .u32 4294967295)))) fun v16=>(Aa (o3 pkF (rdV v10) (rdV (.b true)) (rdV v16)) fun v17=>(As (Ap (rdV v17) (cWr X10 (.b false) Ao) Ah) (Aa (o1 (O.fa 0) (rdV v6)) fun v18=>(Aa (m1 O.ld (rdV v18)) fun v19=>(Aa (o2 O.eq (rdV v19) (rdV (.n .u32 0))) fun v20=>(As (Ap (rdV v20) (Aa (o1 (O.fa 1) (rdV v6)) fun v21=>(Aa (m1 O.ld (rdV v21)) fun v22=>(Aa (o2 O.eq (rdV v22) (rdV (.n .u32 0))) fun v23=>(Aa (oG true (rdV v23) (oV (rdV v3))) fun v24=>(Aa (oG true (rdV v23) (o2 O.eq (rdV v24) (rdV (.n .u64 0)))) fun v25=>(Aa (o3 pkF (rdV v23) (rdV v25) (rdV (.b false))) fun v26=>(Aa (oG true (rdV v26) (oV (rdV v1))) fun v27=>(Aa (oG true (rdV v26) (o1 ncF (rdV v27))) fun v28=>(Aa (oG true (rdV v26) (o1 (O.fa 1) (rdV v28))) fun v29=>(Aa (oG true (rdV v26) (o1 (O.fa 2) (rdV v29))) fun v30=>(Aa (oG true (rdV v26) (m1 O.ld (rdV v30))) fun v31=>(Aa (oG true (rdV v26) (o2 O.eq (rdV v31) (rdV (.n .u32 0)))) fun v32=>(Aa (o3 pkF (rdV v26) (rdV v32) (rdV (.b false))) fun v33=>(cWr X10 v33 Ao)))))))))))))) Ah) (Aa (o1 (O.fa 1) (rdV v6)) fun v34=>(Aa (m1 O.ld (rdV v34)) fun v35=>(Aa (o1 ncF (rdV v1)) fun v36=>(Aa (o1 (O.fa 1) (rdV v36)) fun v37=>(Aa (o1 (O.fa 2) (rdV v37)) fun v38=>(Aa (m1 O.ld (rdV v38)) fun v39=>(Aa (nL (O.pq .maxI) [(rdV v39),(rdV (.n .u32 1))]) fun v40=>(Aa (o2 O.ge (rdV v35) (rdV v40)) fun v41=>(Aa (oG true (rdV v41) (o1 (O.fa 1) (rdV v6))) fun v42=>(Aa (oG true (rdV v41) (m1 O.ld (rdV v42))) fun v43=>(Aa (oG true (rdV v41) (oV (rdV v1))) fun v44=>(Aa (oG true (rdV v41) (o1 ncF (rdV v44))) fun v45=>(Aa (oG true (rdV v41) (o1 (O.fa 1) (rdV v45))) fun v46=>(Aa (oG true (rdV v41) (o1 (O.fa 1) (rdV v46))) fun v47=>(Aa (oG true (rdV v41) (m1 O.ld (rdV v47))) fun v48=>(Aa (oG true (rdV v41) (o2 O.le (rdV v43) (rdV v48))) fun v49=>(Aa (o3 pkF (rdV v41) (rdV v49) (rdV (.b false))) fun v50=>(Aa (o1 (O.fa 0) (rdV v6)) fun v51=>(Aa (m1 O.ld (rdV v51)) fun v52=>(Aa (o1 ncF (rdV v1)) fun v53=>(Aa (o1 (O.fa 1) (rdV v53)) fun v54=>(Aa (o1 (O.fa 0) (rdV v54)) fun v55=>(Aa (m1 O.ld (rdV v55)) fun v56=>(Aa (o2 O.eq (rdV v52) (rdV v56)) fun v57=>(Aa (oG true (rdV v57) (oV (rdV v50))) fun v58=>(Aa (o3 pkF (rdV v57) (rdV v58) (rdV (.b false))) fun v59=>(Aa (oG true (rdV v59) (oV (rdV v3))) fun v60=>(Aa (oG true (rdV v59) (oV (rdV v1))) fun v61=>(Aa (oG true (rdV v59) (o1 ncF (rdV v61))) fun v62=>(Aa (oG true (rdV v59) (o1 (O.fa 0) (rdV v62))) fun v63=>(Aa (oG true (rdV v59) (m1 O.ld (rdV v63))) fun v64=>(Aa (oG true (rdV v59) (o1 (O.fa 0) (rdV v6))) fun v65=>(Aa (oG true (rdV v59) (m1 O.ld (rdV v65))) fun v66=>(Aa (oG true (rdV v59) (o1 (O.fa 1) (rdV v6))) fun v67=>(Aa (oG true (rdV v59) (m1 O.ld (rdV v67))) fun v68=>(Aa (oG true (rdV v59) (Ab 38 [(rdV v64),(rdV v66),(rdV v68)])) fun v69=>(Aa (oG true (rdV v59) (o2 O.eq (rdV v60) (rdV v69))) fun v70=>(Aa (o3 pkF (rdV v59) (rdV v70) (rdV (.b false))) fun v71=>(cWr X10 v71 Ao))))))))))))))))))))))))))))))))))))))))))))))))))))))))) [vT R10]))))))
theorem k37:QeOk ⟨37,eZ Tryd.f37,p37 zO⟩:=qz 85 5 [10] Tryd.func37 (by kernel_rfl) (by kernel_rfl)
def p38 (O:Oz):Phi → HF:=fnQ (An fun v1=>(An fun v2=>(An fun v3=>(A1 (cWr X6 (.n .u64 0) (Aa (o2 (F5 false .ptr) (rdV v1) (rdV (.o .ptr))) fun v4=>(Aa (oG false (rdV v4) (oV (rdV v1))) fun v5=>(Aa (oG false (rdV v4) (o1 ncF (rdV v5))) fun v6=>(Aa (oG false (rdV v4) (o1 (O.fa 0) (rdV v6))) fun v7=>(Aa (oG false (rdV v4) (m1 O.ld (rdV v7))) fun v8=>(Aa (oG false (rdV v4) (Ab 57 [(rdV v8)])) fun v9=>(Aa (oG false (rdV v4) (o1 F3 (rdV v9))) fun v10=>(Aa (o3 pkF (rdV v4) (rdV (.b true)) (rdV v10)) fun v11=>(As (Ap (rdV v11) (cWr X6 (.n .u64 0) Ao) Ah) (Aa (n0Z O.al (.cells [.o .sl,.n .i64 0] 81 .exact)) fun v12=>(Aa (Ab 39 [(rdV v12),(rdV v2)]) fun v13=>(Aa (Ab 39 [(rdV v13),(rdV v3)]) fun v14=>(Aa (Ab 27 [(rdV v14)]) fun v15=>(Aa (o1 (exG 0) (rdV v15)) fun v16=>(Aa (o1 (exG 1) (rdV v15)) fun v17=>(Aa (Ab 58 [(rdV v1),(rdV (.s (Ac [116,111,107,101,110]))),(rdV (.o .sl))]) fun v18=>(Aa (Ab 49 [(rdV v18),(rdV v16)]) fun v19=>(cWr X6 v19 Ao))))))))))))))))))) [vT R6]))))
theorem k38:QeOk ⟨38,eZ Tryd.f38,p38 zO⟩:=qz 32 3 [6] Tryd.func38 (by kernel_rfl) (by kernel_rfl)
def p39 (O:Oz):Phi → HF:=fnQ (An fun v1=>(An fun v2=>(A1 (cWr X4 (.o .ptr) (Aa (o2 O.hr (rdV v2) (rdV (.n .u64 16))) fun v3=>(Aa (o1 (O.cv .u16) (rdV v3)) fun v4=>(Aa (Ab 59 [(rdV v1),(rdV v4)]) fun v5=>(Aa (o1 (O.cv .u16) (rdV v2)) fun v6=>(Aa (Ab 59 [(rdV v5),(rdV v6)]) fun v7=>(cWr X4 v7 Ao))))))) [vT R4])))
theorem k39:QeOk ⟨39,eZ Tryd.f39,p39 zO⟩:=qz 13 2 [4] Tryd.func39 (by kernel_rfl) (by kernel_rfl)
def p40 (O:Oz):Phi → HF:=fnQ (An fun v1=>(An fun v2=>(An fun v3=>(An fun v4=>(An fun v5=>(A1 (E3 (n0Z O.al (.bs 115792089237316195423570985008687907853269984665640564039457584007913129639936 37 .exact)) X6 fun v6=>(Aa (m1 O.ld (rdV v2)) fun v7=>(Aa (o1 ncF (rdV v7)) fun v8=>(Aa (o1 (O.fa 0) (rdV v8)) fun v9=>(Aa (m1 O.ld (rdV v9)) fun v10=>(Aa (o1 (O.fa 0) (rdV v3)) fun v11=>(Aa (m1 O.ld (rdV v11)) fun v12=>(Aa (o1 (O.fa 1) (rdV v3)) fun v13=>(Aa (m1 O.ld (rdV v13)) fun v14=>(Aa (o1 (O.fa 2) (rdV v4)) fun v15=>(Aa (m1 O.ld (rdV v15)) fun v16=>(Aa (m1 O.ld (rdV v5)) fun v17=>(Aa (Ab 41 [(rdV v10),(rdV v1),(rdV v12),(rdV v14),(rdV v16),(rdV v17)]) fun v18=>(Aa (n2 (O.st 32) (rdV v6) (rdV v18)) fun v19=>Ao)))))))))))))) [vN 32 R6]))))))
theorem k40:QeOk ⟨40,eZ Tryd.f40,p40 zO⟩:=qz 20 5 [6] Tryd.func40 (by kernel_rfl) (by kernel_rfl)
def p41 (O:Oz):Phi → HF:=fnQ (An fun v1=>(An fun v2=>(An fun v3=>(An fun v4=>(An fun v5=>(An fun v6=>(A1 (Aa (n1 (O.bx 32) (rdV v3)) fun v7=>(Aa (n1 (O.bx 32) (rdV v4)) fun v8=>(Aa (n1 (O.bx 22) (rdV v5)) fun v9=>(Aa (n1 (O.bx 22) (rdV v6)) fun v10=>(E3 (n0Z O.al (.bs 115792089237316195423570985008687907853269984665640564039457584007913129639936 37 .exact)) X12 fun v11=>(Aa (o2 O.ne (rdV v2) (rdV (.n .i64 0))) fun v12=>(Aa (oG true (rdV v12) (oV (rdV v2))) fun v13=>(Aa (oG true (rdV v12) (o2 O.ne (rdV v13) (rdV (.n .i64 1)))) fun v14=>(Aa (o3 pkF (rdV v12) (rdV v14) (rdV (.b false))) fun v15=>(As (Ap (rdV v15) (Aa (nL (O.bu zF32 zA32 []) []) fun v16=>(cDo (n2 (O.st 32) (rdV v11) (rdV v16)) Ao)) Ah) (Aa (o1 (O.cv .u8) (rdV v2)) fun v17=>(Aa (nL (O.bs 5 1 1) [(rdV v17)]) fun v18=>(Aa (nL (mfG (.func 61) 0) [(rdV v7)]) fun v19=>(Aa (Gc (rdV (.fn (.func 60) [] [])) [(rdV v19)]) fun v20=>(Aa (nL (mfG (.func 62) 0) [(rdV v8)]) fun v21=>(Aa (Gc (rdV (.fn (.func 60) [] [])) [(rdV v21)]) fun v22=>(Aa (nL (mfG (.func 63) 0) [(rdV v9)]) fun v23=>(Aa (Gc (rdV (.fn (.func 60) [] [])) [(rdV v23)]) fun v24=>(Aa (nL (mfG (.func 64) 0) [(rdV v10)]) fun v25=>(Aa (Gc (rdV (.fn (.func 60) [] [])) [(rdV v25)]) fun v26=>(Aa (nL (O.bs 28 1 5) [(rdV v18),(rdV v20),(rdV v22),(rdV v24),(rdV v26)]) fun v27=>(Aa (Ab 58 [(rdV v1),(rdV (.s (Ac [119,97,121]))),(rdV v27)]) fun v28=>(cDo (n2 (O.st 32) (rdV v11) (rdV v28)) Ao))))))))))))))))))))))) [vN 32 R12])))))))
theorem k41:QeOk ⟨41,eZ Tryd.f41,p41 zO⟩:=qz 39 6 [12] Tryd.func41 (by kernel_rfl) (by kernel_rfl)
def p42 (O:Oz):Phi → HF:=fnQ (An fun v1=>(A1 (cWr X2 (.n .u32 0) (Aa (Ab 53 [(rdV v1),(rdV (.n .i64 4))]) fun v2=>(Aa (o1 (O.cv .u32) (rdV v2)) fun v3=>(cWr X2 v3 Ao)))) [vT R2]))
theorem k42:QeOk ⟨42,eZ Tryd.f42,p42 zO⟩:=qz 6 1 [2] Tryd.func42 (by kernel_rfl) (by kernel_rfl)
def p43 (O:Oz):Phi → HF:=fnQ (An fun v1=>(A1 (cWr X2 (.n .i64 0) (Aa (o2 (F5 false .ptr) (rdV v1) (rdV (.o .ptr))) fun v2=>(As (Ap (rdV v2) (cWr X2 (.n .i64 0) Ao) Ah) (Aa (o1 ncF (rdV v1)) fun v3=>(Aa (o1 (O.fa 0) (rdV v3)) fun v4=>(Aa (m1 O.ld (rdV v4)) fun v5=>(Aa (o1 O.lv (rdV v5)) fun v6=>(cWr X2 v6 Ao)))))))) [vT R2]))
theorem k43:QeOk ⟨43,eZ Tryd.f43,p43 zO⟩:=qz 10 1 [2] Tryd.func43 (by kernel_rfl) (by kernel_rfl)
def p44 (O:Oz):Phi → HF:=fnQ (An fun v1=>(An fun v2=>(An fun v3=>(An fun v4=>(An fun v5=>(A1 (E3 (n0Z O.al (.bs 115792089237316195423570985008687907853269984665640564039457584007913129639936 37 .exact)) X6 fun v6=>(Aa (m1 O.ld (rdV v2)) fun v7=>(Aa (o1 ncF (rdV v7)) fun v8=>(Aa (o1 (O.fa 0) (rdV v8)) fun v9=>(Aa (m1 O.ld (rdV v9)) fun v10=>(Aa (o1 (O.fa 1) (rdV v3)) fun v11=>(Aa (m1 O.ld (rdV v11)) fun v12=>(Aa (o1 (O.fa 2) (rdV v3)) fun v13=>(Aa (m1 O.ld (rdV v13)) fun v14=>(Aa (m1 O.ld (rdV v4)) fun v15=>(Aa (m1 O.ld (rdV v5)) fun v16=>(Aa (Ab 41 [(rdV v10),(rdV v1),(rdV v12),(rdV v14),(rdV v15),(rdV v16)]) fun v17=>(Aa (n2 (O.st 32) (rdV v6) (rdV v17)) fun v18=>Ao))))))))))))) [vN 32 R6]))))))
theorem k44:QeOk ⟨44,eZ Tryd.f44,p44 zO⟩:=qz 19 5 [6] Tryd.func44 (by kernel_rfl) (by kernel_rfl)
def p45 (O:Oz):Phi → HF:=fnQ (An fun v1=>(A1 (cWr X2 (.o .ptr) (cWr X3 (.n .i64 0) (Aa (Ab 57 [(rdV v1)]) fun v2=>(Aa (o1 F3 (rdV v2)) fun v3=>(As (Ap (rdV v3) (cWr X2 (.o .ptr) (cWr X3 (.n .i64 1) Ao)) Ah) (Aa (Ab 29 [(rdV v1)]) fun v4=>(Aa (nL (O.bu [.o .sl] [.nilsl] [(0,1)]) [(rdV v4)]) fun v5=>(Aa (n1 (O.bx 122) (rdV v5)) fun v6=>(cWr X2 v6 (cWr X3 (.n .i64 0) Ao)))))))))) [vT R2,vT R3]))
theorem k45:QeOk ⟨45,eZ Tryd.f45,p45 zO⟩:=qz 11 1 [2,3] Tryd.func45 (by kernel_rfl) (by kernel_rfl)
def p46 (O:Oz):Phi → HF:=fnQ (An fun v1=>(A1 (Aa (n1 (O.bx 35) (rdV v1)) fun v2=>(cWr X2 (.b false) (cWr X3 (.n .u32 1) (Aa (o1 (O.fa 1) (rdV v2)) fun v3=>(Aa (m1 O.ld (rdV v3)) fun v4=>(Aa (o1 O.lv (rdV v4)) fun v5=>(cWr X9 (.n .i64 0) (As (Ds 0 (O.lp 1000000 (Aa (o2 O.lt R9 (rdV v5)) fun v6=>(As (Ap (rdV v6) Ah (Hx 0)) (As (Ds 1 (Aa (o2 (O.ix 4) (rdV v4) R9) fun v7=>(Aa (m1 (O.ln 4) (rdV v7)) fun v8=>(Aa (n0Z O.al (.cells [.n .u32 0,.n .u32 0,.n .u32 0,.b false] 65 .exact)) fun v9=>(cDo (n2 (O.st 4) (rdV v9) (rdV v8)) (Aa (o1 (O.fa 0) (rdV v9)) fun v10=>(Aa (m1 O.ld (rdV v10)) fun v11=>(Aa (oV R3) fun v12=>(Aa (o2 O.lt (rdV v11) (rdV v12)) fun v13=>(Aa (oG false (rdV v13) (o1 (O.fa 0) (rdV v9))) fun v14=>(Aa (oG false (rdV v13) (m1 O.ld (rdV v14))) fun v15=>(Aa (oG false (rdV v13) (o1 (O.fa 0) (rdV v2))) fun v16=>(Aa (oG false (rdV v13) (m1 O.ld (rdV v16))) fun v17=>(Aa (oG false (rdV v13) (o2 O.ge (rdV v15) (rdV v17))) fun v18=>(Aa (o3 pkF (rdV v13) (rdV (.b true)) (rdV v18)) fun v19=>(As (Ap (rdV v19) (cWr X2 (.b false) Ao) Ah) (Aa (o1 (O.fa 0) (rdV v9)) fun v20=>(Aa (m1 O.ld (rdV v20)) fun v21=>(Aa (o2 O.ad (rdV v21) (rdV (.n .u32 1))) fun v22=>(cWr X3 v22 Ah)))))))))))))))))))) (Aa (o2 O.ad R9 (rdV (.n .i64 1))) fun v23=>(cWr X9 v23 Ah))))))) (Aa (o1 (O.fa 0) (rdV v2)) fun v24=>(Aa (m1 O.ld (rdV v24)) fun v25=>(Aa (o2 O.gt (rdV v25) (rdV (.n .u32 0))) fun v26=>(Aa (oG true (rdV v26) (o1 (O.fa 1) (rdV v2))) fun v27=>(Aa (oG true (rdV v26) (m1 O.ld (rdV v27))) fun v28=>(Aa (oG true (rdV v26) (o1 O.lv (rdV v28))) fun v29=>(Aa (oG true (rdV v26) (o2 O.le (rdV v29) (rdV (.n .i64 16)))) fun v30=>(Aa (o3 pkF (rdV v26) (rdV v30) (rdV (.b false))) fun v31=>(cWr X2 v31 Ao))))))))))))))))) [vT R2]))
theorem k46:QeOk ⟨46,eZ Tryd.f46,p46 zO⟩:=qz 37 1 [2,3,9] Tryd.func46 (by kernel_rfl) (by kernel_rfl)
def p47 (O:Oz):Phi → HF:=fnQ (An fun v1=>(An fun v2=>(A1 (Aa (n1 (O.bx 86) (rdV v1)) fun v3=>(cWr X4 (.o .sl) (cWr X5 (.n .i64 0) (Aa (m1 (O.ln 7) (rdV v3)) fun v4=>(Aa (Ab 65 [(rdV v4)]) fun v5=>(Aa (o1 F3 (rdV v5)) fun v6=>(As (Ap (rdV v6) (cWr X4 (.o .sl) (cWr X5 (.n .i64 1) Ao)) Ah) (Aa (m1 (O.ln 7) (rdV v3)) fun v7=>(Aa (Ab 66 [(rdV v7)]) fun v8=>(Aa (Ab 25 [(rdV v8),(rdV v2)]) fun v9=>(Aa (Ab 27 [(rdV v9)]) fun v10=>(Aa (o1 (exG 0) (rdV v10)) fun v11=>(Aa (o1 (exG 1) (rdV v10)) fun v12=>(Aa (o2 O.ne (rdV v12) (rdV (.n .i64 0))) fun v13=>(As (Ap (rdV v13) (cWr X4 (.o .sl) (cWr X5 v12 Ao)) Ah) (Aa (Ab 67 [(rdV v11)]) fun v14=>(Aa (Ab 39 [(rdV v9),(rdV v14)]) fun v15=>(Aa (Ab 27 [(rdV v15)]) fun v16=>(Aa (o1 (exG 0) (rdV v16)) fun v17=>(Aa (o1 (exG 1) (rdV v16)) fun v18=>(cWr X4 v17 (cWr X5 v18 Ao)))))))))))))))))))))) [vT R4,vT R5])))
theorem k47:QeOk ⟨47,eZ Tryd.f47,p47 zO⟩:=qz 31 2 [4,5] Tryd.func47 (by kernel_rfl) (by kernel_rfl)
def p48 (O:Oz):Phi → HF:=fnQ (An fun v1=>(A1 (E3 (n0Z O.al (.bs 115792089237316195423570985008687907853269984665640564039457584007913129639936 37 .exact)) X2 fun v2=>(Aa (Ab 58 [(rdV v1),(rdV (.s (Ac [104,101,108,108,111]))),(rdV (.o .sl))]) fun v3=>(cDo (n2 (O.st 32) (rdV v2) (rdV v3)) Ao))) [vN 32 R2]))
theorem k48:QeOk ⟨48,eZ Tryd.f48,p48 zO⟩:=qz 5 1 [2] Tryd.func48 (by kernel_rfl) (by kernel_rfl)
def p49 (O:Oz):Phi → HF:=fnQ (An fun v1=>(An fun v2=>(A1 (Aa (n1 (O.bx 37) (rdV v1)) fun v3=>(cWr X4 (.n .u64 0) (Aa (oSa 32 1 (rdV v3) none none none) fun v4=>(Aa (nL (O.bs 28 1 1) [(rdV v2)]) fun v5=>(Aa (Ab 68 [(rdV v4),(rdV v5)]) fun v6=>(Aa (n0Z O.al (.bs 115792089237316195423570985008687907853269984665640564039457584007913129639936 130 .exact)) fun v7=>(cDo (n2 (O.st 32) (rdV v7) (rdV v6)) (Aa (oSa 32 1 (rdV v7) none none none) fun v8=>(Aa (Ab 32 [(rdV v8)]) fun v9=>(Aa (Ab 33 [(rdV v9)]) fun v10=>(cWr X4 v10 Ao))))))))))) [vT R4])))
theorem k49:QeOk ⟨49,eZ Tryd.f49,p49 zO⟩:=qz 13 2 [4] Tryd.func49 (by kernel_rfl) (by kernel_rfl)
def p50 (O:Oz):Phi → HF:=fnQ (An fun v1=>(A1 (Aa (n1 (O.bx 86) (rdV v1)) fun v2=>(cWr X2 (.o .sl) (Aa (m1 (O.ln 7) (rdV v2)) fun v3=>(Aa (Ab 65 [(rdV v3)]) fun v4=>(Aa (o1 F3 (rdV v4)) fun v5=>(As (Ap (rdV v5) (cWr X2 (.o .sl) Ao) Ah) (Aa (m1 (O.ln 7) (rdV v2)) fun v6=>(Aa (Ab 66 [(rdV v6)]) fun v7=>(Aa (Ab 27 [(rdV v7)]) fun v8=>(Aa (o1 (exG 0) (rdV v8)) fun v9=>(Aa (o1 (exG 1) (rdV v8)) fun v10=>(cWr X2 v9 Ao)))))))))))) [vT R2]))
theorem k50:QeOk ⟨50,eZ Tryd.f50,p50 zO⟩:=qz 15 1 [2] Tryd.func50 (by kernel_rfl) (by kernel_rfl)
def p51 (O:Oz):Phi → HF:=fnQ (An fun v1=>(A1 (E3 (n0Z O.al (.cells [.n .u8 0,.n .u32 0,.n .u32 0,.n .u32 0,.n .u32 0,.n .u32 0,.o .sl] 86 .exact)) X2 fun v2=>(cWr X3 (.n .u64 0) (cWr X4 (.n .i64 0) (Aa (Ab 32 [(rdV v1)]) fun v3=>(Aa (Ab 54 [(rdV v3)]) fun v4=>(Aa (nL (O.bu [.n .u8 0,.n .u32 0,.n .u32 0,.n .u32 0,.n .u32 0,.n .u32 0,.o .sl] [(.int .u8 0),(.int .u32 0),(.int .u32 0),(.int .u32 0),(.int .u32 0),(.int .u32 0),.nilsl] [(0,1)]) [(rdV v4)]) fun v5=>(Aa (n0Z O.al (.cells [.n .u8 0,.n .u32 0,.n .u32 0,.n .u32 0,.n .u32 0,.n .u32 0,.o .sl] 86 .exact)) fun v6=>(cDo (n2 (O.st 7) (rdV v6) (rdV v5)) (Aa (o1 (O.fa 1) (rdV v6)) fun v7=>(Aa (o1 (O.fa 2) (rdV v6)) fun v8=>(Aa (o1 (O.fa 3) (rdV v6)) fun v9=>(Aa (o1 (O.fa 4) (rdV v6)) fun v10=>(Aa (o1 (O.fa 5) (rdV v6)) fun v11=>(Aa (nL (O.bu [.o .ptr,.o .ptr,.o .ptr,.o .ptr,.o .ptr] [.nilptr,.nilptr,.nilptr,.nilptr,.nilptr] [(0,1),(1,1),(2,1),(3,1),(4,1)]) [(rdV v7),(rdV v8),(rdV v9),(rdV v10),(rdV v11)]) fun v12=>(cWr X22 (.n .i64 0) (As (Ds 0 (O.lp 1000000 (Aa (o2 O.lt R22 (rdV (.n .i64 5))) fun v13=>(As (Ap (rdV v13) Ah (Hx 0)) (As (Ds 1 (Aa (nL (O.pq (.idxArr 5 1 false)) [(rdV v12),R22]) fun v14=>(Aa (Ab 42 [(rdV v3)]) fun v15=>(Aa (o1 ncF (rdV v14)) fun v16=>(cDo (n2 (O.st 1) (rdV v16) (rdV v15)) Ah))))) (Aa (o2 O.ad R22 (rdV (.n .i64 1))) fun v17=>(cWr X22 v17 Ah))))))) (Aa (Ab 69 [(rdV v3)]) fun v18=>(Aa (n1 (O.sB 5) (rdV v18)) fun v19=>(Aa (Ab 29 [(rdV v19)]) fun v20=>(Aa (o1 (O.fa 6) (rdV v6)) fun v21=>(cDo (n2 (O.st 1) (rdV v21) (rdV v20)) (Aa (Ab 33 [(rdV v3)]) fun v22=>(Aa (Ab 42 [(rdV v3)]) fun v23=>(As (Ds 2 (Aa (Ab 34 [(rdV v3)]) fun v24=>(Aa (o2 O.ne (rdV v24) (rdV (.n .i64 0))) fun v25=>(As (Ap (rdV v25) (Aa (nL (O.bu [.n .u8 0,.n .u32 0,.n .u32 0,.n .u32 0,.n .u32 0,.n .u32 0,.o .sl] [(.int .u8 0),(.int .u32 0),(.int .u32 0),(.int .u32 0),(.int .u32 0),(.int .u32 0),.nilsl] []) []) fun v26=>(cDo (n2 (O.st 7) (rdV v2) (rdV v26)) (cWr X3 (.n .u64 0) (cWr X4 (.n .i64 4) Ao)))) (Aa (Ab 43 [(rdV v3)]) fun v27=>(Aa (o2 O.gt (rdV v27) (rdV (.n .i64 0))) fun v28=>(As (Ap (rdV v28) (Aa (nL (O.bu [.n .u8 0,.n .u32 0,.n .u32 0,.n .u32 0,.n .u32 0,.n .u32 0,.o .sl] [(.int .u8 0),(.int .u32 0),(.int .u32 0),(.int .u32 0),(.int .u32 0),(.int .u32 0),.nilsl] []) []) fun v29=>(cDo (n2 (O.st 7) (rdV v2) (rdV v29)) (cWr X3 (.n .u64 0) (cWr X4 (.n .i64 5) Ao)))) (Aa (o1 O.lv (rdV v1)) fun v30=>(Aa (o2 O.sb (rdV v30) (rdV (.n .i64 4))) fun v31=>(Aa (oVz O.sv 1 (rdV v1) none (some (rdV v31)) none) fun v32=>(Aa (Ab 67 [(rdV v32)]) fun v33=>(Aa (o2 O.ne (rdV v23) (rdV v33)) fun v34=>(As (Ap (rdV v34) (Aa (nL (O.bu [.n .u8 0,.n .u32 0,.n .u32 0,.n .u32 0,.n .u32 0,.n .u32 0,.o .sl] [(.int .u8 0),(.int .u32 0),(.int .u32 0),(.int .u32 0),(.int .u32 0),(.int .u32 0),.nilsl] []) []) fun v35=>(cDo (n2 (O.st 7) (rdV v2) (rdV v35)) (cWr X3 (.n .u64 0) (cWr X4 (.n .i64 11) Ao)))) (Aa (m1 (O.ln 7) (rdV v6)) fun v36=>(Aa (Ab 65 [(rdV v36)]) fun v37=>(Aa (o1 F3 (rdV v37)) fun v38=>(As (Ap (rdV v38) (Aa (nL (O.bu [.n .u8 0,.n .u32 0,.n .u32 0,.n .u32 0,.n .u32 0,.n .u32 0,.o .sl] [(.int .u8 0),(.int .u32 0),(.int .u32 0),(.int .u32 0),(.int .u32 0),(.int .u32 0),.nilsl] []) []) fun v39=>(cDo (n2 (O.st 7) (rdV v2) (rdV v39)) (cWr X3 (.n .u64 0) (cWr X4 (.n .i64 5) Ao)))) Ah) Ah))))) Ah))))))) Ah)))) Ah)))) (Aa (m1 (O.ln 7) (rdV v6)) fun v40=>(cDo (n2 (O.st 7) (rdV v2) (rdV v40)) (cWr X3 v22 (cWr X4 (.n .i64 0) Ao)))))))))))))))))))))))))))) [vN 7 R2,vT R3,vT R4]))
theorem k51:QeOk ⟨51,eZ Tryd.f51,p51 zO⟩:=qz 66 1 [2,3,4,22] Tryd.func51 (by kernel_rfl) (by kernel_rfl)
def p52 (O:Oz):Phi → HF:=fnQ (An fun v1=>(An fun v2=>(A1 (cWr X4 (.b false) (Aa (Ab 70 [(rdV v1),(rdV v2)]) fun v3=>(Aa (o2 O.ge (rdV v3) (rdV (.n .i64 0))) fun v4=>(cWr X4 v4 Ao)))) [vT R4])))
theorem k52:QeOk ⟨52,eZ Tryd.f52,p52 zO⟩:=qz 9 2 [4] Tryd.func52 (by kernel_rfl) (by kernel_rfl)
def p53 (O:Oz):Phi → HF:=fnQ (An fun v1=>(An fun v2=>(A1 (cWr X4 (.n .u64 0) (cWr X5 (.n .u64 0) (Aa (Ab 55 [(rdV v1),(rdV v2)]) fun v3=>(Aa (o1 O.lv (rdV v3)) fun v4=>(cWr X12 (.n .i64 0) (As (Ds 0 (O.lp 1000000 (Aa (o2 O.lt R12 (rdV v4)) fun v5=>(As (Ap (rdV v5) Ah (Hx 0)) (As (Ds 1 (Aa (o2 (O.ix 1) (rdV v3) R12) fun v6=>(Aa (m1 O.ld (rdV v6)) fun v7=>(Aa (oV R5) fun v8=>(Aa (o2 O.hl (rdV v8) (rdV (.n .u64 8))) fun v9=>(Aa (o1 (O.cv .u64) (rdV v7)) fun v10=>(Aa (o2 O.ro (rdV v9) (rdV v10)) fun v11=>(cWr X5 v11 Ah)))))))) (Aa (o2 O.ad R12 (rdV (.n .i64 1))) fun v12=>(cWr X12 v12 Ah))))))) (Aa (oV R5) fun v13=>(cWr X4 v13 Ao)))))))) [vT R4])))
theorem k53:QeOk ⟨53,eZ Tryd.f53,p53 zO⟩:=qz 23 2 [4,5,12] Tryd.func53 (by kernel_rfl) (by kernel_rfl)
def p54 (O:Oz):Phi → HF:=fnQ (An fun v1=>(A1 (cWr X2 (.n .u8 0) (Aa (Ab 53 [(rdV v1),(rdV (.n .i64 1))]) fun v2=>(Aa (o1 (O.cv .u8) (rdV v2)) fun v3=>(cWr X2 v3 Ao)))) [vT R2]))
theorem k54:QeOk ⟨54,eZ Tryd.f54,p54 zO⟩:=qz 6 1 [2] Tryd.func54 (by kernel_rfl) (by kernel_rfl)
def p55 (O:Oz):Phi → HF:=fnQ (An fun v1=>(An fun v2=>(A1 (cWr X4 (.o .sl) (Aa (nL (O.pq .maxI) [(rdV v2),(rdV (.n .i64 0))]) fun v3=>(Aa (o2 (F5 false .ptr) (rdV v1) (rdV (.o .ptr))) fun v4=>(Aa (oG false (rdV v4) (oV (rdV v1))) fun v5=>(Aa (oG false (rdV v4) (o1 ncF (rdV v5))) fun v6=>(Aa (oG false (rdV v4) (o1 (O.fa 1) (rdV v6))) fun v7=>(Aa (oG false (rdV v4) (m1 O.ld (rdV v7))) fun v8=>(Aa (o3 pkF (rdV v4) (rdV (.b true)) (rdV v8)) fun v9=>(As (Ap (rdV v9) (cWr X4 (.o .sl) Ao) Ah) (Aa (o1 ncF (rdV v1)) fun v10=>(Aa (o1 (O.fa 0) (rdV v10)) fun v11=>(Aa (m1 O.ld (rdV v11)) fun v12=>(Aa (o1 O.lv (rdV v12)) fun v13=>(Aa (o2 O.gt (rdV v3) (rdV v13)) fun v14=>(As (Ap (rdV v14) (Aa (o1 ncF (rdV v1)) fun v15=>(Aa (o1 (O.fa 0) (rdV v15)) fun v16=>(cDo (n2 (O.st 1) (rdV v16) (rdV (.o .sl))) (Aa (o1 ncF (rdV v1)) fun v17=>(Aa (o1 (O.fa 1) (rdV v17)) fun v18=>(cDo (n2 (O.st 1) (rdV v18) (rdV (.b true))) (cWr X4 (.o .sl) Ao))))))) Ah) (Aa (o1 ncF (rdV v1)) fun v19=>(Aa (o1 (O.fa 0) (rdV v19)) fun v20=>(Aa (m1 O.ld (rdV v20)) fun v21=>(Aa (oVz O.sv 1 (rdV v21) none (some (rdV v3)) none) fun v22=>(Aa (Ab 29 [(rdV v22)]) fun v23=>(Aa (o1 ncF (rdV v1)) fun v24=>(Aa (o1 (O.fa 0) (rdV v24)) fun v25=>(Aa (m1 O.ld (rdV v25)) fun v26=>(Aa (oVz O.sv 1 (rdV v26) (some (rdV v3)) none none) fun v27=>(Aa (o1 ncF (rdV v1)) fun v28=>(Aa (o1 (O.fa 0) (rdV v28)) fun v29=>(cDo (n2 (O.st 1) (rdV v29) (rdV v27)) (cWr X4 v23 Ao)))))))))))))))))))))))))))) [vT R4])))
theorem k55:QeOk ⟨55,eZ Tryd.f55,p55 zO⟩:=qz 46 2 [4] Tryd.func55 (by kernel_rfl) (by kernel_rfl)
def p56 (O:Oz):Phi → HF:=fnQ (An fun v1=>(An fun v2=>(A1 (Aa (n1 (O.bx 35) (rdV v1)) fun v3=>(E3 (n0Z O.al (.ints .i64 [Int.ofNat 0] 29 .exact)) X4 fun v4=>(As (Ds 0 (Aa (m1 (O.ln 2) (rdV v3)) fun v5=>(Aa (Ab 46 [(rdV v5)]) fun v6=>(Aa (o1 F3 (rdV v6)) fun v7=>(As (Ap (rdV v7) (cDo (n2 (O.st 1) (rdV v4) (rdV (.n .i64 1))) Ao) (Aa (o1 (O.fa 0) (rdV v3)) fun v8=>(Aa (m1 O.ld (rdV v8)) fun v9=>(Aa (o2 O.ge (rdV v2) (rdV v9)) fun v10=>(As (Ap (rdV v10) (cDo (n2 (O.st 1) (rdV v4) (rdV (.n .i64 5))) Ao) Ah) Ah))))) Ah))))) (Aa (m1 (O.ln 2) (rdV v3)) fun v11=>(Aa (m1 (O.ln 2) (rdV v3)) fun v12=>(Aa (nL (mfG (.func 73) 1) [(rdV v12)]) fun v13=>(Aa (Ab 71 [(rdV v11),(rdV v2)]) fun v14=>(cRz O.rc (m1 (O.ln 2) (rdV v3)) v12 (Aa (Ab 72 [(rdV v14),(rdV v13)]) fun v15=>(As (Ds 1 (As (cRf (rdV v15) [X20] Ah (As (Ds 2 (cDo (n2 (O.st 1) (rdV v4) (rdV (.n .i64 6))) Ao)) Ah)) Ah)) (cDo (n2 (O.st 1) (rdV v4) (rdV (.n .i64 0))) Ao))))))))))) [vC R4])))
theorem k56:QeOk ⟨56,eZ Tryd.f56,p56 zO⟩:=qz 21 2 [4,20] Tryd.func56 (by kernel_rfl) (by kernel_rfl)
def p57 (O:Oz):Phi → HF:=fnQ (An fun v1=>(A1 (cWr X2 (.b false) (Aa (o1 O.lv (rdV v1)) fun v2=>(Aa (o2 O.gt (rdV v2) (rdV (.n .i64 0))) fun v3=>(Aa (oG true (rdV v3) (oV (rdV v1))) fun v4=>(Aa (oG true (rdV v3) (o1 O.lv (rdV v4))) fun v5=>(Aa (oG true (rdV v3) (o2 O.le (rdV v5) (rdV (.n .i64 64)))) fun v6=>(Aa (o3 pkF (rdV v3) (rdV v6) (rdV (.b false))) fun v7=>(cWr X2 v7 Ao)))))))) [vT R2]))
theorem k57:QeOk ⟨57,eZ Tryd.f57,p57 zO⟩:=qz 11 1 [2] Tryd.func57 (by kernel_rfl) (by kernel_rfl)
def p58 (O:Oz):Phi → HF:=fnQ (An fun v1=>(An fun v2=>(An fun v3=>(A1 (E3 (n0Z O.al (.bs 115792089237316195423570985008687907853269984665640564039457584007913129639936 37 .exact)) X6 fun v4=>(Aa (o2 (F5 false .ptr) (rdV v1) (rdV (.o .ptr))) fun v5=>(As (Ap (rdV v5) (Aa (nL (O.bu zF32 zA32 []) []) fun v6=>(cDo (n2 (O.st 32) (rdV v4) (rdV v6)) Ao)) Ah) (Aa (o1 ncF (rdV v1)) fun v7=>(Aa (o1 (O.fa 0) (rdV v7)) fun v8=>(Aa (m1 O.ld (rdV v8)) fun v9=>(Aa (Ab 74 [(rdV v9),(rdV v2),(rdV v3)]) fun v10=>(Aa (o1 (exG 0) (rdV v10)) fun v11=>(Aa (o1 (exG 1) (rdV v10)) fun v12=>(Aa (n0Z O.al (.bs 115792089237316195423570985008687907853269984665640564039457584007913129639936 37 .exact)) fun v13=>(cDo (n2 (O.st 32) (rdV v13) (rdV v11)) (Aa (m1 (O.ln 32) (rdV v13)) fun v14=>(cDo (n2 (O.st 32) (rdV v4) (rdV v14)) Ao))))))))))))) [vN 32 R6]))))
theorem k58:QeOk ⟨58,eZ Tryd.f58,p58 zO⟩:=qz 23 3 [6] Tryd.func58 (by kernel_rfl) (by kernel_rfl)
def p59 (O:Oz):Phi → HF:=fnQ (An fun v1=>(An fun v2=>(A1 (cWr X4 (.o .ptr) (Aa (o2 O.hr (rdV v2) (rdV (.n .u64 8))) fun v3=>(Aa (o1 (O.cv .u8) (rdV v3)) fun v4=>(Aa (o1 (O.cv .u8) (rdV v2)) fun v5=>(Aa (nL (O.bs 5 1 2) [(rdV v4),(rdV v5)]) fun v6=>(Aa (Ab 26 [(rdV v1),(rdV v6)]) fun v7=>(cWr X4 v7 Ao))))))) [vT R4])))
theorem k59:QeOk ⟨59,eZ Tryd.f59,p59 zO⟩:=qz 13 2 [4] Tryd.func59 (by kernel_rfl) (by kernel_rfl)
def p60 (O:Oz):Phi → HF:=fnQ (An fun v1=>(A1 (cWr X2 (.o .sl) (Aa (n0Z O.al (.cells [.o .sl,.n .i64 0] 81 .exact)) fun v2=>(Aa (Gc (rdV v1) [(rdV v2)]) fun v3=>(Aa (Ab 27 [(rdV v2)]) fun v4=>(Aa (o1 (exG 0) (rdV v4)) fun v5=>(Aa (o1 (exG 1) (rdV v4)) fun v6=>(cWr X2 v5 Ao))))))) [vT R2]))
theorem k60:QeOk ⟨60,eZ Tryd.f60,p60 zO⟩:=qz 13 1 [2] Tryd.func60 (by kernel_rfl) (by kernel_rfl)
def p61 (O:Oz):Phi → HF:=fnQ (An fun v1=>(An fun v2=>(A1 (Aa (m1 O.ld (rdV v2)) fun v3=>(Aa (Ab 39 [(rdV v1),(rdV v3)]) fun v4=>Ah)) [])))
theorem k61:QeOk ⟨61,eZ Tryd.f61,p61 zO⟩:=qz 6 2 [] Tryd.func61 (by kernel_rfl) (by kernel_rfl)
def p62 (O:Oz):Phi → HF:=fnQ (An fun v1=>(An fun v2=>(A1 (Aa (m1 O.ld (rdV v2)) fun v3=>(Aa (Ab 39 [(rdV v1),(rdV v3)]) fun v4=>Ah)) [])))
theorem k62:QeOk ⟨62,eZ Tryd.f62,p62 zO⟩:=qz 6 2 [] Tryd.func62 (by kernel_rfl) (by kernel_rfl)
def p63 (O:Oz):Phi → HF:=fnQ (An fun v1=>(An fun v2=>(A1 (Aa (m1 O.ld (rdV v2)) fun v3=>(Aa (Ab 25 [(rdV v1),(rdV v3)]) fun v4=>Ah)) [])))
theorem k63:QeOk ⟨63,eZ Tryd.f63,p63 zO⟩:=qz 6 2 [] Tryd.func63 (by kernel_rfl) (by kernel_rfl)
def p64 (O:Oz):Phi → HF:=fnQ (An fun v1=>(An fun v2=>(A1 (Aa (m1 O.ld (rdV v2)) fun v3=>(Aa (Ab 25 [(rdV v1),(rdV v3)]) fun v4=>Ah)) [])))
theorem k64:QeOk ⟨64,eZ Tryd.f64,p64 zO⟩:=qz 6 2 [] Tryd.func64 (by kernel_rfl) (by kernel_rfl)
def p65 (O:Oz):Phi → HF:=fnQ (An fun v1=>(A1 (Aa (n1 (O.bx 86) (rdV v1)) fun v2=>(cWr X2 (.b false) (Aa (o1 (O.fa 0) (rdV v2)) fun v3=>(Aa (m1 O.ld (rdV v3)) fun v4=>(Aa (o2 O.ge (rdV v4) (rdV (.n .u8 1))) fun v5=>(Aa (oG true (rdV v5) (o1 (O.fa 0) (rdV v2))) fun v6=>(Aa (oG true (rdV v5) (m1 O.ld (rdV v6))) fun v7=>(Aa (oG true (rdV v5) (o2 O.le (rdV v7) (rdV (.n .u8 5)))) fun v8=>(Aa (o3 pkF (rdV v5) (rdV v8) (rdV (.b false))) fun v9=>(Aa (oG true (rdV v9) (o1 (O.fa 6) (rdV v2))) fun v10=>(Aa (oG true (rdV v9) (m1 O.ld (rdV v10))) fun v11=>(Aa (oG true (rdV v9) (o1 O.lv (rdV v11))) fun v12=>(Aa (oG true (rdV v9) (o2 O.le (rdV v12) (rdV (.n .i64 256)))) fun v13=>(Aa (o3 pkF (rdV v9) (rdV v13) (rdV (.b false))) fun v14=>(Aa (oG true (rdV v14) (o1 (O.fa 0) (rdV v2))) fun v15=>(Aa (oG true (rdV v14) (m1 O.ld (rdV v15))) fun v16=>(Aa (oG true (rdV v14) (o2 (O.ia 6 1) (rdV (.p 0 0)) (rdV v16))) fun v17=>(Aa (oG true (rdV v14) (m1 O.ld (rdV v17))) fun v18=>(Aa (oG true (rdV v14) (m1 (O.ln 7) (rdV v2))) fun v19=>(Aa (oG true (rdV v14) (Gc (rdV v18) [(rdV v19)])) fun v20=>(Aa (o3 pkF (rdV v14) (rdV v20) (rdV (.b false))) fun v21=>(cWr X2 v21 Ao)))))))))))))))))))))) [vT R2]))
theorem k65:QeOk ⟨65,eZ Tryd.f65,p65 zO⟩:=qz 25 1 [2] Tryd.func65 (by kernel_rfl) (by kernel_rfl)
def p66 (O:Oz):Phi → HF:=fnQ (An fun v1=>(A1 (Aa (n1 (O.bx 86) (rdV v1)) fun v2=>(cWr X2 (.o .ptr) (Aa (n0Z O.al (.cells [.o .sl,.n .i64 0] 81 .exact)) fun v3=>(Aa (o1 (O.fa 0) (rdV v2)) fun v4=>(Aa (m1 O.ld (rdV v4)) fun v5=>(Aa (nL (O.bs 5 1 1) [(rdV v5)]) fun v6=>(Aa (Ab 26 [(rdV v3),(rdV v6)]) fun v7=>(Aa (o1 (O.fa 1) (rdV v2)) fun v8=>(Aa (m1 O.ld (rdV v8)) fun v9=>(Aa (o1 (O.fa 2) (rdV v2)) fun v10=>(Aa (m1 O.ld (rdV v10)) fun v11=>(Aa (o1 (O.fa 3) (rdV v2)) fun v12=>(Aa (m1 O.ld (rdV v12)) fun v13=>(Aa (o1 (O.fa 4) (rdV v2)) fun v14=>(Aa (m1 O.ld (rdV v14)) fun v15=>(Aa (o1 (O.fa 5) (rdV v2)) fun v16=>(Aa (m1 O.ld (rdV v16)) fun v17=>(Aa (nL (O.bu [.n .u32 0,.n .u32 0,.n .u32 0,.n .u32 0,.n .u32 0] [(.int .u32 0),(.int .u32 0),(.int .u32 0),(.int .u32 0),(.int .u32 0)] [(0,1),(1,1),(2,1),(3,1),(4,1)]) [(rdV v9),(rdV v11),(rdV v13),(rdV v15),(rdV v17)]) fun v18=>(cWr X23 (.n .i64 0) (As (Ds 0 (O.lp 1000000 (Aa (o2 O.lt R23 (rdV (.n .i64 5))) fun v19=>(As (Ap (rdV v19) Ah (Hx 0)) (As (Ds 1 (Aa (nL (O.pq (.idxArr 5 1 false)) [(rdV v18),R23]) fun v20=>(Aa (Ab 39 [(rdV v3),(rdV v20)]) fun v21=>Ah))) (Aa (o2 O.ad R23 (rdV (.n .i64 1))) fun v22=>(cWr X23 v22 Ah))))))) (Aa (o1 (O.fa 6) (rdV v2)) fun v23=>(Aa (m1 O.ld (rdV v23)) fun v24=>(Aa (m1 O.bS (rdV v24)) fun v25=>(Aa (Ab 75 [(rdV v3),(rdV v25)]) fun v26=>(cWr X2 v26 Ao))))))))))))))))))))))))) [vT R2]))
theorem k66:QeOk ⟨66,eZ Tryd.f66,p66 zO⟩:=qz 35 1 [2,23] Tryd.func66 (by kernel_rfl) (by kernel_rfl)
def p69 (O:Oz):Phi → HF:=fnQ (An fun v1=>(A1 (cWr X2 (.s (Ac [])) (Aa (Ab 81 [(rdV v1)]) fun v2=>(Aa (o1 (O.cv .i64) (rdV v2)) fun v3=>(Aa (Ab 55 [(rdV v1),(rdV v3)]) fun v4=>(Aa (m1 O.bS (rdV v4)) fun v5=>(cWr X2 v5 Ao)))))) [vT R2]))
theorem k69:QeOk ⟨69,eZ Tryd.f69,p69 zO⟩:=qz 9 1 [2] Tryd.func69 (by kernel_rfl) (by kernel_rfl)
def p70 (O:Oz):Phi → HF:=fnQ (An fun v1=>(An fun v2=>(A1 (cWr X4 (.n .i64 0) (Aa (o1 O.lv (rdV v1)) fun v3=>(cWr X8 (.n .i64 0) (As (Ds 0 (O.lp 1000000 (Aa (o2 O.lt R8 (rdV v3)) fun v4=>(As (Ap (rdV v4) Ah (Hx 0)) (As (Ds 1 (Aa (oV R8) fun v5=>(Aa (o2 (O.ix 1) (rdV v1) (rdV v5)) fun v6=>(Aa (m1 O.ld (rdV v6)) fun v7=>(Aa (o2 O.eq (rdV v2) (rdV v7)) fun v8=>(As (Ap (rdV v8) (cWr X4 v5 Ao) Ah) Ah)))))) (Aa (o2 O.ad R8 (rdV (.n .i64 1))) fun v9=>(cWr X8 v9 Ah))))))) (cWr X4 (.z .i64 0) Ao))))) [vT R4])))
theorem k70:QeOk ⟨70,eZ Tryd.f70,p70 zO⟩:=qz 19 2 [4,8] Tryd.func70 (by kernel_rfl) (by kernel_rfl)
def p71 (O:Oz):Phi → HF:=fnQ (An fun v1=>(An fun v2=>(A1 (Aa (n1 (O.bx 35) (rdV v1)) fun v3=>(E3 (n0Z O.al (.ints .u32 [Int.ofNat 0,Int.ofNat 0] 138 .exact)) X4 fun v4=>(Aa (o2 O.ad (rdV v2) (rdV (.n .u32 1))) fun v5=>(Aa (o1 (O.fa 0) (rdV v3)) fun v6=>(Aa (m1 O.ld (rdV v6)) fun v7=>(Aa (nL (O.bu [.n .u32 0,.n .u32 0] [(.int .u32 0),(.int .u32 0)] [(0,1),(1,1)]) [(rdV v5),(rdV v7)]) fun v8=>(cDo (n2 (O.st 2) (rdV v4) (rdV v8)) Ao))))))) [vN 2 R4])))
theorem k71:QeOk ⟨71,eZ Tryd.f71,p71 zO⟩:=qz 10 2 [4] Tryd.func71 (by kernel_rfl) (by kernel_rfl)
def p72 (O:Oz):Phi → HF:=fnQ (An fun v1=>(An fun v2=>(A1 (Aa (n1 (O.bx 138) (rdV v1)) fun v3=>(Aa (n1 (O.bx 141) (rdV v2)) fun v4=>(cWr X4 (.o .fn) (Aa (m1 (O.ln 2) (rdV v3)) fun v5=>(Aa (Ab 83 [(rdV v5)]) fun v6=>(Aa (nL (mfG (.func 84) 0) [(rdV v4)]) fun v7=>(Aa (Ab 82 [(rdV v6),(rdV v7)]) fun v8=>(cWr X4 v8 Ao)))))))) [vT R4])))
theorem k72:QeOk ⟨72,eZ Tryd.f72,p72 zO⟩:=qz 9 2 [4] Tryd.func72 (by kernel_rfl) (by kernel_rfl)
def p74 (O:Oz):Phi → HF:=fnQ (An fun v1=>(An fun v2=>(An fun v3=>(A1 (E3 (n0Z O.al (.bs 115792089237316195423570985008687907853269984665640564039457584007913129639936 37 .exact)) X6 fun v4=>(cWr X7 (.n .i64 0) (Aa (Ab 57 [(rdV v1)]) fun v5=>(Aa (o1 F3 (rdV v5)) fun v6=>(Aa (oG false (rdV v6) (oV (rdV v2))) fun v7=>(Aa (oG false (rdV v6) (o1 O.ls (rdV v7))) fun v8=>(Aa (oG false (rdV v6) (o2 O.gt (rdV v8) (rdV (.n .i64 65535)))) fun v9=>(Aa (o3 pkF (rdV v6) (rdV (.b true)) (rdV v9)) fun v10=>(As (Ap (rdV v10) (Aa (nL (O.bu zF32 zA32 []) []) fun v11=>(cDo (n2 (O.st 32) (rdV v4) (rdV v11)) (cWr X7 (.n .i64 1) Ao))) Ah) (Aa (n0Z O.al (.cells [.o .sl,.n .i64 0] 81 .exact)) fun v12=>(Aa (Ab 75 [(rdV v12),(rdV v2)]) fun v13=>(Aa (o1 O.lv (rdV v3)) fun v14=>(cWr X26 (.n .i64 0) (As (Ds 0 (O.lp 1000000 (Aa (o2 O.lt R26 (rdV v14)) fun v15=>(As (Ap (rdV v15) Ah (Hx 0)) (As (Ds 1 (Aa (o2 (O.ix 1) (rdV v3) R26) fun v16=>(Aa (m1 O.ld (rdV v16)) fun v17=>(Aa (o1 O.lv (rdV v17)) fun v18=>(Aa (o1 (O.cv .u32) (rdV v18)) fun v19=>(Aa (Ab 39 [(rdV v12),(rdV v19)]) fun v20=>(Aa (Ab 26 [(rdV v20),(rdV v17)]) fun v21=>Ah))))))) (Aa (o2 O.ad R26 (rdV (.n .i64 1))) fun v22=>(cWr X26 v22 Ah))))))) (Aa (Ab 27 [(rdV v12)]) fun v23=>(Aa (o1 (exG 0) (rdV v23)) fun v24=>(Aa (o1 (exG 1) (rdV v23)) fun v25=>(Aa (nL (O.bs 28 1 1) [(rdV v24)]) fun v26=>(Aa (Ab 68 [(rdV v1),(rdV v26)]) fun v27=>(cDo (n2 (O.st 32) (rdV v4) (rdV v27)) (cWr X7 (.n .i64 0) Ao))))))))))))))))))))) [vN 32 R6,vT R7]))))
theorem k74:QeOk ⟨74,eZ Tryd.f74,p74 zO⟩:=qz 45 3 [6,7,26] Tryd.func74 (by kernel_rfl) (by kernel_rfl)
def p75 (O:Oz):Phi → HF:=fnQ (An fun v1=>(An fun v2=>(A1 (cWr X4 (.o .ptr) (Aa (Ab 26 [(rdV v1),(rdV (.o .sl))]) fun v3=>(Aa (o1 O.ls (rdV v2)) fun v4=>(Aa (o2 O.gt (rdV v4) (rdV (.n .i64 65535))) fun v5=>(As (Ap (rdV v5) (Aa (o1 ncF (rdV v3)) fun v6=>(Aa (o1 (O.fa 1) (rdV v6)) fun v7=>(cDo (n2 (O.st 1) (rdV v7) (rdV (.n .i64 3))) (cWr X4 v3 Ao)))) Ah) (Aa (o1 O.ls (rdV v2)) fun v8=>(Aa (o1 (O.cv .u16) (rdV v8)) fun v9=>(Aa (Ab 59 [(rdV v3),(rdV v9)]) fun v10=>(Aa (n1 (O.sB 5) (rdV v2)) fun v11=>(Aa (Ab 26 [(rdV v10),(rdV v11)]) fun v12=>(cWr X4 v12 Ao))))))))))) [vT R4])))
theorem k75:QeOk ⟨75,eZ Tryd.f75,p75 zO⟩:=qz 22 2 [4] Tryd.func75 (by kernel_rfl) (by kernel_rfl)
def p81 (O:Oz):Phi → HF:=fnQ (An fun v1=>(A1 (cWr X2 (.n .u16 0) (Aa (Ab 53 [(rdV v1),(rdV (.n .i64 2))]) fun v2=>(Aa (o1 (O.cv .u16) (rdV v2)) fun v3=>(cWr X2 v3 Ao)))) [vT R2]))
theorem k81:QeOk ⟨81,eZ Tryd.f81,p81 zO⟩:=qz 6 1 [2] Tryd.func81 (by kernel_rfl) (by kernel_rfl)
def p82 (O:Oz):Phi → HF:=fnQ (An fun v1=>(An fun v2=>(A1 (Aa (n1 (O.bx 136) (rdV v1)) fun v3=>(Aa (n1 (O.bx 141) (rdV v2)) fun v4=>(cWr X4 (.o .fn) (Aa (nL (mfG (.func 92) 0) [(rdV v3),(rdV v4)]) fun v5=>(cWr X4 v5 Ao))))) [vT R4])))
theorem k82:QeOk ⟨82,eZ Tryd.f82,p82 zO⟩:=qz 6 2 [4] Tryd.func82 (by kernel_rfl) (by kernel_rfl)
def p83 (O:Oz):Phi → HF:=fnQ (An fun v1=>(A1 (Aa (n1 (O.bx 138) (rdV v1)) fun v2=>(cWr X2 (.o .fn) (Aa (nL (mfG (.func 93) 0) [(rdV v2)]) fun v3=>(cWr X2 v3 Ao)))) [vT R2]))
theorem k83:QeOk ⟨83,eZ Tryd.f83,p83 zO⟩:=qz 4 1 [2] Tryd.func83 (by kernel_rfl) (by kernel_rfl)
def p92 (O:Oz):Phi → HF:=fnQ (An fun v1=>(An fun v2=>(An fun v3=>(A1 (Aa (n1 (O.bx 141) (rdV v1)) fun v4=>(Aa (m1 O.ld (rdV v2)) fun v5=>(As (Ds 0 (As (cRf (rdV v5) [X6] (E3 (oV R6) X4 fun v6=>Ah) (As (Ds 1 (Aa (m1 O.ld (rdV v3)) fun v7=>(Aa (oV R4) fun v8=>(Aa (Gc (rdV v7) [(rdV v8)]) fun v9=>(Aa (oG true (rdV v9) (m1 O.ld (rdV v4))) fun v10=>(Aa (oG true (rdV v9) (oV R4)) fun v11=>(Aa (oG true (rdV v9) (Gc (rdV v10) [(rdV v11)])) fun v12=>(Aa (oG true (rdV v9) (o1 F3 (rdV v12))) fun v13=>(Aa (o3 pkF (rdV v9) (rdV v13) (rdV (.b false))) fun v14=>(As (Ap (rdV v14) Ao Ah) Ah)))))))))) Ah)) Ah)) Ah))) []))))
theorem k92:QeOk ⟨92,eZ Tryd.f92,p92 zO⟩:=qz 16 3 [4,6] Tryd.func92 (by kernel_rfl) (by kernel_rfl)
def p93 (O:Oz):Phi → HF:=fnQ (An fun v1=>(An fun v2=>(A1 (Aa (o1 (O.fa 0) (rdV v2)) fun v3=>(Aa (m1 O.ld (rdV v3)) fun v4=>(cWr X3 v4 (As (Ds 0 (O.lp 1000000 (Aa (oV R3) fun v5=>(Aa (o1 (O.fa 1) (rdV v2)) fun v6=>(Aa (m1 O.ld (rdV v6)) fun v7=>(Aa (o2 O.lt (rdV v5) (rdV v7)) fun v8=>(As (Ap (rdV v8) Ah (Hx 0)) (As (Ds 1 (Aa (oV R3) fun v9=>(Aa (Gc (rdV v1) [(rdV v9)]) fun v10=>(Aa (o1 F3 (rdV v10)) fun v11=>(As (Ap (rdV v11) Ao Ah) Ah))))) (Aa (oV R3) fun v12=>(Aa (o2 O.ad (rdV v12) (rdV (.n .u32 1))) fun v13=>(cWr X3 v13 Ah))))))))))) Ah)))) [])))
theorem k93:QeOk ⟨93,eZ Tryd.f93,p93 zO⟩:=qz 16 2 [3] Tryd.func93 (by kernel_rfl) (by kernel_rfl)
def p120 (O:Oz):Phi → HF:=fnQ (An fun v1=>(A1 (Aa (n1 (O.bx 86) (rdV v1)) fun v2=>(cWr X2 (.b false) (Aa (o1 (O.fa 3) (rdV v2)) fun v3=>(Aa (m1 O.ld (rdV v3)) fun v4=>(Aa (o2 O.eq (rdV v4) (rdV (.n .u32 0))) fun v5=>(Aa (oG true (rdV v5) (o1 (O.fa 4) (rdV v2))) fun v6=>(Aa (oG true (rdV v5) (m1 O.ld (rdV v6))) fun v7=>(Aa (oG true (rdV v5) (o2 O.eq (rdV v7) (rdV (.n .u32 0)))) fun v8=>(Aa (o3 pkF (rdV v5) (rdV v8) (rdV (.b false))) fun v9=>(Aa (oG true (rdV v9) (o1 (O.fa 5) (rdV v2))) fun v10=>(Aa (oG true (rdV v9) (m1 O.ld (rdV v10))) fun v11=>(Aa (oG true (rdV v9) (o2 O.eq (rdV v11) (rdV (.n .u32 0)))) fun v12=>(Aa (o3 pkF (rdV v9) (rdV v12) (rdV (.b false))) fun v13=>(cWr X2 v13 Ao)))))))))))))) [vT R2]))
theorem k120:QeOk ⟨120,eZ Tryd.f120,p120 zO⟩:=qz 16 1 [2] Tryd.func120 (by kernel_rfl) (by kernel_rfl)
end
end Go.Proofs.YtfdfdagbeeeomaaDoor.V2.S
namespace Go.Proofs.YtfdfdagbeeeomaaDoor.V2.S
open Go
set_option maxRecDepth 100000
set_option maxHeartbeats 4000000
set_option linter.unusedVariables false
attribute [local irreducible] fN fO nM gM pM Phi.fn mp bl At Bx Ce Ac
def ByteX (H:HF):Prop:=∀ {wb n:Nat} {m:T FObj} {bs x:Bs} {v:FV},WrA m n wb bs → Sl m n v x → (x=[] → v=.o .sl ∨ bs ≠ []) → bs.length + x.length ≤ 900000 → RetN 1 wb H [.p wb 0,v] n m (fun r n' m'=>r=.p wb 0 ∧ WrA m' n' wb (bs ++ x) ∧ Kx wb n m m')
def Ll (H:HF):Prop:=∀ {wb n:Nat} {m:T FObj} {bs x:Bs} {v:FV},WrA m n wb bs → Sl m n v x → (x=[] → v=.o .sl ∨ bs ≠ []) → bs.length + x.length ≤ 900000 → RetN 1 wb H [.p wb 0,v] n m (fun r n' m'=>r=.p wb 0 ∧ WrA m' n' wb (bs ++ x))
theorem byte_x {O:Oz} (hO:O=zO) (Φ:Phi):ByteX (p26 O Φ):=fun {wb n m bs x v} hW hv hx hl k P hn hf=>by
 obtain ⟨hwb,w,ha,hc⟩:=hW
 rcases hc with ⟨rfl,rfl⟩ | ⟨Db,h1,h2,rfl,hD,hne⟩
 ·rcases hv with ⟨rfl,rfl⟩ | ⟨b,o,L,K,fl,l,el,tl,g1,rfl,g2,g3,g4,rfl⟩
  ·
   conv=>lhs;whnf
   refine fa0 hO ?_
   conv=>lhs;whnf
   refine ldC hO ha (by rfl) ?_
   conv=>lhs;whnf
   refine eqT hO (by omega) ?_
   conv=>lhs;whnf
   refine fa0 hO ?_
   conv=>lhs;whnf
   refine ldC hO ha (by rfl) ?_
   conv=>lhs;whnf
   refine apNN hO ?_
   conv=>lhs;whnf
   refine fa0 hO ?_
   conv=>lhs;whnf
   refine stC hO ha (by kernel_rfl) (fun _ _ _=>rfl) (fun _=>rfl) ?_
   conv=>lhs;whnf
   exact hf _ _ _ (by omega) (by omega) (by exact Kq.kp (Kq.ml kr)) ⟨rfl,WrA.new hwb (by exact asm),(by repeat (first | exact Kx.refl _ _ _ | refine Kx.mpN ?_ (by omega) (by omega) | refine Kx.mpD ?_ (by assumption) (by omega)))⟩
  ·have hL:0 < L:=by
    rcases Nat.eq_zero_or_pos L with h | h
    ·subst h;rcases hx (List.take_zero) with h | h
     ·cases h
     ·exact absurd rfl h
    ·exact h
   have hdl:=Hn g3
   rw [hdl] at hl
   have hz:(l.drop o).take L ≠ []:=fun h=>by rw [h] at hdl;simp at hdl;omega
   conv=>lhs;whnf
   refine fa0 hO ?_
   conv=>lhs;whnf
   refine ldC hO ha (by rfl) ?_
   conv=>lhs;whnf
   refine eqT hO (by omega) ?_
   conv=>lhs;whnf
   refine fa0 hO ?_
   conv=>lhs;whnf
   refine ldC hO ha (by rfl) ?_
   conv=>lhs;whnf
   refine apNB hO g2 g3 hL (by omega) (by omega) ?_
   conv=>lhs;whnf
   refine fa0 hO ?_
   conv=>lhs;whnf
   refine stC hO (by exact an ha) (by kernel_rfl) (fun _ _ _=>rfl) (fun _=>rfl) ?_
   conv=>lhs;whnf
   exact hf _ _ _ (by omega) (by omega) (by exact Kq.kp (Kq.ml (Kq.ml kr))) ⟨rfl,WrA.mk (Db:=n) (by omega) (by exact asm) (by exact an asm) hwb (by omega) rfl hdl.symm hz,(by repeat (first | exact Kx.refl _ _ _ | refine Kx.mpN ?_ (by omega) (by omega) | refine Kx.mpD ?_ (by assumption) (by omega)))⟩
 ·rcases hv with ⟨rfl,rfl⟩ | ⟨b,o,L,K,fl,l,el,tl,g1,rfl,g2,g3,g4,rfl⟩
  ·
   conv=>lhs;whnf
   refine fa0 hO ?_
   conv=>lhs;whnf
   refine ldC hO ha (by rfl) ?_
   conv=>lhs;whnf
   refine eqT hO (by omega) ?_
   conv=>lhs;whnf
   refine fa0 hO ?_
   conv=>lhs;whnf
   refine ldC hO ha (by rfl) ?_
   conv=>lhs;whnf
   refine apSN hO ?_
   conv=>lhs;whnf
   refine fa0 hO ?_
   conv=>lhs;whnf
   refine stC hO ha (by kernel_rfl) (fun _ _ _=>rfl) (fun _=>rfl) ?_
   conv=>lhs;whnf
   exact hf _ _ _ (by omega) (by omega) (by exact Kq.kp (Kq.ml kr)) ⟨rfl,WrA.mk (Db:=Db) (y:=bs) hwb (by exact asm) (by exact an hD) h1 h2 (List.append_nil _).symm (by rw [List.append_nil]) (by rw [List.append_nil];exact hne),(by repeat (first | exact Kx.refl _ _ _ | refine Kx.mpN ?_ (by omega) (by omega) | refine Kx.mpD ?_ (by assumption) (by omega)))⟩
  ·have hdl:=Hn g3
   rw [hdl] at hl
   rcases Nat.eq_zero_or_pos L with h0 | hL
   ·subst h0
    conv=>lhs;whnf
    refine fa0 hO ?_
    conv=>lhs;whnf
    refine ldC hO ha (by rfl) ?_
    conv=>lhs;whnf
    refine eqT hO (by omega) ?_
    conv=>lhs;whnf
    refine fa0 hO ?_
    conv=>lhs;whnf
    refine ldC hO ha (by rfl) ?_
    conv=>lhs;whnf
    refine apB0 hO g2 g3 ?_
    conv=>lhs;whnf
    refine fa0 hO ?_
    conv=>lhs;whnf
    refine stC hO ha (by kernel_rfl) (fun _ _ _=>rfl) (fun _=>rfl) ?_
    conv=>lhs;whnf
    exact hf _ _ _ (by omega) (by omega) (by exact Kq.kp (Kq.ml kr)) ⟨rfl,WrA.mk (Db:=Db) (y:=bs) hwb (by exact asm) (by exact an hD) h1 h2 (List.append_nil _).symm (by rw [List.take_zero,List.append_nil]) (by rw [List.take_zero,List.append_nil];exact hne),(by repeat (first | exact Kx.refl _ _ _ | refine Kx.mpN ?_ (by omega) (by omega) | refine Kx.mpD ?_ (by assumption) (by omega)))⟩
   ·
    conv=>lhs;whnf
    refine fa0 hO ?_
    conv=>lhs;whnf
    refine ldC hO ha (by rfl) ?_
    conv=>lhs;whnf
    refine eqT hO (by omega) ?_
    conv=>lhs;whnf
    refine fa0 hO ?_
    conv=>lhs;whnf
    refine ldC hO ha (by rfl) ?_
    conv=>lhs;whnf
    refine apBB hO hD g2 (by omega) g3 hL (by rfl) (fun _=>rfl) (by omega) (by omega) ?_
    conv=>lhs;whnf
    refine fa0 hO ?_
    conv=>lhs;whnf
    refine stC hO (by exact an (an ha)) (by kernel_rfl) (fun _ _ _=>rfl) (fun _=>rfl) ?_
    conv=>lhs;whnf
    exact hf _ _ _ (by omega) (by omega) (by exact Kq.kp (Kq.ml (Kq.ml (Kq.ml kr)))) ⟨rfl,WrA.mk (Db:=n) (by omega) (by exact asm) (by exact an asm) hwb (by omega) (by rw [tk0 rfl]) (by rw [List.length_append,hdl]) (by intro h;exact hne (List.append_eq_nil_iff.1 h).1),(by repeat (first | exact Kx.refl _ _ _ | refine Kx.mpN ?_ (by omega) (by omega) | refine Kx.mpD ?_ (by assumption) (by omega)))⟩
theorem byte_s {O:Oz} (hO:O=zO) (Φ:Phi):Ll (p26 O Φ):=fun hW hv hx hl k P hn hf=>byte_x hO Φ hW hv hx hl k P hn (fun v n' m' a b c q=>hf v n' m' a b c ⟨q.1,q.2.1⟩)
end Go.Proofs.YtfdfdagbeeeomaaDoor.V2.S
