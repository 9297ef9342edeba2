/- Proved here: the law SessionLate returns true for every argument, and leaves memory as it was. Condition: the tables of packages hash, scribe and frame hold what their initialisers lay (the card ties them). -/
import Derived.Test.YtfdfdagbeeeomaaDoorQL13
namespace Go.Proofs.YtfdfdagbeeeomaaDoor.sessionLate
open Go.ChangeShapes Go.WideShapes Go.ChangeAt Go.RowKit
theorem ptypes:∀ t ∈ Tryd.f3.params.toList,Tryd.prog.readableRec t=true ∧ t < Tryd.prog.types.size:=by
 rw [Tryd.params3]
 intro t ht
 simp only [List.mem_cons,List.not_mem_nil,or_false] at ht
 rcases ht with rfl | rfl | rfl <;> exact ⟨by kernel_rfl,of_decide_eq_true (by kernel_rfl)⟩
set_option maxRecDepth 100000 in
theorem contract (H:Type) (enc:TypeId × Value → H) (W:World) (base:Nat) (args:Array Value) (ds gs:List (DataW H)) (before:List MemPlace)
  (hval:∀ (j:Nat) t v,Tryd.f3.params[j]?=some t → args[j]?=some v → Value.okWide Tryd.prog W .any base t v)
  (hW:DataW.Whole enc Tryd.prog Tryd.f3.params.toList Rows.sessionLateSpec.vars false W args.toList ds gs before) (hL:laidMetH Tryd.prog Rows.sessionLateRow.laid W) :
  Calls Tryd.prog 3 args W fun e W'=>∃ v,e=.returned v ∧ Rows.sessionLateSpec.post enc Tryd.prog Tryd.f3 false true false false W args v W':=by
 have hW':=hW
 obtain ⟨p,q,hA0,hV,rfl,hfz,hnd⟩:=hW
 have hA:DataW.TrodAll enc Tryd.prog W 0 (fun _=>true) true Tryd.f3.params.toList args.toList ds p:=hA0
 rw [Tryd.params3] at hA hval
 obtain ⟨v,v',v'',d,d',d'',pa,pb,pc,rfl,rfl,rfl,h0,h1,h2⟩:=trodAll_three hA
 obtain ⟨rfl,rfl⟩:=trodVars_none hV
 obtain ⟨z0,rfl,_,_,w0⟩:=open_int Tryd.underlying5 (hval 0 5 v rfl rfl) h0
 obtain ⟨z1,rfl,_,_,w1⟩:=open_int Tryd.underlying5 (hval 1 5 v' rfl rfl) h1
 obtain ⟨z2,rfl,_,_,w2⟩:=open_int Tryd.underlying22 (hval 2 22 v'' rfl rfl) h2
 simp only [Lit.wf,Bool.and_eq_true,decide_eq_true_eq] at w0 w1 w2
 have w0:(0:Int) ≤ z0 ∧ z0 ≤ 255:=w0
 have w1:(0:Int) ≤ z1 ∧ z1 ≤ 255:=w1
 have w2:(0:Int) ≤ z2 ∧ z2 ≤ 18446744073709551615:=w2
 obtain ⟨a,rfl⟩:∃ a:Nat,z0=a:=⟨z0.toNat,by omega⟩
 obtain ⟨b,rfl⟩:∃ b:Nat,z1=b:=⟨z1.toNat,by omega⟩
 obtain ⟨c,rfl⟩:∃ c:Nat,z2=c:=⟨z2.toNat,by omega⟩
 refine (V2.S.sessionLateM W (globs_of hL) (by omega) (by omega) (by omega)).mono fun e W' ⟨he,hb⟩=>?_
 subst he
 exact ⟨_,rfl,post_of_below hW' laidOut rfl ptypes hb rfl rfl (fun _ _ _=>trodAll_cons_mk (shut_bool Tryd.underlying4 _) trodAll_mk0) (ok_one (by kernel_rfl) rfl (okWide_bool_mk Tryd.underlying4 _))⟩
def setRow (cs:Array Value):Obj → Obj
 | .cells _ t frozen=>.cells cs t frozen
 | o=>o
noncomputable def Mf (os:Os):World :=
 { World.holding Tryd.prog os ⟨#[],#[],[]⟩ with heap:=((((World.holding Tryd.prog os ⟨#[],#[],[]⟩).heap.modify 0 (setRow V2.mayM.toArray)).modify 1 (setRow (cw V2.TM))).modify 2 (setRow (cw S0))).modify 3 (setRow (cw KK)) }
theorem laid_met (os:Os):laidMetH Tryd.prog Rows.sessionLateRow.laid ((Mf os).forCall (fun _ _=>0) ⟨#[],#[.int .u8 0,.int .u8 0,.int .u64 0],[]⟩).memory :=
 laidMetH_of_parts3 (fuel:=8) (laidMet_of_run' 8 (by kernel_rfl) (by kernel_rfl)) (by kernel_rfl) (by kernel_rfl)
theorem reads (os:Os) {H:Type} (enc:TypeId × Value → H):∃ places,DataW.whole enc Tryd.prog ((Mf os).forCall (fun _ _=>0) ⟨#[],#[.int .u8 0,.int .u8 0,.int .u64 0],[]⟩).memory Tryd.f3.params.toList Rows.sessionLateSpec.vars false (#[.int .u8 0,.int .u8 0,.int .u64 0]:Array Value).toList 8=some ([.lit (.int .u8 0),.lit (.int .u8 0),.lit (.int .u64 0)],[],places) :=
 ⟨[],by kernel_rfl⟩
set_option maxRecDepth 100000 in
theorem lifted (os:Os) (started:os.Started) (H:Type) (enc:TypeId × Value → H) (F:Stop.Interp) :
  ReturnsInHanded {} Tryd.checked os 3 .any ((OpenSpec.ofChange Rows.sessionLateSpec).preRow enc Tryd.prog Tryd.f3 Rows.sessionLateRow.domain false Rows.sessionLateRow.laid) (((OpenSpec.ofChange Rows.sessionLateSpec).at F).post enc Tryd.prog Tryd.f3 false true false false):=by
 obtain ⟨places,hx⟩:=reads os enc
 refine returnsInHanded_of_row (C:=Tryd.checked) (s:=OpenSpec.ofChange Rows.sessionLateSpec) own started (by kernel_rfl) Tryd.func3
  (witness_row_at (enc:=enc) (C:=Tryd.checked) false (Mf os) #[.int .u8 0,.int .u8 0,.int .u64 0] rfl (by kernel_rfl) (by kernel_rfl) (by kernel_rfl)
   (OpenSpec.preRow_of_cond 8 hx (by kernel_rfl) (fun k hk=>by cases hk) (by kernel_rfl) (laid_met os))) ?_
 intro W base args ds gs before hval hW _ _ _ hL _ _
 exact contract H enc W base args ds gs before hval hW hL
theorem said:Rows.SessionLateSaid :=
 OpenClaim.holds_of_cond 3 Tryd.f3 rfl rfl rfl rfl rfl rfl rfl ⟨rfl,rfl,rfl,rfl,rfl⟩ rfl rfl rfl rfl rfl (by kernel_rfl) Tryd.func3 (by kernel_rfl)
  (of_decide_eq_true (by kernel_rfl)) (by unfold Func.isWrapper;first | (rw [if_pos (by decide +kernel)];kernel_rfl) | (rw [if_neg (by decide +kernel)];exact ⟨rfl,rfl⟩))
  (fun os started H enc _ F=>by rw [OpenClaim.pre_eq_preRow];exact lifted os started H enc F)
theorem plain (f : FuncId) (fn : Func) (hf : Tryd.pinned.checked.prog.funcNamed "longwire/longwirelaw12.SessionLate" = some f) (hfn : Tryd.pinned.checked.prog.funcs[f]? = some fn) :
  false=Tryd.pinned.checked.prog.looks [] ∧ ∀ (j:Nat) t,fn.params[j]?=some t → Tryd.pinned.checked.prog.wantsStandIn t=false:=by
 obtain rfl : f = 3 := Option.some.inj ((show Tryd.prog.funcNamed "longwire/longwirelaw12.SessionLate" = some 3 by kernel_rfl).symm.trans hf) |>.symm
 obtain rfl:fn=Tryd.f3:=(Option.some.inj (Tryd.func3.symm.trans hfn)).symm
 refine ⟨by kernel_rfl,fun j t ht=>?_⟩
 rw [Tryd.params3] at ht
 have:=Array.mem_of_getElem? ht
 simp only [List.mem_toArray,List.mem_cons,List.not_mem_nil,or_false] at this
 rcases this with rfl | rfl | rfl
 ·exact (show Tryd.prog.wantsStandIn 5=false by kernel_rfl)
 ·exact (show Tryd.prog.wantsStandIn 5=false by kernel_rfl)
 ·exact (show Tryd.prog.wantsStandIn 22=false by kernel_rfl)
theorem card:Rows.SessionLateCardSaid :=
 Claim7.holds_tied_plain_at .later [] _ _ _ _ said (fun _ h=>by cases h) (by kernel_rfl) (fun _ h=>by cases h) sessionLate_row_tie rfl ⟨rfl,rfl⟩ (by kernel_rfl) rfl plain (by kernel_rfl)
end Go.Proofs.YtfdfdagbeeeomaaDoor.sessionLate
