/- Part 11 of the proof: texts of the proof. -/
import Derived.Test.YtlgbdgpgdimpdaaGreatDoorQC10
import Derived.Test.YtlgbdgpgdimpdaaGreatDoorChecked
import Derived.Deep.LoopGhost
import Derived.Test.YtlgbdgpgdimpdaaGreatDoorRows
import Derived.Sort.Row
import Derived.Sort.LotA
import Derived.WalkKit
import Derived.WalkSpells
import Derived.WalkLawsBesides
import Derived.BigGuard
import Derived.BigCall
import Derived.CellFam
import Derived.Lib.Hide
import Derived.Deep.Draws
import Derived.Deep.QuietTactic
import Derived.BigQuiet
import Derived.RangeFuncMany
import Derived.Sort.MapsRangeIn
import Derived.Shelf.SlIter.Nil
import Derived.RangeFuncBox
import Derived.RangeFuncLeaves
import Derived.RangeFuncFrom
import Derived.Shelf.Abstract
import Derived.OwnWalkIn
import Derived.TacticsInMore
import Derived.LoopNIn
import Derived.LoopIn
import Derived.Maps.AppendAt
import Derived.Sort.Statements
import Derived.Shelf.Strings.Repeat
namespace Go.Proofs.YtlgbdgpgdimpdaaGreatDoor.V2
open Go
set_option linter.unusedVariables false
noncomputable def c132 : ACode := (.seq (.reg [⟨(.aop (.box 195 (.slot 0))), (some 3), none⟩, ⟨(.aop (.mov (.lit (.int .i64 (0))))), (some 6), none⟩]) (.seq (.seq (.reg [⟨(.aop (.load1 (.slot 3))), (some 10), none⟩, ⟨(.call (.lit (.fn (.func 147) [] [])) [(.slot 10)]), (some 11), none⟩, ⟨(.aop (.mov (.slot 11))), (some 12), none⟩, ⟨(.aop (.mov (.slot 1))), (some 13), (some ((.slot 12), false))⟩, ⟨(.aop (.load1 (.slot 3))), (some 14), (some ((.slot 12), false))⟩, ⟨(.aop (.nilCheck (.slot 14))), (some 15), (some ((.slot 12), false))⟩, ⟨(.aop (.fieldAddr 0 (.slot 15))), (some 16), (some ((.slot 12), false))⟩, ⟨(.aop (.load1 (.slot 16))), (some 17), (some ((.slot 12), false))⟩, ⟨(.call (.lit (.fn (.func 160) [] [])) [(.slot 17)]), (some 18), (some ((.slot 12), false))⟩, ⟨(.aop (.bin .gtr (.slot 13) (.slot 18))), (some 19), (some ((.slot 12), false))⟩, ⟨(.aop (.pick (.slot 12) (.lit (.bool true)) (.slot 19))), (some 20), none⟩]) (.cond (.slot 20) (.seq (.reg [⟨(.aop (.mov (.lit (.int .i64 (0))))), (some 6), none⟩]) .ret) .skip)) (.seq (.reg [⟨(.aop (.load1 (.slot 3))), (some 21), none⟩, ⟨(.aop (.nilCheck (.slot 21))), (some 22), none⟩, ⟨(.aop (.fieldAddr 3 (.slot 22))), (some 23), none⟩, ⟨(.aop (.load1 (.slot 23))), (some 24), none⟩, ⟨(.aop (.rd .lenMap [(.slot 24)])), (some 25), none⟩, ⟨(.aop (.mov (.slot 25))), (some 7), none⟩]) (.seq (.mfor [⟨(.aop (.load1 (.slot 3))), (some 26), none⟩, ⟨(.aop (.nilCheck (.slot 26))), (some 27), none⟩, ⟨(.aop (.fieldAddr 3 (.slot 27))), (some 28), none⟩, ⟨(.aop (.load1 (.slot 28))), (some 29), none⟩] (.slot 29) ⟨30, 31, 32, 33, 1, [⟨(.aop (.extract (.slot 31) 0)), (some 32), none⟩], [⟨(.aop (.extract (.slot 33) 0)), (some 34), none⟩, ⟨(.aop (.mov (.slot 34))), (some 8), none⟩]⟩ .skip (some ⟨[⟨(.aop (.mov (.slot 8))), (some 35), none⟩, ⟨(.aop (.mov (.slot 1))), (some 36), none⟩, ⟨(.aop (.bin .lss (.slot 35) (.slot 36))), (some 37), none⟩], (.slot 37), [⟨(.aop (.load1 (.slot 3))), (some 38), none⟩, ⟨(.aop (.nilCheck (.slot 38))), (some 39), none⟩, ⟨(.aop (.fieldAddr 3 (.slot 39))), (some 40), none⟩, ⟨(.aop (.load1 (.slot 40))), (some 41), none⟩, ⟨(.aop (.mov (.slot 8))), (some 42), none⟩], (.slot 41), (.slot 42), [.int], none⟩)) (.seq (.seq (.reg [⟨(.aop (.mov (.slot 1))), (some 43), none⟩, ⟨(.aop (.mov (.slot 2))), (some 44), none⟩, ⟨(.call (.lit (.fn (.func 161) [] [])) [(.slot 43), (.slot 44)]), (some 45), none⟩]) (.block 2 (.rfun (.slot 45) [46] (.reg [⟨(.aop (.mov (.slot 46))), (some 9), none⟩]) (.block 3 (.reg [⟨(.aop (.load1 (.slot 3))), (some 47), none⟩, ⟨(.aop (.nilCheck (.slot 47))), (some 48), none⟩, ⟨(.aop (.fieldAddr 3 (.slot 48))), (some 49), none⟩, ⟨(.aop (.load1 (.slot 49))), (some 50), none⟩, ⟨(.aop (.mov (.slot 9))), (some 51), none⟩, ⟨(.aop (.ext (.mapDel true [.int]) [(.slot 50), (.slot 51)])), none, none⟩]))))) (.seq (.reg [⟨(.aop (.mov (.slot 7))), (some 52), none⟩, ⟨(.aop (.load1 (.slot 3))), (some 53), none⟩, ⟨(.aop (.nilCheck (.slot 53))), (some 54), none⟩, ⟨(.aop (.fieldAddr 3 (.slot 54))), (some 55), none⟩, ⟨(.aop (.load1 (.slot 55))), (some 56), none⟩, ⟨(.aop (.rd .lenMap [(.slot 56)])), (some 57), none⟩, ⟨(.aop (.bin .sub (.slot 52) (.slot 57))), (some 58), none⟩, ⟨(.aop (.mov (.slot 58))), (some 6), none⟩]) .ret))))))
theorem comp132 : (V2.compC Tryz.prog 6 Tryz.f132.ntmps (fun _ => false) (Tryz.f132.body.getD .skip), V2.compR Tryz.prog Tryz.f132.results.toList) = (some c132, some [(.tmp 6)]) := by kernel_rfl
theorem body132 : Tryz.f132.body = some (Tryz.f132.body.getD .skip) := by kernel_rfl
noncomputable def c147 : ACode := (.seq (.reg [⟨(.aop (.mov (.lit (.bool false)))), (some 2), none⟩]) (.seq (.reg [⟨(.aop (.mov (.slot 0))), (some 3), none⟩, ⟨(.aop (.pur (.eqv false .ptr) [(.slot 3), (.lit .nilptr)])), (some 4), none⟩, ⟨(.aop (.mov (.slot 4))), (some 5), none⟩, ⟨(.aop (.mov (.slot 0))), (some 6), (some ((.slot 5), false))⟩, ⟨(.aop (.nilCheck (.slot 6))), (some 7), (some ((.slot 5), false))⟩, ⟨(.aop (.fieldAddr 3 (.slot 7))), (some 8), (some ((.slot 5), false))⟩, ⟨(.aop (.load1 (.slot 8))), (some 9), (some ((.slot 5), false))⟩, ⟨(.aop (.pur (.eqv false .map) [(.slot 9), (.lit .nilmap)])), (some 10), (some ((.slot 5), false))⟩, ⟨(.aop (.pick (.slot 5) (.lit (.bool true)) (.slot 10))), (some 11), none⟩, ⟨(.aop (.mov (.slot 11))), (some 2), none⟩]) .ret))
theorem comp147 : (V2.compC Tryz.prog 6 Tryz.f147.ntmps (fun _ => false) (Tryz.f147.body.getD .skip), V2.compR Tryz.prog Tryz.f147.results.toList) = (some c147, some [(.tmp 2)]) := by kernel_rfl
theorem body147 : Tryz.f147.body = some (Tryz.f147.body.getD .skip) := by kernel_rfl
noncomputable def c160 : ACode := (.seq (.reg [⟨(.aop (.mov (.lit (.int .u32 (0))))), (some 2), none⟩]) (.seq (.seq (.reg [⟨(.aop (.mov (.slot 0))), (some 3), none⟩, ⟨(.call (.lit (.fn (.func 180) [] [])) [(.slot 3)]), (some 4), none⟩]) (.cond (.slot 4) (.seq (.reg [⟨(.aop (.mov (.lit (.int .u32 (0))))), (some 2), none⟩]) .ret) .skip)) (.seq (.reg [⟨(.aop (.mov (.slot 0))), (some 5), none⟩, ⟨(.aop (.nilCheck (.slot 5))), (some 6), none⟩, ⟨(.aop (.fieldAddr 0 (.slot 6))), (some 7), none⟩, ⟨(.aop (.load1 (.slot 7))), (some 8), none⟩, ⟨(.aop (.mov (.slot 8))), (some 2), none⟩]) .ret)))
theorem comp160 : (V2.compC Tryz.prog 6 Tryz.f160.ntmps (fun _ => false) (Tryz.f160.body.getD .skip), V2.compR Tryz.prog Tryz.f160.results.toList) = (some c160, some [(.tmp 2)]) := by kernel_rfl
theorem body160 : Tryz.f160.body = some (Tryz.f160.body.getD .skip) := by kernel_rfl
noncomputable def c161 : ACode := (.seq (.reg [⟨(.aop (.box 24 (.slot 0))), (some 2), none⟩, ⟨(.aop (.box 24 (.slot 1))), (some 3), none⟩, ⟨(.aop (.mov (.lit .nilfn))), (some 4), none⟩]) (.seq (.reg [⟨(.aop (.load1 (.slot 2))), (some 5), none⟩, ⟨(.call (.lit (.fn (.func 182) [] [])) [(.slot 5)]), (some 6), none⟩, ⟨(.aop (.pur (.mkFn (.func 183) 0) [(.slot 3), (.slot 2)])), (some 7), none⟩, ⟨(.call (.lit (.fn (.func 181) [] [])) [(.slot 6), (.slot 7)]), (some 8), none⟩, ⟨(.aop (.mov (.slot 8))), (some 4), none⟩]) .ret))
theorem comp161 : (V2.compC Tryz.prog 6 Tryz.f161.ntmps (fun _ => false) (Tryz.f161.body.getD .skip), V2.compR Tryz.prog Tryz.f161.results.toList) = (some c161, some [(.tmp 4)]) := by kernel_rfl
theorem body161 : Tryz.f161.body = some (Tryz.f161.body.getD .skip) := by kernel_rfl
noncomputable def c180 : ACode := (.seq (.reg [⟨(.aop (.mov (.lit (.bool false)))), (some 2), none⟩]) (.seq (.reg [⟨(.aop (.mov (.slot 0))), (some 3), none⟩, ⟨(.aop (.pur (.eqv false .ptr) [(.slot 3), (.lit .nilptr)])), (some 4), none⟩, ⟨(.aop (.mov (.slot 4))), (some 5), none⟩, ⟨(.aop (.mov (.slot 0))), (some 6), (some ((.slot 5), false))⟩, ⟨(.aop (.nilCheck (.slot 6))), (some 7), (some ((.slot 5), false))⟩, ⟨(.aop (.fieldAddr 1 (.slot 7))), (some 8), (some ((.slot 5), false))⟩, ⟨(.aop (.load1 (.slot 8))), (some 9), (some ((.slot 5), false))⟩, ⟨(.aop (.bin .eql (.slot 9) (.lit (.int .u32 (0))))), (some 10), (some ((.slot 5), false))⟩, ⟨(.aop (.pick (.slot 5) (.lit (.bool true)) (.slot 10))), (some 11), none⟩, ⟨(.aop (.mov (.slot 11))), (some 2), none⟩]) .ret))
theorem comp180 : (V2.compC Tryz.prog 6 Tryz.f180.ntmps (fun _ => false) (Tryz.f180.body.getD .skip), V2.compR Tryz.prog Tryz.f180.results.toList) = (some c180, some [(.tmp 2)]) := by kernel_rfl
theorem body180 : Tryz.f180.body = some (Tryz.f180.body.getD .skip) := by kernel_rfl
noncomputable def c181 : ACode := (.seq (.reg [⟨(.aop (.box 260 (.slot 0))), (some 2), none⟩, ⟨(.aop (.box 275 (.slot 1))), (some 3), none⟩, ⟨(.aop (.mov (.lit .nilfn))), (some 4), none⟩]) (.seq (.reg [⟨(.aop (.pur (.mkFn (.func 198) 0) [(.slot 2), (.slot 3)])), (some 5), none⟩, ⟨(.aop (.mov (.slot 5))), (some 4), none⟩]) .ret))
theorem comp181 : (V2.compC Tryz.prog 6 Tryz.f181.ntmps (fun _ => false) (Tryz.f181.body.getD .skip), V2.compR Tryz.prog Tryz.f181.results.toList) = (some c181, some [(.tmp 4)]) := by kernel_rfl
theorem body181 : Tryz.f181.body = some (Tryz.f181.body.getD .skip) := by kernel_rfl
noncomputable def c182 : ACode := (.seq (.reg [⟨(.aop (.box 24 (.slot 0))), (some 1), none⟩, ⟨(.aop (.mov (.lit .nilfn))), (some 2), none⟩]) (.seq (.reg [⟨(.aop (.pur (.mkFn (.func 199) 0) [(.slot 1)])), (some 3), none⟩, ⟨(.aop (.mov (.slot 3))), (some 2), none⟩]) .ret))
theorem comp182 : (V2.compC Tryz.prog 6 Tryz.f182.ntmps (fun _ => false) (Tryz.f182.body.getD .skip), V2.compR Tryz.prog Tryz.f182.results.toList) = (some c182, some [(.tmp 2)]) := by kernel_rfl
theorem body182 : Tryz.f182.body = some (Tryz.f182.body.getD .skip) := by kernel_rfl
noncomputable def c183 : ACode := (.seq (.reg [⟨(.aop (.mov (.lit (.bool false)))), (some 4), none⟩]) (.seq (.reg [⟨(.aop (.load1 (.slot 1))), (some 5), none⟩, ⟨(.aop (.mov (.slot 0))), (some 6), none⟩, ⟨(.aop (.load1 (.slot 2))), (some 7), none⟩, ⟨(.aop (.bin .sub (.slot 6) (.slot 7))), (some 8), none⟩, ⟨(.aop (.bin .sub (.slot 8) (.lit (.int .u32 (1))))), (some 9), none⟩, ⟨(.aop (.bin .shr (.slot 5) (.slot 9))), (some 10), none⟩, ⟨(.aop (.bin .and (.slot 10) (.lit (.int .u32 (1))))), (some 11), none⟩, ⟨(.aop (.bin .eql (.slot 11) (.lit (.int .u32 (1))))), (some 12), none⟩, ⟨(.aop (.mov (.slot 12))), (some 4), none⟩]) .ret))
theorem comp183 : (V2.compC Tryz.prog 6 Tryz.f183.ntmps (fun _ => false) (Tryz.f183.body.getD .skip), V2.compR Tryz.prog Tryz.f183.results.toList) = (some c183, some [(.tmp 4)]) := by kernel_rfl
theorem body183 : Tryz.f183.body = some (Tryz.f183.body.getD .skip) := by kernel_rfl
noncomputable def c198 : ACode := (.seq (.reg [⟨(.aop (.box 275 (.slot 0))), (some 3), none⟩]) (.seq (.reg [⟨(.aop (.load1 (.slot 1))), (some 5), none⟩]) (.block 0 (.rfun (.slot 5) [6] (.reg [⟨(.aop (.mov (.slot 6))), (some 4), none⟩]) (.block 1 (.seq (.reg [⟨(.aop (.load1 (.slot 2))), (some 7), none⟩, ⟨(.aop (.mov (.slot 4))), (some 8), none⟩, ⟨(.call (.slot 7) [(.slot 8)]), (some 9), none⟩, ⟨(.aop (.mov (.slot 9))), (some 10), none⟩, ⟨(.aop (.load1 (.slot 3))), (some 11), (some ((.slot 10), true))⟩, ⟨(.aop (.mov (.slot 4))), (some 12), (some ((.slot 10), true))⟩, ⟨(.call (.slot 11) [(.slot 12)]), (some 13), (some ((.slot 10), true))⟩, ⟨(.aop (.un .not (.slot 13))), (some 14), (some ((.slot 10), true))⟩, ⟨(.aop (.pick (.slot 10) (.slot 14) (.lit (.bool false)))), (some 15), none⟩]) (.cond (.slot 15) .ret .skip)))))))
theorem comp198 : (V2.compC Tryz.prog 6 Tryz.f198.ntmps (fun _ => false) (Tryz.f198.body.getD .skip), V2.compR Tryz.prog Tryz.f198.results.toList) = (some c198, some []) := by kernel_rfl
theorem body198 : Tryz.f198.body = some (Tryz.f198.body.getD .skip) := by kernel_rfl
noncomputable def c199 : ACode := (.seq (.reg [⟨(.aop (.mov (.lit (.int .u32 (0))))), (some 5), none⟩]) (.block 0 (.loop (.seq (.reg [⟨(.aop (.bin .lss (.slot 5) (.lit (.int .u32 (32))))), (some 6), none⟩]) (.seq (.cond (.slot 6) .skip (.exit 0)) (.seq (.block 1 (.seq (.reg [⟨(.aop (.mov (.slot 5))), (some 7), none⟩, ⟨(.aop (.mov (.slot 7))), (some 3), none⟩]) (.seq (.reg [⟨(.aop (.load1 (.slot 1))), (some 8), none⟩, ⟨(.aop (.bin .add (.slot 8) (.lit (.int .u32 (1))))), (some 9), none⟩, ⟨(.aop (.mov (.slot 3))), (some 10), none⟩, ⟨(.aop (.bin .add (.slot 9) (.slot 10))), (some 11), none⟩, ⟨(.aop (.mov (.slot 11))), (some 4), none⟩]) (.seq (.reg [⟨(.aop (.mov (.slot 4))), (some 12), none⟩, ⟨(.aop (.load1 (.slot 1))), (some 13), none⟩, ⟨(.aop (.bin .leq (.slot 12) (.slot 13))), (some 14), none⟩, ⟨(.aop (.mov (.slot 14))), (some 15), none⟩, ⟨(.aop (.mov (.slot 0))), (some 16), (some ((.slot 15), false))⟩, ⟨(.aop (.mov (.slot 4))), (some 17), (some ((.slot 15), false))⟩, ⟨(.call (.slot 16) [(.slot 17)]), (some 18), (some ((.slot 15), false))⟩, ⟨(.aop (.un .not (.slot 18))), (some 19), (some ((.slot 15), false))⟩, ⟨(.aop (.pick (.slot 15) (.lit (.bool true)) (.slot 19))), (some 20), none⟩]) (.cond (.slot 20) .ret .skip))))) (.reg [⟨(.aop (.bin .add (.slot 5) (.lit (.int .u32 (1))))), (some 21), none⟩, ⟨(.aop (.mov (.slot 21))), (some 5), none⟩])))))))
theorem comp199 : (V2.compC Tryz.prog 6 Tryz.f199.ntmps (fun _ => false) (Tryz.f199.body.getD .skip), V2.compR Tryz.prog Tryz.f199.results.toList) = (some c199, some []) := by kernel_rfl
theorem body199 : Tryz.f199.body = some (Tryz.f199.body.getD .skip) := by kernel_rfl
noncomputable def c3 : ACode := (compC Tryz.prog 6 Tryz.f3.ntmps (fun _ => false) (Tryz.f3.body.getD .skip)).getD .bad
theorem comp3 : (V2.compC Tryz.prog 6 Tryz.f3.ntmps (fun _ => false) (Tryz.f3.body.getD .skip), V2.compR Tryz.prog Tryz.f3.results.toList) = (some c3, some [(.tmp 0)]) := by kernel_rfl
theorem body3 : Tryz.f3.body = some (Tryz.f3.body.getD .skip) := by kernel_rfl
end Go.Proofs.YtlgbdgpgdimpdaaGreatDoor.V2
namespace Go.Proofs.YtlgbdgpgdimpdaaGreatDoor.V2
open Go
set_option linter.unusedVariables false
attribute [local irreducible] c132 c147 c160 c161 c180 c181 c182 c183 c198 c199
noncomputable def en132 : Ent := ⟨Tryz.f132.ntmps, c132, [(.tmp 6)]⟩
theorem eok132 : EntOk (132, en132) := ⟨_, _, Tryz.func132, body132, by kernel_rfl, rfl, (Prod.mk.inj comp132).1, (Prod.mk.inj comp132).2, by kernel_rfl⟩
noncomputable def en147 : Ent := ⟨Tryz.f147.ntmps, c147, [(.tmp 2)]⟩
theorem eok147 : EntOk (147, en147) := ⟨_, _, Tryz.func147, body147, by kernel_rfl, rfl, (Prod.mk.inj comp147).1, (Prod.mk.inj comp147).2, by kernel_rfl⟩
noncomputable def en160 : Ent := ⟨Tryz.f160.ntmps, c160, [(.tmp 2)]⟩
theorem eok160 : EntOk (160, en160) := ⟨_, _, Tryz.func160, body160, by kernel_rfl, rfl, (Prod.mk.inj comp160).1, (Prod.mk.inj comp160).2, by kernel_rfl⟩
noncomputable def en161 : Ent := ⟨Tryz.f161.ntmps, c161, [(.tmp 4)]⟩
theorem eok161 : EntOk (161, en161) := ⟨_, _, Tryz.func161, body161, by kernel_rfl, rfl, (Prod.mk.inj comp161).1, (Prod.mk.inj comp161).2, by kernel_rfl⟩
noncomputable def en180 : Ent := ⟨Tryz.f180.ntmps, c180, [(.tmp 2)]⟩
theorem eok180 : EntOk (180, en180) := ⟨_, _, Tryz.func180, body180, by kernel_rfl, rfl, (Prod.mk.inj comp180).1, (Prod.mk.inj comp180).2, by kernel_rfl⟩
noncomputable def en181 : Ent := ⟨Tryz.f181.ntmps, c181, [(.tmp 4)]⟩
theorem eok181 : EntOk (181, en181) := ⟨_, _, Tryz.func181, body181, by kernel_rfl, rfl, (Prod.mk.inj comp181).1, (Prod.mk.inj comp181).2, by kernel_rfl⟩
noncomputable def en182 : Ent := ⟨Tryz.f182.ntmps, c182, [(.tmp 2)]⟩
theorem eok182 : EntOk (182, en182) := ⟨_, _, Tryz.func182, body182, by kernel_rfl, rfl, (Prod.mk.inj comp182).1, (Prod.mk.inj comp182).2, by kernel_rfl⟩
noncomputable def en183 : Ent := ⟨Tryz.f183.ntmps, c183, [(.tmp 4)]⟩
theorem eok183 : EntOk (183, en183) := ⟨_, _, Tryz.func183, body183, by kernel_rfl, rfl, (Prod.mk.inj comp183).1, (Prod.mk.inj comp183).2, by kernel_rfl⟩
noncomputable def en198 : Ent := ⟨Tryz.f198.ntmps, c198, []⟩
theorem eok198 : EntOk (198, en198) := ⟨_, _, Tryz.func198, body198, by kernel_rfl, rfl, (Prod.mk.inj comp198).1, (Prod.mk.inj comp198).2, by kernel_rfl⟩
noncomputable def en199 : Ent := ⟨Tryz.f199.ntmps, c199, []⟩
theorem eok199 : EntOk (199, en199) := ⟨_, _, Tryz.func199, body199, by kernel_rfl, rfl, (Prod.mk.inj comp199).1, (Prod.mk.inj comp199).2, by kernel_rfl⟩
noncomputable def entsY : List (Nat × Ent) := [(132, en132), (147, en147), (160, en160), (161, en161), (180, en180), (181, en181), (182, en182), (183, en183), (198, en198), (199, en199)]
theorem entsY_ok : ∀ p ∈ entsY, EntOk p := by
  unfold entsY
  refine List.forall_mem_cons.2 ⟨eok132, ?_⟩
  refine List.forall_mem_cons.2 ⟨eok147, ?_⟩
  refine List.forall_mem_cons.2 ⟨eok160, ?_⟩
  refine List.forall_mem_cons.2 ⟨eok161, ?_⟩
  refine List.forall_mem_cons.2 ⟨eok180, ?_⟩
  refine List.forall_mem_cons.2 ⟨eok181, ?_⟩
  refine List.forall_mem_cons.2 ⟨eok182, ?_⟩
  refine List.forall_mem_cons.2 ⟨eok183, ?_⟩
  refine List.forall_mem_cons.2 ⟨eok198, ?_⟩
  refine List.forall_mem_cons.2 ⟨eok199, ?_⟩
  exact fun p hp => absurd hp List.not_mem_nil
theorem entsY_lt : ∀ p ∈ entsY, Nat.blt p.1 1048576 = true := by
  unfold entsY
  refine List.forall_mem_cons.2 ⟨rfl, ?_⟩
  refine List.forall_mem_cons.2 ⟨rfl, ?_⟩
  refine List.forall_mem_cons.2 ⟨rfl, ?_⟩
  refine List.forall_mem_cons.2 ⟨rfl, ?_⟩
  refine List.forall_mem_cons.2 ⟨rfl, ?_⟩
  refine List.forall_mem_cons.2 ⟨rfl, ?_⟩
  refine List.forall_mem_cons.2 ⟨rfl, ?_⟩
  refine List.forall_mem_cons.2 ⟨rfl, ?_⟩
  refine List.forall_mem_cons.2 ⟨rfl, ?_⟩
  refine List.forall_mem_cons.2 ⟨rfl, ?_⟩
  exact fun p hp => absurd hp List.not_mem_nil
noncomputable def tabY : T Ent := tabL entsY
theorem tabY_ok : TabOk Tryz.prog 6 (fun _ => false) tabY := fun f x h => by
  have hm := tabL_get entsY_lt f x h
  have he : EntOk (f, x) := entsY_ok (f, x) hm
  exact he
def noF (_ : FuncId) (_ : List AV) (σ : AH) : Out := bad σ
theorem noF_ok {Y : List Yl} : FnOk Tryz.prog 6 noF Y := fun _ _ _ h => by cases h
noncomputable def Γm : Gam := Gam.grow std 1000 tabY Sp.none (.of noF) 40
theorem gamm_ok : GamOk Tryz.prog 6 Γm [] := (grow_ok mixed tabY_ok Sp.none_ok (fun f h => by cases h) 40 (.of noF_ok) hpu0').1
noncomputable def slF (g : FuncId → List AV → AH → Out) (f : FuncId) (args : List AV) (σ : AH) : Out := bif Nat.beq f 132 then Γm.fn f args σ else g f args σ
theorem slF_ok {g : FuncId → List AV → AH → Out} (hg : FnOk Tryz.prog 6 g []) : FnOk Tryz.prog 6 (slF g) [] := fun f args σ h => by
  unfold slF at h ⊢
  cases hf : Nat.beq f 132 with
  | true => rw [hf] at h; exact gamm_ok.fn f args σ h
  | false => rw [hf] at h; exact hg f args σ h
end Go.Proofs.YtlgbdgpgdimpdaaGreatDoor.V2
namespace Go.Proofs.YtlgbdgpgdimpdaaGreatDoor
open Go.RowKit
def TC : List UInt32 := [0, 498536548, 997073096, 651767980, 1994146192, 1802195444, 1303535960, 1342533948, 3988292384, 4027552580, 3604390888, 3412177804, 2607071920, 2262029012, 2685067896, 3183342108]
def halfW (n : UInt32) : UInt32 := sror n 4 ^^^ TC.getD (n &&& 15).toNat 0
def stepW (n : UInt32) (c : UInt8) : UInt32 := halfW (halfW (n ^^^ c.toUInt32))
def crcW (bs : List UInt8) : UInt32 := bs.foldl stepW 4294967295
def TabC (w : World) : Prop := ∀ i, i < 16 → w.cell? ⟨2, i, none⟩ = some (.int .u32 (N32 (TC.getD i 0)))
attribute [local go_sem] u32_bits_xor u32_bits_and u32_bits_or
theorem and15 (n : UInt32) : (n &&& 15).toNat < 16 := by
  have : (n &&& 15).toNat = n.toNat &&& 15 := rfl
  rw [this]
  exact Nat.lt_of_le_of_lt Nat.and_le_right (by omega)
set_option maxHeartbeats 400000 in
theorem half_any (n : UInt32) (w : World) (hT : TabC w) : Calls Tryz.prog 124 #[.int .u32 (N32 n)] w fun e w' => e = .returned (.int .u32 (N32 (halfW n))) ∧ w' = w := by
  have hs : N32 n / 16 = N32 (sror n 4) := sror_eq n 4
  have h15 : (15 : Int) = N32 15 := rfl
  have hlt := and15 n
  have hcell : w.cell? ⟨2, (N32 (n &&& 15)).toNat, none⟩ = some (.int .u32 (N32 (TC.getD (n &&& 15).toNat 0))) := hT (n &&& 15).toNat hlt
  have hb : 0 ≤ N32 (n &&& 15) ∧ N32 (n &&& 15) < 16 := by
    have : N32 (n &&& 15) = ((n &&& 15).toNat : Int) := rfl
    omega
  go_enter Tryz.func124, Tryz.ntmps124
  go_wp2
  go_ret
  exact ⟨rfl, rfl⟩
theorem u8_u32 (c : UInt8) : IntKind.u32.wrap (N8 c) = N32 c.toUInt32 := by
  have h := c.toNat_lt
  have e : N8 c = ((c.toNat : Nat) : Int) := rfl
  rw [e, wrap_u32, Nat.mod_eq_of_lt (by omega)]
  unfold N32
  rw [UInt8.toNat_toUInt32]
theorem crc_step (n : UInt32) (bs : List UInt8) (k : Nat) (h : k < bs.length) : (bs.take (k + 1)).foldl stepW n = stepW ((bs.take k).foldl stepW n) (at8 bs k) := by
  rw [List.take_succ_eq_append_getElem h, List.foldl_append]
  simp [at8, List.getD_eq_getElem?_getD, h]
def CrcR (bs : List UInt8) (n _c i : Value) : Prop := ∃ k : Nat, k ≤ bs.length ∧ i = .int .i64 k ∧ n = .int .u32 (N32 ((bs.take k).foldl stepW 4294967295))
set_option maxHeartbeats 1000000 in
theorem crc_some (b off c : Nat) (bs : List UInt8) (w : World) (hT : TabC w) (hcell : ∀ j, j < bs.length → w.cell? ⟨b, off + j, none⟩ = some (.int .u8 (N8 (at8 bs j)))) (hl : bs.length ≤ 1000000000) :
    Calls Tryz.prog 77 #[.slice (some ⟨b, off, none⟩) bs.length c] w fun e w' => e = .returned (.int .u32 (N32 (~~~ crcW bs))) ∧ w' = w := by
  have HC := Lib.hid hcell
  clear hcell
  go_enter Tryz.func77, Tryz.ntmps77
  go_wp2
  go_loop [3, 5, 8] (CrcR bs) (fun _ _ i => bs.length - (intOf i).toNat)
  case atStart => exact ⟨0, by omega, rfl, rfl⟩
  case round =>
    obtain ⟨k, hk, rfl, rfl⟩ := hrel
    by_cases hlt : k < bs.length
    · have d1 : decide ((k : Int) < (bs.length : Int)) = true := decide_eq_true (by omega)
      have g1 : w.cell? ⟨b, off + k, none⟩ = some (.int .u8 (N8 (at8 bs k))) := HC.out k hlt
      have hu := u8_u32 (at8 bs k)
      have HS := Lib.hid (crc_step 4294967295 bs k hlt)
      go_wp2_with (go_at_call 124; refine (half_any _ _ hT).mono ?_; rintro e w' ⟨rfl, hw⟩; rw [hw]; clear hw w')
      go_round
      case rel => exact ⟨k + 1, by omega, by go_num, by rw [HS.out]; rfl⟩
      case measure => simp [intOf]; omega
    · have d1 : decide ((k : Int) < (bs.length : Int)) = false := decide_eq_false (by omega)
      obtain rfl : k = bs.length := by omega
      go_wp2
      go_ret
      exact ⟨ret_int (u32_bits_not2 _), rfl⟩
set_option maxHeartbeats 1000000 in
theorem crc_none (a : Option Addr) (w : World) : Calls Tryz.prog 77 #[.slice a 0 0] w fun e w' => e = .returned (.int .u32 (N32 (~~~ crcW []))) ∧ w' = w := by
  go_enter Tryz.func77, Tryz.ntmps77
  go_wp2
  go_loop [3, 5, 8] (fun n _ i => n = .int .u32 (N32 4294967295) ∧ i = .int .i64 0) (fun _ _ _ => 0)
  case atStart => exact ⟨rfl, rfl⟩
  case round =>
    obtain ⟨rfl, rfl⟩ := hrel
    go_wp2
    go_ret
    exact ⟨ret_int (u32_bits_not2 _), rfl⟩
theorem crc_any (v : Value) (bs : List UInt8) (w : World) (hT : TabC w) (h : BSl w v bs) (hl : bs.length ≤ 1000000000) :
    Calls Tryz.prog 77 #[v] w fun e w' => e = .returned (.int .u32 (N32 (~~~ crcW bs))) ∧ w' = w := by
  rcases h with ⟨rfl, rfl⟩ | ⟨b, off, c, rfl, _, _, hc⟩ | ⟨a, rfl, rfl⟩
  · exact crc_none none w
  · exact crc_some b off c bs w hT hc hl
  · exact crc_none (some a) w
end Go.Proofs.YtlgbdgpgdimpdaaGreatDoor
namespace Go.Proofs.YtlgbdgpgdimpdaaGreatDoor.V2
open Go
open Go.RowKit
def isTC (l : List Int) : Bool := decide (l = wI TC)
noncomputable def crA (args : List AV) (σ : AH) : Out := match args with
  | [s] => ((bytesA std byI σ s).1 && globA σ 2 isTC && Nat.ble (bytesA std byI σ s).2.length 1000000000, .int .u32 (N32 (~~~ crcW (toBs (bytesA std byI σ s).2))), σ)
  | _ => bad σ
noncomputable def crF (g : FuncId → List AV → AH → Out) (f : FuncId) (args : List AV) (σ : AH) : Out := bif Nat.beq f 77 then crA args σ else g f args σ
theorem crF_ok {Y : List Yl} {g : FuncId → List AV → AH → Out} (hg : FnOk Tryz.prog 6 g Y) : FnOk Tryz.prog 6 (crF g) Y := by
  intro f args σ h
  unfold crF at h ⊢
  cases hf : Nat.beq f 77
  case false => rw [hf] at h; rw [cond_false] at h ⊢; exact hg f args σ h
  rw [hf] at h
  simp only [cond_true] at h ⊢
  have e := Nat.eq_of_beq_eq_true hf
  subst e
  refine ⟨⟨_, Tryz.func77, by kernel_rfl, by kernel_rfl⟩, fun ρ W vs _ hG hr hvs => ?_⟩
  unfold crA at h ⊢
  split at h
  case h_2 => cases h
  rename_i s
  obtain ⟨v, mm, rfl, hv, hmm⟩ := hvs
  have hmm : mm = [] := hmm
  subst hmm
  simp only [Bool.and_eq_true, Nat.ble_eq] at h
  obtain ⟨⟨h1, h2⟩, h3⟩ := h
  have hB := (bytes_of hr hv h1).1
  have hlen : (toBs (bytesA std byI σ s).2).length ≤ 1000000000 := by unfold toBs; rw [List.length_map]; exact h3
  have hT : TabC W := glob_of hr (fun l h => by simpa [isTC] using h) rfl (hG 2 (by decide)) h2
  refine (crc_any v _ W hT hB hlen).mono ?_
  rintro e W' ⟨rfl, hw⟩
  subst hw
  exact ⟨_, ρ, rfl, hr, .refl (Nat.le_refl _), by unfold VR; rfl⟩
noncomputable section
def tcN : Nat := 9937593612760466100516450665319420528403982636753068485404800763335476026940182181175496972418787619281442302519629725716261212251300561153615832085954560
def hfN (y : Nat) : Nat := Nat.xor (Nat.shiftRight y 4) (Nat.land (Nat.shiftRight tcN (Nat.shiftLeft (Nat.land y 15) 5)) 4294967295)
theorem tc_at : ∀ i, i < 16 → Nat.land (Nat.shiftRight tcN (Nat.shiftLeft i 5)) 4294967295 = (TC.getD i 0).toNat := by
  intro i hi
  match i, hi with
  | 0, _ => rfl
  | 1, _ => rfl
  | 2, _ => rfl
  | 3, _ => rfl
  | 4, _ => rfl
  | 5, _ => rfl
  | 6, _ => rfl
  | 7, _ => rfl
  | 8, _ => rfl
  | 9, _ => rfl
  | 10, _ => rfl
  | 11, _ => rfl
  | 12, _ => rfl
  | 13, _ => rfl
  | 14, _ => rfl
  | 15, _ => rfl
  | n + 16, h => exact absurd h (by omega)
theorem hfN_eq (n : UInt32) : hfN n.toNat = (halfW n).toNat := by
  unfold hfN halfW
  have e1 : Nat.land n.toNat 15 = (n &&& 15).toNat := rfl
  rw [e1, tc_at _ (and15 n), UInt32.toNat_xor]
  congr 1
  unfold sror
  rw [UInt32.toNat_ofNat']
  have h1 : n.toNat / 2 ^ 4 < 2 ^ 32 := Nat.lt_of_le_of_lt (Nat.div_le_self _ _) n.toNat_lt
  rw [Nat.mod_eq_of_lt h1]
  exact Nat.shiftRight_eq_div_pow _ _
def crcK (n : Nat) (k : Nat → FR) : Nat → Nat → FR := Nat.rec (motive := fun _ => Nat → Nat → FR) (fun _ x => k x)
  (fun _ ih c x => fN (Nat.div c 256) fun c' => fN (hfN (Nat.xor x (Nat.mod c 256))) fun y => fN (hfN y) fun y => ih c' y) n
theorem crcK_eq : ∀ (n : Nat) (k : Nat → FR) (c : Nat) (x : UInt32), crcK n k c x.toNat = k ((unpN n c).foldl stepW x).toNat
  | 0, _, _, _ => rfl
  | n + 1, k, c, x => by
    show (fN (Nat.div c 256) fun c' => fN (hfN (Nat.xor x.toNat (Nat.mod c 256))) fun y => fN (hfN y) fun y => crcK n k c' y) = _
    rw [fN_eq, fN_eq, fN_eq]
    have e : Nat.xor x.toNat (Nat.mod c 256) = (x ^^^ (UInt8.ofNat (c % 256)).toUInt32).toNat := by
      rw [UInt32.toNat_xor, UInt8.toNat_toUInt32, UInt8.toNat_ofNat']
      show x.toNat ^^^ (c % 256) = _
      rw [Nat.mod_mod]
    rw [e, hfN_eq, hfN_eq]
    exact crcK_eq n k (c / 256) _
theorem unpN_add : ∀ (a b c : Nat), unpN (a + b) c = unpN a c ++ unpN b (c / 256 ^ a)
  | 0, b, c => by rw [Nat.zero_add, Nat.pow_zero, Nat.div_one]; rfl
  | a + 1, b, c => by
    rw [Nat.succ_add]
    show UInt8.ofNat (c % 256) :: unpN (a + b) (c / 256) = UInt8.ofNat (c % 256) :: (unpN a (c / 256) ++ unpN b (c / 256 ^ (a + 1)))
    rw [unpN_add a b, Nat.div_div_eq_div_mul, Nat.pow_succ, Nat.mul_comm 256]
theorem unpN_mod (a c : Nat) : unpN a (c % 256 ^ a) = unpN a c := by
  refine ext_unp (unpN_length a c) fun i hi => ?_
  rw [unpN_at a c i hi, mod_div_mod c a i hi]
def crcG (q : Nat) (k : Nat → Nat → FR) : Nat → Nat → FR := Nat.rec (motive := fun _ => Nat → Nat → FR) k
  (fun _ ih c x => fN (Nat.land c 115792089237316195423570985008687907853269984665640564039457584007913129639935) fun d => fN (Nat.shiftRight c 256) fun c' => crcK 32 (fun y => ih c' y) d x) q
theorem crcG_eq : ∀ (q r : Nat) (k : Nat → FR) (c : Nat) (x : UInt32), crcG q (fun c x => crcK r k c x) c x.toNat = k ((unpN (32 * q + r) c).foldl stepW x).toNat
  | 0, r, k, c, x => by
    show crcK r k c x.toNat = _
    rw [crcK_eq, Nat.mul_zero, Nat.zero_add]
  | q + 1, r, k, c, x => by
    show (fN (Nat.land c 115792089237316195423570985008687907853269984665640564039457584007913129639935) fun d => fN (Nat.shiftRight c 256) fun c' => crcK 32 (fun y => crcG q (fun c x => crcK r k c x) c' y) d x.toNat) = _
    rw [fN_eq, fN_eq]
    have e1 : Nat.land c 115792089237316195423570985008687907853269984665640564039457584007913129639935 = c % 256 ^ 32 := by
      have := Nat.and_two_pow_sub_one_eq_mod c 256
      rw [show (2 : Nat) ^ 256 = 256 ^ 32 by rw [show (256 : Nat) = 2 ^ 8 by rfl, ← Nat.pow_mul]] at this
      exact this
    have e2 : Nat.shiftRight c 256 = c / 256 ^ 32 := by
      have := Nat.shiftRight_eq_div_pow c 256
      rw [show (2 : Nat) ^ 256 = 256 ^ 32 by rw [show (256 : Nat) = 2 ^ 8 by rfl, ← Nat.pow_mul]] at this
      exact this
    rw [e1, e2, crcK_eq 32 (fun y => crcG q (fun c x => crcK r k c x) (c / 256 ^ 32) y)]
    show crcG q (fun c x => crcK r k c x) (c / 256 ^ 32) _ = _
    rw [crcG_eq q r k, unpN_mod, ← List.foldl_append, ← unpN_add, show 32 + (32 * q + r) = 32 * (q + 1) + r by omega]
def crB (c : Nat) (σ : FH) (k : KV) : FR := fN (bl c) fun n => gB (Nat.ble n 1000000000) (crcG (Nat.div n 32) (fun c x => crcK (Nat.mod n 32) (fun x => fN (Nat.xor 4294967295 x) fun x => k (.n .u32 x) σ) c x) c 4294967295)
def crQ (l : List FV) (σ : FH) (k : KV) : FR := k1L l fun x => gB (globA (αH σ) 2 isTC) (rowQ false 1 σ x fun _ R => kR (fun c => crB c σ k) (fun l => List.rec (motive := fun _ => FR) (crB 1 σ k) (fun _ _ _ => .bad) l) (fun _ _ => .bad) R)
theorem not32 (x : UInt32) : Nat.xor 4294967295 x.toNat = (~~~ x).toNat := by
  have h : (4294967295 : UInt32) ^^^ x = ~~~ x := by
    apply UInt32.toBitVec_inj.1
    simp [← BitVec.allOnes_xor]
  rw [← h, UInt32.toNat_xor]; rfl
theorem crB_ok {c : Nat} {σ : FH} {k : KV} (h : crB c σ k ≠ .bad) : Nat.ble (unp c).length 1000000000 = true ∧ crB c σ k = k (.n .u32 (~~~ crcW (unp c)).toNat) σ := by
  unfold crB at h ⊢
  rw [fN_eq] at h ⊢
  rw [gB_eq] at h ⊢
  cases hb : Nat.ble (bl c) 1000000000 <;> rw [hb] at h
  · exact absurd rfl h
  refine ⟨by rw [unp_length]; exact hb, ?_⟩
  rw [cond_true]
  have := crcG_eq (Nat.div (bl c) 32) (Nat.mod (bl c) 32) (fun x => fN (Nat.xor 4294967295 x) fun x => k (.n .u32 x) σ) c 4294967295
  have e : (4294967295 : UInt32).toNat = 4294967295 := rfl
  rw [e] at this
  have hd : 32 * Nat.div (bl c) 32 + Nat.mod (bl c) 32 = bl c := Nat.div_add_mod (bl c) 32
  rw [hd] at this
  rw [this, fN_eq, not32]
  rfl
theorem toBs_unpI (c : Nat) : toBs (unpI c) = unp c := by
  unfold toBs unpI
  rw [List.map_map]
  conv => rhs; rw [← List.map_id (unp c)]
  exact List.map_congr_left fun b _ => by simp
theorem byI_unpI (c : Nat) : byI (unpI c) = true := by
  unfold byI unpI
  rw [List.all_map, List.all_eq_true]
  intro b _
  have := b.toNat_lt
  simp; omega
theorem crQ_sm (l : List FV) (σ : FH) (k : KV) : Sm (crQ l σ k) k (crA (αL l) (αH σ)) := by
  intro h
  unfold crQ at h ⊢
  obtain ⟨x, rfl, h1⟩ := k1L_cases h
  rw [h1] at h ⊢
  rw [gB_eq] at h ⊢
  cases hg : globA (αH σ) 2 isTC <;> rw [hg] at h
  · exact absurd rfl h
  rw [cond_true] at h ⊢
  obtain ⟨m, R, h2, h3⟩ := rowQ_cases h
  rw [h3] at h ⊢
  have fin : ∀ (c : Nat) (L : List Int), rowB (αR R) = some L → L = unpI c → crB c σ k ≠ .bad → ∃ v σ', crA (αL [x]) (αH σ) = (true, αV v, αH σ') ∧ crB c σ k = k v σ' := fun c L e1 e2 hc => by
    obtain ⟨g1, g2⟩ := crB_ok hc
    refine ⟨_, σ, ?_, g2⟩
    have hbA : bytesA std byI (αH σ) (αV x) = (true, unpI c) := by
      unfold bytesA
      rw [h2]
      simp only [e1]
      rw [e2, byI_unpI]; rfl
    show ((bytesA std byI (αH σ) (αV x)).1 && globA (αH σ) 2 isTC && Nat.ble (bytesA std byI (αH σ) (αV x)).2.length 1000000000, AV.int .u32 (N32 (~~~ crcW (toBs (bytesA std byI (αH σ) (αV x)).2))), αH σ) = _
    rw [hbA, hg, toBs_unpI]
    have hl : (unpI c).length = (unp c).length := by unfold unpI; rw [List.length_map]
    simp only [hl, g1]
    rfl
  cases R with
  | bs c => exact fin c _ rfl rfl h
  | cells l =>
    cases l with
    | nil => exact fin 1 [] rfl rfl h
    | cons _ _ => exact absurd rfl h
  | ints k l => exact absurd rfl h
end
end Go.Proofs.YtlgbdgpgdimpdaaGreatDoor.V2
namespace Go.Proofs.YtlgbdgpgdimpdaaGreatDoor
open Go.RowKit Go.Sort
def uC (n : Int) : Value := .int .u32 n
set_option maxHeartbeats 1000000 in
theorem nan_u (x : Int) (w : World) : Calls Tryz.prog 222 #[.int .u32 x] w fun e w' => e = .returned (.bool false) ∧ w' = w := by
  go_enter Tryz.func222, Tryz.ntmps222
  go_wp2
  go_ret
  exact ⟨by simp, rfl⟩
set_option maxHeartbeats 1000000 in
theorem less_u (x y : Int) (w : World) : Calls Tryz.prog 208 #[.int .u32 x, .int .u32 y] w fun e w' => e = .returned (.bool (ltInt x y)) ∧ w' = w := by
  go_enter Tryz.func208, Tryz.ntmps208
  go_wp2_with (go_at_call 222; refine (nan_u _ _).mono ?_; rintro e w' ⟨rfl, rfl⟩)
  go_ret
  exact ⟨rfl, rfl⟩
section
variable {α : Type} [Inhabited α] (lt : α → α → Bool)
theorem inner_on (a j : Nat) (d : Array α) (hj : a < j) (hl : lt d[j]! d[j - 1]! = true) : insInner lt a j d = insInner lt a (j - 1) (swp d j (j - 1)) := by
  cases j with
  | zero => omega
  | succ k => simp only [Nat.add_sub_cancel] at hl ⊢; rw [insInner]; simp [hj, hl]
theorem inner_end (a j : Nat) (d : Array α) (h : j ≤ a ∨ lt d[j]! d[j - 1]! = false) : insInner lt a j d = d := by
  cases j with
  | zero => rw [insInner]
  | succ k =>
    rw [insInner]
    simp only [Nat.add_sub_cancel] at h
    rcases h with h | h
    · simp [show ¬ k + 1 > a by omega]
    · simp [h]
theorem outer_on (a b i : Nat) (d : Array α) (h : i < b) : insOuter lt a b i d = insOuter lt a b (i + 1) (insInner lt a i d) := by rw [insOuter, if_pos h]
theorem outer_end (a b i : Nat) (d : Array α) (h : ¬ i < b) : insOuter lt a b i d = d := by rw [insOuter, if_neg h]
end
theorem put_draws (w : World) (m q blk off : Nat) (d : Array Int) : (putRow uC (Sort.ahead w m) blk off d).drewN q = putRow uC (Sort.ahead w (m + q)) blk off d := by
  show Sort.ahead (putRow uC (Sort.ahead w m) blk off d) q = _
  rw [putRow_ahead uC w m, ahead_ahead, ← putRow_ahead]
theorem put_swap (w : World) (m q blk off : Nat) (d : Array Int) (j k : Nat) (hj : j < d.size) (hk : k < d.size) :
    (((putRow uC (Sort.ahead w m) blk off d).drewN q).setCell ⟨blk, off + j, none⟩ (uC d[k]!)).setCell ⟨blk, off + k, none⟩ (uC d[j]!) = putRow uC (Sort.ahead w (m + q)) blk off (swp d j k) := by
  rw [put_draws]
  exact putRow_swp uC _ blk off d j k hj hk
set_option maxRecDepth 100000 in
theorem ins_u (blk off cap n : Nat) (d : Array Int) (w : World) (hH : Holds uC w blk off d) (hn : d.size = n) (hsz : n < 4611686018427387904) :
    Calls Tryz.prog 202 #[.slice (some ⟨blk, off, none⟩) n cap, .int .i64 (0 : Nat), .int .i64 n] w fun e w' =>
      e = .returned (.tuple #[]) ∧ ∃ m, w' = putRow uC (Sort.ahead w m) blk off (insertionSort ltInt d 0 n) := by
  subst hn
  obtain ⟨a, ha⟩ : ∃ a : Nat, a = 0 := ⟨_, rfl⟩
  obtain ⟨b, hb⟩ : ∃ b : Nat, b = d.size := ⟨_, rfl⟩
  rw [show (Value.int .i64 ((0 : Nat) : Int)) = .int .i64 (a : Nat) by rw [ha], show (Value.int .i64 (d.size : Int)) = .int .i64 (b : Nat) by rw [hb], show insertionSort ltInt d 0 d.size = insertionSort ltInt d a b by rw [ha, hb]]
  have hab : a ≤ b := by omega
  have hbs : b ≤ d.size := by omega
  clear ha hb
  go_enter Tryz.func202, Tryz.ntmps202
  go_wp2
  go_loopw [6] (fun vi wr => ∃ (i n : Nat) (dk : Array Int), vi = .int .i64 i ∧ a < i ∧ i ≤ b + 1 ∧ dk.size = d.size ∧ wr = putRow uC (Sort.ahead w n) blk off dk ∧
      insOuter ltInt a b i dk = insOuter ltInt a b (a + 1) d) (fun vi _ => b + 1 - (intOf vi).toNat)
  case atStart => exact ⟨a + 1, 0, d, by go_num, by omega, by omega, rfl, (putRow_self _ _ _ _ _ hH).symm, rfl⟩
  case round =>
    obtain ⟨i, n, dk, rfl, hai, hib, hsk, hwr, hO⟩ := hrel
    have HO := Lib.hid hO
    clear hO
    go_wp2
    · go_loopw [7] (fun vj wr2 => ∃ (j m : Nat) (dj : Array Int), vj = .int .i64 j ∧ a ≤ j ∧ j ≤ i ∧ dj.size = d.size ∧ wr2 = putRow uC (Sort.ahead w m) blk off dj ∧
          insInner ltInt a j dj = insInner ltInt a i dk) (fun vj _ => (intOf vj).toNat)
      case atStart => exact ⟨i, n, dk, rfl, by omega, Nat.le_refl _, hsk, rfl, rfl⟩
      case round =>
        obtain ⟨j, m, dj, rfl, haj, hji, hsj, hw2, hI⟩ := hrel
        have hlt : i < b := by assumption
        obtain ⟨G, hG⟩ : ∃ G : Nat → Int, ∀ t, G t = dj[t]! := ⟨fun t => dj[t]!, fun _ => rfl⟩
        have hcw : ∀ t, t < d.size → wr.cell? ⟨blk, off + t, none⟩ = some (.int .u32 (G t)) := fun t ht => by
          rw [hw2, hG]; exact cell?_putRow _ _ _ _ d dj (holds_ahead _ _ _ _ _ _ hH) hsj t (by omega)
        have hfw : ∀ t, t < d.size → wr.frozen? ⟨blk, off + t, none⟩ = false := fun t ht => by
          rw [hw2, frozen?_putRow]; exact ((holds_ahead _ _ m _ _ _ hH) t ht).2
        have HW := Lib.hid hw2
        have HG := Lib.hid hG
        have HI := Lib.hid hI
        clear hw2 hG hI hH
        have OUT := Lib.hid (show (j ≤ a ∨ ltInt dj[j]! dj[j - 1]! = false) → ∀ q, ∃ i' n' dk', Value.int .i64 ((i : Int) + 1) = .int .i64 (i' : Nat) ∧ a < i' ∧ i' ≤ b + 1 ∧ dk'.size = d.size ∧
            wr.drewN q = putRow uC (Sort.ahead w n') blk off dk' ∧ insOuter ltInt a b i' dk' = insOuter ltInt a b (a + 1) d from fun hs q =>
          ⟨i + 1, m + q, dj, by go_num, by omega, by omega, hsj, by rw [HW.out]; exact put_draws _ _ _ _ _ _,
            by rw [← HO.out, outer_on _ _ _ _ _ hlt, ← HI.out, inner_end _ _ _ _ hs]⟩)
        go_wp2
        by_cases hja : a < j
        · go_quiet (first | (go_at_call 208; refine Calls.quiet_of_same (less_u _ _ _)))
          go_wp2
          · have hl : ltInt (G j) (G (j - 1)) = true := by assumption
            go_region
            all_goals go_wp2
            go_roundw
            case rel =>
              refine ⟨j - 1, m + (nq + 1), swp dj j (j - 1), by congr 1; omega, by omega, by omega, by rw [size_swp]; exact hsj, ?_, ?_⟩
              · rw [HW.out, HG.out, HG.out]
                exact put_swap w m (nq + 1) blk off dj j (j - 1) (by omega) (by omega)
              · rw [← HI.out, inner_on ltInt a j dj hja (by rw [← HG.out, ← HG.out]; exact hl)]
            case measure => simp [intOf]; omega
          · have hl : ltInt (G j) (G (j - 1)) = false := by assumption
            go_roundw
            case rel => exact OUT.out (Or.inr (by rw [← HG.out, ← HG.out]; exact hl)) nq
            case measure => simp [intOf]; omega
        · go_quiet (first | (go_at_call 208; refine Calls.quiet_of_same (less_u _ _ _)))
          go_wp2
          go_roundw
          case rel => exact OUT.out (Or.inl (by omega)) nq
          case measure => simp [intOf]; omega
    · have hge : ¬ i < b := by assumption
      go_end0
      exact ⟨rfl, n, by unfold insertionSort; rw [← HO.out, outer_end _ _ _ _ _ hge]⟩
end Go.Proofs.YtlgbdgpgdimpdaaGreatDoor
namespace Go.Proofs.YtlgbdgpgdimpdaaGreatDoor
open Go.RowKit Go.Sort
set_option maxRecDepth 100000 in
set_option maxHeartbeats 1000000 in
theorem bits_0 (w : World) : Calls Tryz.prog 212 #[.int .u64 0] w fun e w' => (∃ k : Int, e = .returned (.int .i64 k)) ∧ w' = w := by
  go_enter Tryz.func212, Tryz.ntmps212
  go_wp2
  go_ret
  exact ⟨⟨_, rfl⟩, rfl⟩
set_option maxRecDepth 100000 in
set_option maxHeartbeats 1000000 in
theorem bits_1 (w : World) : Calls Tryz.prog 212 #[.int .u64 1] w fun e w' => (∃ k : Int, e = .returned (.int .i64 k)) ∧ w' = w := by
  go_enter Tryz.func212, Tryz.ntmps212
  go_wp2
  go_ret
  exact ⟨⟨_, rfl⟩, rfl⟩
set_option maxRecDepth 100000 in
set_option maxHeartbeats 1000000 in
theorem bits_2 (w : World) : Calls Tryz.prog 212 #[.int .u64 2] w fun e w' => (∃ k : Int, e = .returned (.int .i64 k)) ∧ w' = w := by
  go_enter Tryz.func212, Tryz.ntmps212
  go_wp2
  go_ret
  exact ⟨⟨_, rfl⟩, rfl⟩
set_option maxRecDepth 100000 in
set_option maxHeartbeats 1000000 in
theorem bits_3 (w : World) : Calls Tryz.prog 212 #[.int .u64 3] w fun e w' => (∃ k : Int, e = .returned (.int .i64 k)) ∧ w' = w := by
  go_enter Tryz.func212, Tryz.ntmps212
  go_wp2
  go_ret
  exact ⟨⟨_, rfl⟩, rfl⟩
set_option maxRecDepth 100000 in
set_option maxHeartbeats 1000000 in
theorem bits_4 (w : World) : Calls Tryz.prog 212 #[.int .u64 4] w fun e w' => (∃ k : Int, e = .returned (.int .i64 k)) ∧ w' = w := by
  go_enter Tryz.func212, Tryz.ntmps212
  go_wp2
  go_ret
  exact ⟨⟨_, rfl⟩, rfl⟩
set_option maxRecDepth 100000 in
set_option maxHeartbeats 1000000 in
theorem bits_5 (w : World) : Calls Tryz.prog 212 #[.int .u64 5] w fun e w' => (∃ k : Int, e = .returned (.int .i64 k)) ∧ w' = w := by
  go_enter Tryz.func212, Tryz.ntmps212
  go_wp2
  go_ret
  exact ⟨⟨_, rfl⟩, rfl⟩
set_option maxRecDepth 100000 in
set_option maxHeartbeats 1000000 in
theorem bits_6 (w : World) : Calls Tryz.prog 212 #[.int .u64 6] w fun e w' => (∃ k : Int, e = .returned (.int .i64 k)) ∧ w' = w := by
  go_enter Tryz.func212, Tryz.ntmps212
  go_wp2
  go_ret
  exact ⟨⟨_, rfl⟩, rfl⟩
set_option maxRecDepth 100000 in
set_option maxHeartbeats 1000000 in
theorem bits_7 (w : World) : Calls Tryz.prog 212 #[.int .u64 7] w fun e w' => (∃ k : Int, e = .returned (.int .i64 k)) ∧ w' = w := by
  go_enter Tryz.func212, Tryz.ntmps212
  go_wp2
  go_ret
  exact ⟨⟨_, rfl⟩, rfl⟩
set_option maxRecDepth 100000 in
set_option maxHeartbeats 1000000 in
theorem bits_8 (w : World) : Calls Tryz.prog 212 #[.int .u64 8] w fun e w' => (∃ k : Int, e = .returned (.int .i64 k)) ∧ w' = w := by
  go_enter Tryz.func212, Tryz.ntmps212
  go_wp2
  go_ret
  exact ⟨⟨_, rfl⟩, rfl⟩
set_option maxRecDepth 100000 in
set_option maxHeartbeats 1000000 in
theorem bits_9 (w : World) : Calls Tryz.prog 212 #[.int .u64 9] w fun e w' => (∃ k : Int, e = .returned (.int .i64 k)) ∧ w' = w := by
  go_enter Tryz.func212, Tryz.ntmps212
  go_wp2
  go_ret
  exact ⟨⟨_, rfl⟩, rfl⟩
set_option maxRecDepth 100000 in
set_option maxHeartbeats 1000000 in
theorem bits_10 (w : World) : Calls Tryz.prog 212 #[.int .u64 10] w fun e w' => (∃ k : Int, e = .returned (.int .i64 k)) ∧ w' = w := by
  go_enter Tryz.func212, Tryz.ntmps212
  go_wp2
  go_ret
  exact ⟨⟨_, rfl⟩, rfl⟩
set_option maxRecDepth 100000 in
set_option maxHeartbeats 1000000 in
theorem bits_11 (w : World) : Calls Tryz.prog 212 #[.int .u64 11] w fun e w' => (∃ k : Int, e = .returned (.int .i64 k)) ∧ w' = w := by
  go_enter Tryz.func212, Tryz.ntmps212
  go_wp2
  go_ret
  exact ⟨⟨_, rfl⟩, rfl⟩
set_option maxRecDepth 100000 in
set_option maxHeartbeats 1000000 in
theorem bits_12 (w : World) : Calls Tryz.prog 212 #[.int .u64 12] w fun e w' => (∃ k : Int, e = .returned (.int .i64 k)) ∧ w' = w := by
  go_enter Tryz.func212, Tryz.ntmps212
  go_wp2
  go_ret
  exact ⟨⟨_, rfl⟩, rfl⟩
theorem bits_any (n : Nat) (h : n ≤ 12) (w : World) : Calls Tryz.prog 212 #[.int .u64 n] w fun e w' => (∃ k : Int, e = .returned (.int .i64 k)) ∧ w' = w := by
  match n, h with
  | 0, _ => exact bits_0 w
  | 1, _ => exact bits_1 w
  | 2, _ => exact bits_2 w
  | 3, _ => exact bits_3 w
  | 4, _ => exact bits_4 w
  | 5, _ => exact bits_5 w
  | 6, _ => exact bits_6 w
  | 7, _ => exact bits_7 w
  | 8, _ => exact bits_8 w
  | 9, _ => exact bits_9 w
  | 10, _ => exact bits_10 w
  | 11, _ => exact bits_11 w
  | 12, _ => exact bits_12 w
  | k + 13, h => omega
theorem len_any (n : Nat) (h : n ≤ 12) (w : World) : Calls Tryz.prog 193 #[.int .u64 n] w fun e w' => (∃ k : Int, e = .returned (.int .i64 k)) ∧ w' = w := by
  go_enter Tryz.func193, Tryz.ntmps193
  go_wp2_with (go_at_call 212; refine (bits_any n h _).mono ?_; rintro e w' ⟨⟨k, rfl⟩, rfl⟩)
  go_ret
  exact ⟨⟨_, rfl⟩, rfl⟩
set_option maxRecDepth 100000 in
set_option maxHeartbeats 1000000 in
theorem pdq_u (blk off cap n : Nat) (lim : Int) (d : Array Int) (w : World) (hH : Holds uC w blk off d) (hn : d.size = n) (h12 : n ≤ 12) :
    Calls Tryz.prog 192 #[.slice (some ⟨blk, off, none⟩) n cap, .int .i64 (0 : Nat), .int .i64 n, .int .i64 lim] w fun e w' =>
      e = .returned (.tuple #[]) ∧ ∃ m, w' = putRow uC (Sort.ahead w m) blk off (insertionSort ltInt d 0 n) := by
  have HH := Lib.hid hH
  have d12 : decide ((n : Int) ≤ 12) = true := decide_eq_true (by omega)
  go_enter Tryz.func192, Tryz.ntmps192
  go_wp2
  go_loop [1, 2, 3, 8, 9] (fun s1 s2 s3 s8 s9 => s1 = .int .i64 (0 : Nat) ∧ s2 = .int .i64 n ∧ s3 = .int .i64 lim ∧ s8 = .bool true ∧ s9 = .bool true) (fun _ _ _ _ _ => 0)
  case atStart => exact ⟨rfl, rfl, rfl, rfl, rfl⟩
  case round =>
    obtain ⟨rfl, rfl, rfl, rfl, rfl⟩ := hrel
    go_wp2_with (go_at_call 202; refine (ins_u blk off cap n d _ HH.out hn (by omega)).mono ?_; rintro e w' ⟨rfl, m, hw⟩)
    refine bodyPost_ret (results_none rfl _ _ _) rfl ?_
    exact ⟨rfl, m, rfl⟩
set_option maxHeartbeats 1000000 in
theorem sort_u (blk off cap n : Nat) (d : Array Int) (w : World) (hH : Holds uC w blk off d) (hn : d.size = n) (h12 : n ≤ 12) :
    Calls Tryz.prog 172 #[.slice (some ⟨blk, off, none⟩) n cap] w fun e w' =>
      e = .returned (.tuple #[]) ∧ ∃ m, w' = putRow uC (Sort.ahead w m) blk off (insertionSort ltInt d 0 n) := by
  have HH := Lib.hid hH
  go_enter Tryz.func172, Tryz.ntmps172
  go_wp2_with (first | (go_at_call 193; refine (len_any n h12 _).mono ?_; rintro e w' ⟨⟨k, rfl⟩, rfl⟩) | (go_at_call 192; refine (pdq_u blk off cap n _ d _ HH.out hn h12).mono ?_; rintro e w' ⟨rfl, m, hw⟩))
  go_end0
  exact ⟨rfl, m, rfl⟩
/-! No row at all. -/
theorem ins_u0 (a : Option Addr) (c : Nat) (w : World) : Calls Tryz.prog 202 #[.slice a 0 c, .int .i64 0, .int .i64 0] w fun e w' => e = .returned (.tuple #[]) ∧ w' = w := by
  go_enter Tryz.func202, Tryz.ntmps202
  go_wp2
  go_loop [6] (fun i => i = .int .i64 1) (fun _ => 0)
  case atStart => rfl
  case round =>
    subst hrel
    go_wp2
    go_end0
    exact ⟨rfl, rfl⟩
set_option maxRecDepth 100000 in
theorem pdq_u0 (a : Option Addr) (c : Nat) (lim : Int) (w : World) : Calls Tryz.prog 192 #[.slice a 0 c, .int .i64 0, .int .i64 0, .int .i64 lim] w fun e w' => e = .returned (.tuple #[]) ∧ w' = w := by
  go_enter Tryz.func192, Tryz.ntmps192
  go_wp2
  go_loop [1, 2, 3, 8, 9] (fun s1 s2 s3 s8 s9 => s1 = .int .i64 0 ∧ s2 = .int .i64 0 ∧ s3 = .int .i64 lim ∧ s8 = .bool true ∧ s9 = .bool true) (fun _ _ _ _ _ => 0)
  case atStart => exact ⟨rfl, rfl, rfl, rfl, rfl⟩
  case round =>
    obtain ⟨rfl, rfl, rfl, rfl, rfl⟩ := hrel
    go_wp2_with (go_at_call 202; refine (ins_u0 a c _).mono ?_; rintro e w' ⟨rfl, rfl⟩)
    refine bodyPost_ret (results_none rfl _ _ _) rfl ?_
    exact ⟨rfl, rfl⟩
theorem sort_u0 (a : Option Addr) (c : Nat) (w : World) : Calls Tryz.prog 172 #[.slice a 0 c] w fun e w' => e = .returned (.tuple #[]) ∧ w' = w := by
  go_enter Tryz.func172, Tryz.ntmps172
  go_wp2_with (first | (go_at_call 193; refine (len_any 0 (by omega) _).mono ?_; rintro e w' ⟨⟨k, rfl⟩, rfl⟩) | (go_at_call 192; refine (pdq_u0 a c _ _).mono ?_; rintro e w' ⟨rfl, rfl⟩))
  go_end0
  exact ⟨rfl, rfl⟩
end Go.Proofs.YtlgbdgpgdimpdaaGreatDoor
namespace Go.Proofs.YtlgbdgpgdimpdaaGreatDoor.V2
open Go Go.RowKit Go.Maps Go.Sort
theorem lawU : Keyed Tryz.prog 24 := int_keyed Tryz.underlying24
def CollU {H : Type} (D0 : DataW H) (left : Lit → Bool) (ss : List Int) : Prop := ss.Nodup ∧ ∀ x, x ∈ ss ↔ (has D0 (.int .u32 x) = true ∧ left (.int .u32 x) = false)
theorem CollU.start {H : Type} (D0 : DataW H) : CollU D0 (has D0) [] := ⟨List.nodup_nil, fun x => by cases has D0 (.int .u32 x) <;> simp⟩
theorem CollU.step {H : Type} {D0 : DataW H} {left : Lit → Bool} {ss : List Int} (h : CollU D0 left ss) {x : Int} {y : DataW H} (hlk : left (.int .u32 x) = true) (hat : ∀ zd, D0.atKey (.int .u32 x) zd = y) :
    CollU D0 (fun z => left z && !z.sameKey (.int .u32 x)) (ss ++ [x]) := by
  have hh : has D0 (.int .u32 x) = true := has_true_of_atKey hat
  have hnew : x ∉ ss := fun hx => by have := ((h.2 x).1 hx).2; rw [hlk] at this; cases this
  refine ⟨List.nodup_append.2 ⟨h.1, by simp, fun a ha b hb => by simp at hb; subst hb; exact fun e => hnew (e ▸ ha)⟩, fun y => ?_⟩
  by_cases hy : y = x
  · subst hy; simp [hh, Lit.sameKey]
  · simp [h.2 y, hy, Lit.sameKey]
def KeysU {H : Type} (D0 : DataW H) (ss : List Int) : Prop := ss.Nodup ∧ ∀ x, x ∈ ss ↔ has D0 (.int .u32 x) = true
theorem CollU.all {H : Type} {D0 : DataW H} {left : Lit → Bool} {ss : List Int} (h : CollU D0 left ss) (hl : ∀ kl, left kl = false) : KeysU D0 ss := ⟨h.1, fun x => by rw [h.2 x, hl]; simp⟩
set_option maxRecDepth 100000 in
set_option maxHeartbeats 1000000 in
theorem keysU {H : Type} (n : Nat) (hn : 1 ≤ n) (l Bm o b nn : Nat) (D0 : DataW H) {R : Value → Option (DataW H × List MemPlace)} (J Jx : List Int → World → Prop)
    (hY : ∀ pre x W, J pre W → pre.length < Maps.size D0 → YieldAt Fence.wide (n - 1) Tryz.prog l #[uC x] W fun e W' => (e = .returned (.bool true) ∧ J (pre ++ [x]) W' ∧ KeepsWalks W W') ∨ (e = .returned (.bool false) ∧ Jx (pre ++ [x]) W'))
    (W : World) (hJ : AbidesFrom W.heap.size J) (hm : W.cell? ⟨Bm, o, none⟩ = some (.map (some b))) (hown : W.ownsMap Tryz.prog 24 R b nn D0) (h0 : J [] W) :
    CallsIn Fence.wide n Tryz.prog 173 #[.func (.yield l) #[] #[], .pointer (some ⟨Bm, o, none⟩)] W fun e W' => (∃ v, e = .returned v) ∧ ((∃ ss, KeysU D0 ss ∧ J ss W') ∨ (∃ pre, True ∧ Jx pre W')) := by
  refine callsIn_of_wp Tryz.func173 rfl trivial ?_ rfl
  simp only [Tryz.ntmps173, List.size_toArray, List.length_cons, List.length_nil, Nat.reduceAdd, Nat.reduceSub, Array.replicate_succ, Array.replicate_zero, List.push_toArray, List.append_toArray, List.nil_append, List.cons_append]
  gi_wp2_with (first
    | (gi_at_range; refine wpListIn_range_own _ rfl _ 246 rfl 24 264 lawU Tryz.underlying246 _ b nn _ rfl hown ?_; intro w0 hrg0 hg0 hs0)
    | gi_in)
  go_frame
  gi_loopw [3] (fun _ wr => ∃ (left : Lit → Bool) (cnt : Nat) (ss : List Int), wr.ranges Tryz.prog 24 R b W.heap.size nn D0 left cnt ∧ ss.length + cnt ≤ Maps.size D0 ∧ CollU D0 left ss ∧ J ss wr)
    (fun _ wr => wr.rangeLeft b W.heap.size)
  case atStart =>
    exact ⟨_, _, [], hrg0, by simp, CollU.start D0, hJ [] W w0 none h0 hg0 (fun r e => by cases e)⟩
  case round =>
    obtain ⟨left, cnt, ss, hrg, hcs, hC, hJs⟩ := hrel
    gi_wp2_with (first
      | (gi_at_next; refine wpListIn_next_ranges _ rfl _ rfl 24 lawU R uC id (fun key kl hk => by obtain ⟨x, hx, _⟩ := Maps.keyOf_int_inv Tryz.underlying24 hk; exact ⟨x, hx⟩) (fun v _ _ => ⟨v, rfl⟩) b W.heap.size nn _ _ _ rfl hrg ?_ ?_)
      | gi_in)
    · intro hc0 hl0
      gi_wp2
      go_end0
      exact ⟨⟨_, rfl⟩, .inl ⟨ss, hC.all hl0, hJs⟩⟩
    · intro x c kl yd yp w2 cnt2 hkey hlk hv hat hrg2 hlt hg2 hs2 hen
      obtain ⟨x', ex, rfl, _⟩ := Maps.keyOf_int_inv Tryz.underlying24 hkey
      obtain rfl : x = x' := by simpa [uC] using ex
      have hJ2 : J ss w2 := hJ ss wr w2 (some W.heap.size) hJs hg2 (fun r e => by cases e; exact ⟨Nat.le_refl _, hrg.iter_walk⟩)
      obtain ⟨fn, tmps, assign, body, hy, hR⟩ := hY ss x w2 hJ2 (by omega)
      unfold uC at hy
      clear hs2
      gi_wp2
      refine hR.mono ?_
      rintro e W3 (⟨rfl, hJ3, hk3⟩ | ⟨rfl, hJx3⟩)
      · gi_wp2
        have hrg3 := hrg2.of_walks hk3
        go_roundw
        case rel => exact ⟨_, cnt2, ss ++ [x], hrg3, by simp; omega, hC.step hlk hat, hJ3⟩
        case measure => rw [hrg3.left_eq, hrg.left_eq]; exact hlt
      · gi_wp2
        refine bodyPost_ret (results_none rfl _ _ _) rfl ?_
        exact ⟨⟨_, rfl⟩, .inr ⟨_, trivial, hJx3⟩⟩
theorem keysU_stops {H : Type} (n : Nat) (hn : 1 ≤ n) (Bm o b nn : Nat) (D0 : DataW H) {R : Value → Option (DataW H × List MemPlace)} (w : World) (hBm : Bm < w.heap.size)
    (hm : w.cell? ⟨Bm, o, none⟩ = some (.map (some b))) (hown : w.ownsMap Tryz.prog 24 R b nn D0) :
    SeqStopsA Fence.wide n Tryz.prog 173 #[.pointer (some ⟨Bm, o, none⟩)] (fun x : Int => #[uC x]) (KeysU D0) (fun _ => True) (Maps.size D0) w := fun l J Jx W hW hJ _ hY h0 => by
  have hown' : W.ownsMap Tryz.prog 24 R b nn D0 := by
    have hbl := hown.lt
    obtain ⟨es, clock, hb, Ft, hs, hD⟩ := hown
    exact ⟨es, clock, (hW.block b hbl).trans hb, Ft, hs, hD⟩
  exact keysU n hn l Bm o b nn D0 J Jx hY W hJ ((hW.cell (p := ⟨Bm, o, none⟩) hBm).trans hm) hown' h0
def keysI : List (AV × AV) → Option (List Int)
  | [] => some []
  | p :: l => match p.1 with
    | .int k n => match k with
      | .u32 => match keysI l with
        | some m => some (n :: m)
        | none => none
      | _ => none
    | _ => none
theorem keysI_spec {ρ : Ren} : ∀ {l : List (AV × AV)} {ks : List Int} {es : List MapEntry}, keysI l = some ks → MapL ρ l es → es.map (·.key) = ks.map uC
  | [], ks, es, h, hm => by cases h; rw [show es = [] from hm]; rfl
  | p :: l, ks, es, h, hm => by
    obtain ⟨e, m, rfl, h1, h2, h3⟩ := hm
    obtain ⟨a, b⟩ := p
    cases a <;> first | (cases h; done) | skip
    rename_i k n
    cases k <;> first | (cases h; done) | skip
    simp only [keysI] at h
    cases hk : keysI l <;> rw [hk] at h
    · cases h
    rename_i m'
    cases h
    have h1 : e.key = .int .u32 n := h1
    rw [List.map_cons, List.map_cons, keysI_spec hk h3, h1]; rfl
def inU (l : List Int) : Bool := l.all fun n => decide (0 ≤ n) && decide (n < 4294967296)
def RNil (_ : Value) : Option (DataW Nat × List MemPlace) := some (.nil, [])
theorem uC_inj {a b : Int} (h : uC a = uC b) : a = b := by simpa [uC] using h
theorem own_ofU {ρ : Ren} {l : List (AV × AV)} {c : Nat} {W : World} (hM : MR ρ l W.heap[c]?) {ks : List Int} (hk : keysI l = some ks) (hn : ks.Nodup) (hs : inU ks = true) (hl : ks.length ≤ 1000000) :
    ∃ D : DataW Nat, W.ownsMap Tryz.prog 24 RNil c ks.length D ∧ (∀ x, has D (.int .u32 x) = true ↔ x ∈ ks) ∧ Maps.size D = ks.length := by
  obtain ⟨es, ck, hb, h1, h2, h3⟩ := hM
  have hkey := keysI_spec hk h1
  have hlen : es.size = ks.length := by have := congrArg List.length hkey; simpa using this
  have hrd : ∀ x ∈ es.toList, ∃ s, s ∈ ks ∧ x.key = uC s ∧ Go.WideElems.rd Tryz.prog 24 RNil x = some (.int .u32 s, .nil) := fun x hx => by
    have : x.key ∈ ks.map uC := by rw [← hkey]; exact List.mem_map_of_mem hx
    obtain ⟨s, hs1, hs2⟩ := List.mem_map.1 this
    refine ⟨s, hs1, hs2.symm, ?_⟩
    have hsl := List.all_eq_true.1 hs s hs1
    simp only [Bool.and_eq_true, decide_eq_true_eq] at hsl
    have hko : keyOf Tryz.prog 24 (uC s) = some (.int .u32 s) := keyOf_int_mk Tryz.underlying24 (by simp only [Lit.wf, Bool.and_eq_true, decide_eq_true_eq]; exact ⟨hsl.1, by show s ≤ 4294967295; omega⟩)
    exact Go.WideElems.rd_mk (yv := (.nil, [])) (by rw [← hs2]; exact hko) rfl
  have F : Go.WideElems.Fit Tryz.prog 24 RNil es ck := ⟨by rw [hlen]; simp only [maxLen]; omega, ⟨h3, nodup_born h2, by rw [hkey]; exact List.pairwise_map.2 (hn.imp fun {a b} hab e => hab (uC_inj e))⟩, fun x hx => by obtain ⟨s, _, _, h⟩ := hrd x hx; exact ⟨_, h⟩⟩
  have e2 : ∀ x ∈ es.toList, ∃ s, s ∈ ks ∧ x.key = uC s ∧ (Go.WideElems.rg Tryz.prog 24 RNil x).1 = .int .u32 s := fun x hx => by
    obtain ⟨s, h4, h5, h6⟩ := hrd x hx
    exact ⟨s, h4, h5, by rw [Go.WideElems.rg_of h6]⟩
  refine ⟨_, ⟨es, ck, hb, F, Nat.le_of_eq hlen, rfl⟩, fun x => ?_, ?_⟩
  · rw [has_eq, List.any_eq_true]
    constructor
    · rintro ⟨p, hp, hq⟩
      have hp := (WideShapes.sorted_perm _).mem_iff.1 hp
      obtain ⟨e, he, rfl⟩ := List.mem_map.1 hp
      obtain ⟨s, h4, _, h6⟩ := e2 e he
      rw [h6] at hq
      have : s = x := by simpa [Lit.sameKey] using hq
      rw [← this]; exact h4
    · intro hx
      have : uC x ∈ es.toList.map (·.key) := by rw [hkey]; exact List.mem_map_of_mem hx
      obtain ⟨e, he, hke⟩ := List.mem_map.1 this
      obtain ⟨s, h4, h5, h6⟩ := e2 e he
      have hsx : s = x := uC_inj (h5.symm.trans hke)
      refine ⟨_, (WideShapes.sorted_perm _).mem_iff.2 (List.mem_map_of_mem he), ?_⟩
      rw [h6, hsx]; simp [Lit.sameKey]
  · show ((es.toList.map (Go.WideElems.rg Tryz.prog 24 RNil)).foldr DataW.insert []).length = _
    rw [(WideShapes.sorted_perm _).length_eq, List.length_map, Array.length_toList, hlen]
end Go.Proofs.YtlgbdgpgdimpdaaGreatDoor.V2
namespace Go.Proofs.YtlgbdgpgdimpdaaGreatDoor.V2
open Go Go.RowKit Go.Maps Go.Sort Go.Shelf
attribute [local go_sem] Oper.semAt_some
theorem infoU : (Tryz.prog.info? 24).map (fun i => (i.zero, i.size, i.bytes)) = some (some (.int .u32 0), 1, 4) := by kernel_rfl
def seqU (Bm o : Nat) : Value := .func (.func 173) #[] #[.pointer (some ⟨Bm, o, none⟩)]
set_option maxRecDepth 100000 in
set_option maxHeartbeats 2000000 in
theorem appendU {H : Type} (Bm o b nn : Nat) (D0 : DataW H) {R : Value → Option (DataW H × List MemPlace)} (w : World) (hBm : Bm < w.heap.size)
    (hm : w.cell? ⟨Bm, o, none⟩ = some (.map (some b))) (hown : w.ownsMap Tryz.prog 24 R b nn D0) (hmax : Maps.size D0 ≤ 1000000) :
    CallsIn Fence.wide 5 Tryz.prog 191 #[.slice none 0 0, seqU Bm o] w fun e W' => ∃ (v : Value) (ss : List Int), e = .returned v ∧ KeysU D0 ss ∧ W'.ownsRow w.heap.size 24 1 v ss.length (ss.map uC) ∧ (v = .slice none 0 0 ↔ ss = []) ∧ RowKit.Below w.heap.size w W' := by
  obtain ⟨i0, hi, hz0, hz1, hz2⟩ := info_parts infoU
  unfold seqU
  refine callsIn_of_wp_marks (n := 5) Tryz.func191 rfl trivial ?_ rfl
  simp only [Tryz.ntmps191, List.size_toArray, List.length_cons, List.length_nil, Nat.reduceAdd, Nat.reduceSub, Array.replicate_succ, Array.replicate_zero, List.push_toArray, List.append_toArray, List.nil_append, List.cons_append]
  gi_wp2
  have bO := Boxed.new w 138 (.slice none 0 0)
  have hB0 : RowKit.Below w.heap.size w (w.alloc (.cells #[.slice none 0 0] 138)) := (RowKit.Below.refl _ w).alloc (Nat.le_refl _) _
  have hown1 : (w.alloc (.cells #[.slice none 0 0] 138)).ownsMap Tryz.prog 24 R b nn D0 := by
    have hbl := hown.lt
    obtain ⟨es, clock, hb, Ft, hs, hD⟩ := hown
    exact ⟨es, clock, (hB0.block b hbl).trans hb, Ft, hs, hD⟩
  refine wpIn_rangeFunc_ownF (F := Fence.wide) (n := 5) rfl (by decide) (gf := 173) (lb := #[.pointer (some ⟨Bm, o, none⟩)]) rfl trivial (enters_of Tryz.func173 (by kernel_rfl) rfl)
    (keysU_stops 4 (by omega) Bm o b nn D0 _ (by simp; omega) ((hB0.cell (p := ⟨Bm, o, none⟩) hBm).trans hm) hown1) walksK_t walksK_b (RowKit.Below.refl _ _) (fun _ => rfl)
    (fun pre W => (∃ v, Boxed W w.heap.size 138 v ∧ W.ownsRow w.heap.size 24 1 v pre.length (pre.map uC) ∧ (v = .slice none 0 0 ↔ pre = [])) ∧ RowKit.Below w.heap.size w W)
    (fun _ _ _ => False)
    (OwnFrom.and (Own.from (holdsRow_own w.heap.size w.heap.size 138 24 1 (fun pre => pre.length) (fun pre => pre.map uC) (fun pre v => v = .slice none 0 0 ↔ pre = [])) _) (ownFrom_below (Nat.le_refl _) (by simp)))
    (fun _ _ _ _ _ hs _ _ => hs)
    ⟨⟨_, bO, World.ownsRow_nil _ _ _ _, by simp⟩, hB0⟩
    (fun x => { tmps := #[.slice none 0 0, .func (.func 173) #[] #[.pointer (some ⟨Bm, o, none⟩)], .pointer (some ⟨w.heap.size, 0, none⟩), undef, .slice none 0 0, .int .u32 x, .func (.func 173) #[] #[.pointer (some ⟨Bm, o, none⟩)], .int .u32 x, undef, undef, undef, undef, undef], defers := [] }) ?assign ?body ?done ?stop
  case assign =>
    intro l x W K hK
    gi_wp2
    exact hK
  case body =>
    rintro l pre x W ⟨⟨v, hv, hrow, hnil⟩, hB⟩ hlt
    have hc := hv.cell
    gi_wp2_with (gi_at_builtin; refine wpListIn_append_own _ rfl _ _ 138 rfl w.heap.size 24 i0 (.int .u32 0) 1 4 Tryz.underlying138 hi hz0 hz1 hz2 rfl (by decide) _ _ _ rfl (hrow.alloc _) ⟨W.heap.size, 0, none⟩ 1 1 [.int .u32 x] rfl rfl (cell_one_new _ _ _) (by simp [Value.oneCell']) (by unfold maxLen; omega) (by omega) (by have := hB.size; simp; omega) ?_; intro v' w1 hown' hgrow _; obtain ⟨g', cap', rfl⟩ := ownsRow_succ hown'; obtain ⟨hv1, hv2, hr2, hk2, hb2⟩ := hv.appended (by decide) hrow hB.size (Nat.le_refl _) hown' hgrow; have hc1 := hv1.cell; have hf1 := hv1.frozen)
    exact ⟨hk2, hk2.walks, ⟨_, hv2, by simpa [uC] using hr2, by simp⟩, hB.trans hb2⟩
  case done =>
    rintro D ys W hD hS ⟨⟨v, hv, hrow, hnil⟩, hB⟩ hK
    have hc := hv.cell
    gi_wp2
    refine ⟨by simp, .inl ⟨_, _, rfl, run_takeDeferred hK, ?_⟩⟩
    exact ⟨_, results_tmp rfl _ _ _, v, ys, rfl, hS, ownsRow_putObj hrow _ hK rfl, hnil, hB.trans (belowK_b (w := w) (Nat.le_refl _) W D _ _ (by simp at hD; omega) hK rfl rfl)⟩
  case stop =>
    rintro D c pre W _ _ h _
    exact h.elim
theorem collectU {H : Type} (Bm o b nn : Nat) (D0 : DataW H) {R : Value → Option (DataW H × List MemPlace)} (w : World) (hBm : Bm < w.heap.size)
    (hm : w.cell? ⟨Bm, o, none⟩ = some (.map (some b))) (hown : w.ownsMap Tryz.prog 24 R b nn D0) (hmax : Maps.size D0 ≤ 1000000) :
    Calls Tryz.prog 171 #[seqU Bm o] w fun e W' => ∃ (v : Value) (ss : List Int), e = .returned v ∧ KeysU D0 ss ∧ W'.ownsRow w.heap.size 24 1 v ss.length (ss.map uC) ∧ (v = .slice none 0 0 ↔ ss = []) ∧ RowKit.Below w.heap.size w W' := by
  have hA := callsIn_wide.1 (appendU Bm o b nn D0 w hBm hm hown hmax)
  unfold seqU at hA ⊢
  go_enter Tryz.func171, Tryz.ntmps171
  go_wp2_with (go_at_call 191; refine hA.mono ?_; rintro e w' ⟨v, ss, rfl, hS, hrow, hnil, hb⟩)
  go_ret
  exact ⟨v, ss, rfl, hS, hrow, hnil, hb⟩
theorem holdsU {w : World} {g : Nat} {cur : Array Value} {e : TypeId} {ss : List Int} (hb : w.heap[g]? = some (.cells cur e (0, 0))) (ht : cur.toList.take ss.length = ss.map uC) : Holds uC w g 0 ss.toArray := fun j hj => by
  have hj' : j < ss.length := by simpa using hj
  have h1 : cur[j]? = (ss.map uC)[j]? := by rw [← ht, List.getElem?_take_of_lt hj', Array.getElem?_toList]
  refine ⟨?_, by simp [World.frozen?, hb]⟩
  simp [World.cell?, hb, h1, hj']
theorem takeU (cur : Array Value) (ts : List Int) (h : ts.length ≤ cur.size) : (putCells uC 0 ts.toArray cur).toList.take ts.length = ts.map uC := by
  apply List.ext_getElem?
  intro j
  by_cases hj : j < ts.length
  · rw [List.getElem?_take_of_lt hj, Array.getElem?_toList]
    simp [putCells, hj, show j < cur.size by omega]
  · rw [List.getElem?_take_eq_none (by omega), List.getElem?_eq_none (by simp; omega)]
theorem heapU {w : World} {g n : Nat} {cur : Array Value} {e : TypeId} {fr : Nat × Nat} (d : Array Int) (hb : w.heap[g]? = some (.cells cur e fr)) :
    (putRow uC (Sort.ahead w n) g 0 d).heap[g]? = some (.cells (putCells uC 0 d cur) e fr) := by
  simp [putRow, mapBlock, Sort.ahead, Array.getElem?_modify, hb, onCells]
theorem growsU {w : World} {g n : Nat} (d : Array Int) : w.grownBy (putRow uC (Sort.ahead w n) g 0 d) (some g) :=
  ⟨rfl, rfl, rfl, by simp, fun k _ hne => by
    have : g ≠ k := fun e => hne (by rw [e])
    simp [putRow, mapBlock, Sort.ahead, Array.getElem?_modify, this]⟩
def srtL (ss : List Int) : List Int := (insertionSort ltInt ss.toArray 0 ss.length).toList
theorem srtL_length (ss : List Int) : (srtL ss).length = ss.length := by
  have h := (insertionSort_holds (lt := ltInt) swo_ltInt ss.toArray 0 ss.length (Nat.zero_le _) (by simp)).1.1
  unfold srtL
  simpa using h
theorem srtL_eq (ss : List Int) : srtL ss = ss.mergeSort (fun x y => !ltInt y x) := by
  obtain ⟨h1, h2⟩ := insertionSort_holds (lt := ltInt) swo_ltInt ss.toArray 0 ss.length (Nat.zero_le _) (by simp)
  have := sorted_unique_holds swo_ltInt (fun x y h1 h2 => by simp only [ltInt, decide_eq_false_iff_not] at h1 h2; omega) ss.toArray _ (by simpa using h1) (by simpa using h2)
  simpa [srtL] using this
set_option maxHeartbeats 1000000 in
theorem sortedU {H : Type} (Bm o b nn : Nat) (D0 : DataW H) {R : Value → Option (DataW H × List MemPlace)} (w : World) (hBm : Bm < w.heap.size)
    (hm : w.cell? ⟨Bm, o, none⟩ = some (.map (some b))) (hown : w.ownsMap Tryz.prog 24 R b nn D0) (hmax : Maps.size D0 ≤ 12) (hK : ∀ ss, KeysU D0 ss → ss.length ≤ 12) :
    Calls Tryz.prog 152 #[seqU Bm o] w fun e W' => ∃ (v : Value) (ss : List Int), e = .returned v ∧ KeysU D0 ss ∧ W'.ownsRow w.heap.size 24 1 v ss.length ((srtL ss).map uC) ∧ (v = .slice none 0 0 ↔ ss = []) ∧ RowKit.Below w.heap.size w W' := by
  have hA := collectU Bm o b nn D0 w hBm hm hown (by omega)
  unfold seqU at hA ⊢
  go_enter Tryz.func152, Tryz.ntmps152
  go_wp2_with (go_at_call 171; refine hA.mono ?_; rintro e w1 ⟨v, ss, rfl, hS, hrow, hnil, hb⟩)
  have hn12 := hK ss hS
  rcases hrow.2 with ⟨rfl, h0⟩ | ⟨g, cap, cur, rfl, hg, hgb, hnc, hcm, hcs, htk⟩
  · have hss : ss = [] := hnil.1 rfl
    subst hss
    go_wp2_with (go_at_call 172; refine (sort_u0 none 0 _).mono ?_; rintro e w2 ⟨rfl, rfl⟩)
    go_ret
    exact ⟨_, [], rfl, hS, by rw [List.eq_nil_of_length_eq_zero (srtL_length [])]; exact hrow, by simp, hb⟩
  · have hH := Lib.hid (holdsU hgb (by rw [Nat.mul_one] at htk; exact htk))
    have HS := Lib.hid hS
    have HB := Lib.hid hb
    have HG := Lib.hid hgb
    have HN := Lib.hid hnil
    clear hS hb hnil htk hrow hgb
    go_wp2_with (go_at_call 172; refine (sort_u g 0 cap ss.length ss.toArray _ hH.out (by simp) hn12).mono ?_; rintro e w2 ⟨rfl, m, rfl⟩)
    go_ret
    refine ⟨_, ss, rfl, HS.out, ⟨by simp [srtL_length], .inr ⟨g, cap, _, rfl, hg, heapU _ HG.out, hnc, hcm, by simp [putCells, hcs], ?_⟩⟩, HN.out, HB.out.grown (growsU _) HB.out.size (fun k e => by cases e; exact hg)⟩
    have e1 : (insertionSort ltInt ss.toArray 0 ss.length) = (srtL ss).toArray := by simp [srtL]
    have hl := srtL_length ss
    rw [e1, Nat.mul_one, ← hl]
    exact takeU cur _ (by rw [hcs]; omega)
end Go.Proofs.YtlgbdgpgdimpdaaGreatDoor.V2
namespace Go.Proofs.YtlgbdgpgdimpdaaGreatDoor.V2
open Go Go.RowKit Go.Maps Go.Sort
def insI (x : Int) : List Int → List Int
  | [] => [x]
  | y :: l => bif decide (y < x) then y :: insI x l else x :: y :: l
def sortI : List Int → List Int
  | [] => []
  | x :: l => insI x (sortI l)
def risI : List Int → Bool
  | [] => true
  | x :: l => (match l with | [] => true | y :: _ => decide (x < y)) && risI l
theorem insI_perm (x : Int) : ∀ l, (insI x l).Perm (x :: l)
  | [] => .refl _
  | y :: l => by
    unfold insI
    cases decide (y < x)
    · exact .refl _
    · exact (List.Perm.cons y (insI_perm x l)).trans (.swap _ _ _)
theorem sortI_perm : ∀ l, (sortI l).Perm l
  | [] => .refl _
  | x :: l => (insI_perm x _).trans (.cons x (sortI_perm l))
theorem risI_lt : ∀ {l : List Int}, risI l = true → l.Pairwise (· < ·)
  | [], _ => .nil
  | [x], _ => List.pairwise_singleton _ _
  | x :: y :: l, h => by
    unfold risI at h
    rw [Bool.and_eq_true, decide_eq_true_eq] at h
    have ih := risI_lt h.2
    refine List.pairwise_cons.2 ⟨fun z hz => ?_, ih⟩
    rcases List.mem_cons.1 hz with rfl | hz
    · exact h.1
    · have := List.rel_of_pairwise_cons ih hz; omega
theorem srtL_of {ss t : List Int} (hp : ss.Perm t) (ht : risI t = true) : srtL ss = t := by
  rw [srtL_eq]
  refine List.Perm.eq_of_pairwise (le := fun a b => (!ltInt b a) = true) (fun a b _ _ h1 h2 => ?_) (List.pairwise_mergeSort (fun a b c h1 h2 => ?_) (fun a b => ?_) ss) ((risI_lt ht).imp fun {a b} h => ?_) ((List.mergeSort_perm ss _).trans hp)
  · simp only [ltInt, Bool.not_eq_true', decide_eq_false_iff_not] at h1 h2; omega
  · simp only [ltInt, Bool.not_eq_true', decide_eq_false_iff_not] at h1 h2 ⊢; omega
  · simp only [ltInt, Bool.or_eq_true, Bool.not_eq_true', decide_eq_false_iff_not]; omega
  · simp only [ltInt, Bool.not_eq_true', decide_eq_false_iff_not]; omega
noncomputable def srtUO (σ : AH) (ks : List Int) : Out := match sortI ks with
  | [] => (true, .nilsl, σ)
  | x :: l => (risI (x :: l) && inU ks && Nat.ble ks.length 12 && Nat.blt σ.next 1000000, .sl σ.next 0 (x :: l).length (x :: l).length false 1, σ.new (.ints .u32 (x :: l) 24 .more))
noncomputable def srtUM (σ : AH) (m : Nat) : Out := match σ.get m with
  | some (.map l) => match keysI l with
    | some ks => srtUO σ ks
    | none => bad σ
  | _ => bad σ
noncomputable def suA (args : List AV) (σ : AH) : Out := match args with
  | [.fn (.func q) [] [.ptr b o]] => bif Nat.beq q 173 then match (σ.get b).bind fun ob => ob.at o with
    | some (.map m) => srtUM σ m
    | _ => bad σ else bad σ
  | _ => bad σ
noncomputable def suF (g : FuncId → List AV → AH → Out) (f : FuncId) (args : List AV) (σ : AH) : Out := bif Nat.beq f 152 then suA args σ else g f args σ
theorem HR.adopt {ρ : Ren} {σ : AH} {W W' : World} (h : HR ρ σ W) (hb : RowKit.Below W.heap.size W W') {g s : Nat} (hg : W.heap.size ≤ g) (hg' : g < W'.heap.size) (hs : σ.next < 1000000) {o : AObj} (hO : OR ρ (0, s) o W'.heap[g]?)  :
    ∃ ρ', ρ' σ.next = some (g, (0, s)) ∧ Sub ρ ρ' ∧ HR ρ' (σ.new o) W' ∧ Stp σ.next ρ σ W ρ' (σ.new o) W' := by
  have hn : ρ σ.next = none := by
    cases hc : ρ σ.next with
    | none => rfl
    | some c => have := (h.dom _ c.1 c.2 hc).1; omega
  have hget : ∀ m, (σ.new o).get m = if m = σ.next then some o else σ.get m := fun m => T.get_put _ _ _ _ (by omega)
  have hsub : Sub ρ (fun b => if b = σ.next then some (g, (0, s)) else ρ b) := fun b x hc => by
    have hne : b ≠ σ.next := by rintro rfl; rw [hn] at hc; cases hc
    simp only [if_neg hne]; exact hc
  refine ⟨fun b => if b = σ.next then some (g, (0, s)) else ρ b, if_pos rfl, hsub, ⟨by show σ.next + 1 ≤ _; omega, fun m hm => by have hm : σ.next + 1 ≤ m := hm; rw [hget, if_neg (by omega)]; exact h.none_ m (by omega), fun b c d hc => ?_, fun b b' c d d' h1 h2 hne => ?_⟩, ⟨fun b hb => if_neg (by omega), fun b c d hc => ?_, by show σ.next ≤ σ.next + 1; omega, fun b ob hb _ ho' _ => ?_, fun c hc _ => hb.block c hc, hb.tape, hb.os, hb.output, hb.size, fun b c d ob hb' _ hc ho' _ => ⟨by rw [hget, if_neg (by omega)]; exact ho', hb.block c hc⟩⟩⟩
  · rw [hget]
    by_cases hbn : b = σ.next
    · subst hbn
      simp only [if_true, Option.some.injEq, Prod.mk.injEq] at hc
      obtain ⟨rfl, rfl⟩ := hc
      exact ⟨Nat.lt_succ_self _, hg', o, if_pos rfl, hO.mono hsub⟩
    · simp only [if_neg hbn] at hc ⊢
      obtain ⟨h1, h2, o2, h3, h4⟩ := h.dom b c d hc
      refine ⟨by show b < σ.next + 1; omega, Nat.lt_of_lt_of_le h2 hb.size, o2, h3, ?_⟩
      rw [hb.block c h2]
      exact h4.mono hsub
  · by_cases e1 : b = σ.next
    · subst e1
      simp only [if_true, Option.some.injEq, Prod.mk.injEq] at h1
      obtain ⟨rfl, rfl⟩ := h1
      simp only [if_neg (Ne.symm hne)] at h2
      have := (h.dom _ _ _ h2).2.1
      omega
    · by_cases e2 : b' = σ.next
      · subst e2
        simp only [if_true, Option.some.injEq, Prod.mk.injEq] at h2
        obtain ⟨rfl, rfl⟩ := h2
        simp only [if_neg e1] at h1
        have := (h.dom _ _ _ h1).2.1
        omega
      · simp only [if_neg e1, if_neg e2] at h1 h2
        exact (h.inj b b' c d d' h1 h2 hne).congr (by rw [hget, if_neg e1]) (by rw [hget, if_neg e2])
  · by_cases hbn : b = σ.next
    · subst hbn
      simp only [if_true, Option.some.injEq, Prod.mk.injEq] at hc
      exact .inr (by omega)
    · simp only [if_neg hbn] at hc
      exact .inl ⟨b, d, hc⟩
  · rw [hget, if_neg (by omega)]; exact ho'
theorem adoptU {ρ : Ren} {σ : AH} {W W' : World} (h : HR ρ σ W) (hb : RowKit.Below W.heap.size W W') (hs : σ.next < 1000000) {u : Value} {ss : List Int} (hne : ss ≠ []) (ho : W'.ownsRow W.heap.size 24 1 u ss.length (ss.map uC)) :
    ∃ ρ', HR ρ' (σ.new (.ints .u32 ss 24 .more)) W' ∧ Stp σ.next ρ σ W ρ' (σ.new (.ints .u32 ss 24 .more)) W' ∧ VR ρ' (.sl σ.next 0 ss.length ss.length false 1) u := by
  have hl : 0 < ss.length := List.length_pos_iff.2 hne
  obtain ⟨_, ⟨_, h0⟩ | ⟨g, cap, cur, rfl, hg, hrow, hn, hcap, hsz, htk⟩⟩ := ho
  · omega
  have hg' : g < W'.heap.size := (Array.getElem?_eq_some_iff.1 hrow).1
  have hO : OR ρ (0, cap) (.ints .u32 ss 24 .more) W'.heap[g]? := by
    rw [hrow]
    refine OR.mk' rfl ⟨cur, 24, (0, 0), rfl, fun _ => ⟨rfl, .inl rfl, by rw [hsz, Nat.mul_one]⟩, by show ss.length + 0 ≤ _; omega, by show ss.length + 0 ≤ cap; omega, fun i a hi => ?_⟩
    simp only [AObj.at] at hi
    obtain ⟨x, hx, rfl⟩ := Option.map_eq_some_iff.1 hi
    have hil : i < ss.length := (List.getElem?_eq_some_iff.1 hx).1
    have e1 : (cur.toList.take (ss.length * 1))[i]? = (ss.map uC)[i]? := by rw [htk]
    rw [List.getElem?_take, if_pos (by omega), Array.getElem?_toList, List.getElem?_map, hx] at e1
    exact ⟨uC x, by rw [Nat.add_zero, e1]; rfl, rfl⟩
  obtain ⟨ρ', k1, _, k3, k4⟩ := h.adopt hb hg hg' hs hO
  refine ⟨ρ', k3, k4, ?_⟩
  unfold VR
  exact .inl ⟨g, (0, cap), 0, cap, k1, rfl, fun _ => rfl, Nat.le_refl _, hn, fun h => (by cases h), by show 0 + cap * 1 ≤ cap; omega⟩
theorem srtUO_ok {ρ : Ren} {σ : AH} {W : World} (hr : HR ρ σ W) {l : List (AV × AV)} {c : Nat} (hM : MR ρ l W.heap[c]?) {ks : List Int} (hk : keysI l = some ks) (h : (srtUO σ ks).1 = true) {v : Value}
    (hC : ∀ (D0 : DataW Nat), W.ownsMap Tryz.prog 24 RNil c ks.length D0 → Maps.size D0 ≤ 12 → (∀ ss, KeysU D0 ss → ss.length ≤ 12) → Calls Tryz.prog 152 #[v] W fun e w' => ∃ (v : Value) (ss : List Int), e = .returned v ∧ KeysU D0 ss ∧
      w'.ownsRow W.heap.size 24 1 v ss.length ((srtL ss).map uC) ∧ (v = .slice none 0 0 ↔ ss = []) ∧ RowKit.Below W.heap.size W w') :
    Calls Tryz.prog 152 #[v] W fun e W' => ∃ v ρ', e = .returned v ∧ HR ρ' (srtUO σ ks).2.2 W' ∧ Stp σ.next ρ σ W ρ' (srtUO σ ks).2.2 W' ∧ VR ρ' (srtUO σ ks).2.1 v := by
  unfold srtUO at h ⊢
  have hso := sortI_perm ks
  cases hS : sortI ks with
  | nil =>
    rw [hS] at hso
    have hks : ks = [] := by simpa using hso.symm.length_eq
    subst hks
    obtain ⟨D, h1, h2, h3⟩ := own_ofU hM hk List.nodup_nil rfl (by simp)
    have hempty : ∀ ss, KeysU D ss → ss = [] := fun ss hss => by
      cases ss with
      | nil => rfl
      | cons x t => have := (h2 x).1 ((hss.2 x).1 (List.mem_cons_self ..)); cases this
    refine (hC D h1 (by rw [h3]; simp) (fun ss hss => by rw [hempty ss hss]; simp)).mono ?_
    rintro e W' ⟨v, ss, rfl, g1, g2, g3, g4⟩
    refine ⟨v, ρ, rfl, hr.below g4, .below (Nat.le_refl _) g4, ?_⟩
    unfold VR
    exact g3.2 (hempty ss g1)
  | cons x t =>
    rw [hS] at h
    simp only [Bool.and_eq_true, Nat.ble_eq, Nat.blt_eq] at h
    obtain ⟨⟨⟨h1, h2⟩, h3⟩, h4⟩ := h
    rw [← hS] at h1
    have hnd : ks.Nodup := hso.nodup_iff.1 ((risI_lt h1).imp fun {a b} hab e => by omega)
    obtain ⟨D, j1, j2, j3⟩ := own_ofU hM hk hnd h2 (by omega)
    have hperm : ∀ ss, KeysU D ss → ss.Perm ks := fun ss hss => (List.perm_ext_iff_of_nodup hss.1 hnd).2 fun y => (hss.2 y).trans (j2 y)
    refine (hC D j1 (by rw [j3]; exact h3) (fun ss hss => by rw [(hperm ss hss).length_eq]; exact h3)).mono ?_
    rintro e W' ⟨v, ss, rfl, g1, g2, g3, g4⟩
    have e1 : srtL ss = x :: t := by rw [← hS]; exact srtL_of ((hperm ss g1).trans hso.symm) h1
    have e2 : ss.length = (x :: t).length := by rw [← hS, hso.length_eq, (hperm ss g1).length_eq]
    rw [e1, e2] at g2
    obtain ⟨ρ', k1, k2, k3⟩ := adoptU hr g4 h4 (by simp) g2
    exact ⟨v, ρ', rfl, k1, k2, k3⟩
theorem suF_ok {Y : List Yl} {g : FuncId → List AV → AH → Out} (hg : FnOk Tryz.prog 6 g Y) : FnOk Tryz.prog 6 (suF g) Y := by
  intro f args σ h
  unfold suF at h ⊢
  cases hf : Nat.beq f 152
  case false => rw [hf] at h; rw [cond_false] at h ⊢; exact hg f args σ h
  rw [hf] at h
  simp only [cond_true] at h ⊢
  have e := Nat.eq_of_beq_eq_true hf
  subst e
  refine ⟨⟨_, Tryz.func152, by kernel_rfl, by kernel_rfl⟩, fun ρ W vs _ hG hr hvs => ?_⟩
  unfold suA at h ⊢
  split at h
  case h_2 => cases h
  rename_i q b o
  cases hq : Nat.beq q 173 <;> rw [hq] at h
  · cases h
  rw [cond_true] at h ⊢
  split at h
  case h_2 => cases h
  rename_i m hm
  obtain ⟨ob, hob, hat⟩ := Option.bind_eq_some_iff.1 hm
  obtain ⟨v, mm, rfl, hv, hmm⟩ := hvs
  have hmm : mm = [] := hmm
  subst hmm
  unfold VR at hv
  obtain ⟨us, ys, rfl, hus, hys⟩ := hv
  have hus : us = [] := hus
  subst hus
  obtain ⟨y, yy, rfl, hy, hyy⟩ := hys
  have hyy : yy = [] := hyy
  subst hyy
  unfold VR at hy
  obtain ⟨c, d, hc, rfl⟩ := hy
  obtain ⟨_, hcl, ob', ho', hO⟩ := hr.dom b c d hc
  rw [hob] at ho'
  cases ho'
  have hcy : ob.cellsy = true := by cases ob <;> first | rfl | (exact absurd hat (by simp [AObj.at]))
  have hpos : 0 < ob.len := by
    cases ob <;> simp only [AObj.at] at hat
    · cases hat
    · exact Nat.lt_of_le_of_lt (Nat.zero_le _) (List.getElem?_eq_some_iff.1 hat).1
    · obtain ⟨_, h5, _⟩ := Option.map_eq_some_iff.1 hat; exact Nat.lt_of_le_of_lt (Nat.zero_le _) (List.getElem?_eq_some_iff.1 h5).1
    · cases hat
    · cases hat
  obtain ⟨cs, el, fr, hx, _, _, _, hall⟩ := (hO.1 hcy).2 fun _ => hpos
  obtain ⟨u, hu, huv⟩ := hall o _ hat
  unfold VR at huv
  obtain ⟨c2, d2, hc2, rfl⟩ := huv
  have hcell : W.cell? ⟨c, o + d.1, none⟩ = some (.map (some c2)) := by simp [World.cell?, hx, hu]
  obtain ⟨_, _, ob2, ho2, hO2⟩ := hr.dom m c2 d2 hc2
  unfold srtUM at h ⊢
  split at h
  case h_2 => cases h
  rename_i l hl
  rw [hl] at ho2
  cases ho2
  cases hk : keysI l <;> simp only [hk] at h ⊢
  · cases h
  rename_i ks
  have e := Nat.eq_of_beq_eq_true hq
  subst e
  exact srtUO_ok hr (hO2.2 l rfl) hk h fun D0 h1 h2 h3 => sortedU c (o + d.1) c2 ks.length D0 W hcl hcell h1 h2 h3
noncomputable section
def kFn (f : Fn → List FV → List FV → FR) (v : FV) : FR := FV.rec (motive_1 := fun _ => FR) (motive_2 := fun _ => FR) (fun _ _ => .bad) (fun _ _ => .bad) (fun _ => .bad) (fun _ => .bad) (fun _ _ => .bad) (fun _ _ _ _ _ _ => .bad) (fun _ => .bad) (fun _ => .bad) (fun g a b _ _ => f g a b) (fun _ _ _ => .bad) (fun _ _ => .bad) (fun _ => .bad) (fun _ _ => .bad) (fun _ _ => .bad) (fun _ => .bad) .bad (fun _ _ _ _ => .bad) v
theorem kFn_cases {f : Fn → List FV → List FV → FR} {v : FV} (h : kFn f v ≠ .bad) : ∃ g a b, v = .fn g a b ∧ kFn f v = f g a b := by
  cases v <;> first | exact ⟨_, _, _, rfl, rfl⟩ | exact absurd rfl h
def kFu (f : Nat → FR) (g : Fn) : FR := Fn.rec (motive := fun _ => FR) f (fun _ => .bad) (fun _ _ => .bad) (fun _ _ _ _ => .bad) (fun _ => .bad) g
theorem kFu_cases {f : Nat → FR} {g : Fn} (h : kFu f g ≠ .bad) : ∃ n, g = .func n ∧ kFu f g = f n := by
  cases g <;> first | exact ⟨_, rfl, rfl⟩ | exact absurd rfl h
def kNi (l : List FV) (s : FR) : FR := List.rec (motive := fun _ => FR) s (fun _ _ _ => .bad) l
theorem kNi_cases {l : List FV} {s : FR} (h : kNi l s ≠ .bad) : l = [] ∧ kNi l s = s := by
  cases l
  · exact ⟨rfl, rfl⟩
  · exact absurd rfl h
def kCe (f : List FV → FR) (ob : FObj) : FR := FObj.rec (motive := fun _ => FR) .bad (fun l _ _ => f l) (fun _ _ _ => .bad) (fun _ _ _ _ => .bad) (fun _ => .bad) .bad ob
theorem kCe_cases {f : List FV → FR} {ob : FObj} (h : kCe f ob ≠ .bad) : ∃ l e t, ob = .cells l e t ∧ kCe f ob = f l := by
  cases ob <;> first | exact ⟨_, _, _, rfl, rfl⟩ | exact absurd rfl h
def kiK (l : List (FV × FV)) (k : List Int → FR) : FR := List.rec (motive := fun _ => (List Int → FR) → FR) (fun k => k []) (fun p _ ih k => Prod.rec (fun x _ => kNn (fun q m => gK .u32 q (ih fun r => k (Int.ofNat m :: r))) x) p) l k
theorem kiK_cases : ∀ {l : List (FV × FV)} {k : List Int → FR}, kiK l k ≠ .bad → ∃ ks, keysI (αP l) = some ks ∧ kiK l k = k ks
  | [], _, _ => ⟨[], rfl, rfl⟩
  | (x, y) :: l, k, h => by
    have h : kNn (fun q m => gK .u32 q (kiK l fun r => k (Int.ofNat m :: r))) x ≠ .bad := h
    show ∃ ks, _ ∧ kNn (fun q m => gK .u32 q (kiK l fun r => k (Int.ofNat m :: r))) x = k ks
    obtain ⟨q, m, rfl, h1⟩ := kNn_cases h
    rw [h1] at h ⊢
    obtain ⟨rfl, h2⟩ := gK_cases h
    rw [h2] at h ⊢
    obtain ⟨ks, h3, h4⟩ := kiK_cases h
    refine ⟨Int.ofNat m :: ks, ?_, h4⟩
    simp only [αP, keysI, αV, h3]
def srtUQ (ks : List Int) (σ : FH) (k : KV) : FR := gB (inU ks && Nat.ble ks.length 12) (List.rec (motive := fun _ => FR) (k (.o .sl) σ) (fun _ _ _ => gB (risI (sortI ks)) (fN (sortI ks).length fun n => fO (.ints .u32 (sortI ks) 24 .more) fun ob => nM σ ob fun b σ => k (.sl b 0 n n false 1) σ)) (sortI ks))
theorem srtUQ_sm (ks : List Int) (σ : FH) (k : KV) : Sm (srtUQ ks σ k) k (srtUO (αH σ) ks) := by
  intro h
  unfold srtUQ srtUO at *
  rw [gB_eq] at h ⊢
  cases hb : inU ks && Nat.ble ks.length 12 <;> rw [hb] at h
  · exact absurd rfl h
  rw [cond_true] at h ⊢
  rw [Bool.and_eq_true] at hb
  cases hS : sortI ks with
  | nil =>
    exact ⟨.o .sl, σ, rfl, rfl⟩
  | cons x t =>
    rw [hS] at h
    have h : gB (risI (x :: t)) (fN (x :: t).length fun n => fO (.ints .u32 (x :: t) 24 .more) fun ob => nM σ ob fun b σ => k (.sl b 0 n n false 1) σ) ≠ .bad := h
    show ∃ v σ', _ ∧ gB (risI (x :: t)) (fN (x :: t).length fun n => fO (.ints .u32 (x :: t) 24 .more) fun ob => nM σ ob fun b σ => k (.sl b 0 n n false 1) σ) = k v σ'
    rw [gB_eq] at h ⊢
    cases hr : risI (x :: t) <;> rw [hr] at h
    · exact absurd rfl h
    rw [cond_true] at h ⊢
    rw [fN_eq, fO_eq] at h ⊢
    obtain ⟨g5, σ', g6, g7⟩ := nM_cases h
    refine ⟨.sl σ.next 0 (x :: t).length (x :: t).length false 1, σ', ?_, g7⟩
    simp only [hb.1, hb.2, g5, hr, Bool.and_self]
    rw [g6]
    rfl
def suQ (l : List FV) (σ : FH) (k : KV) : FR := k1L l (kFn fun g a c => kFu (fun q => gB (Nat.beq q 173) (kNi a (k1L c (kP fun b o => gM σ b (kCe fun l => nthK l o (kM fun m => gM σ m (kMp fun l => kiK l fun ks => srtUQ ks σ k))))))) g)
theorem suQ_sm (l : List FV) (σ : FH) (k : KV) : Sm (suQ l σ k) k (suA (αL l) (αH σ)) := by
  intro h
  unfold suQ at h ⊢
  obtain ⟨x, rfl, h1⟩ := k1L_cases h
  rw [h1] at h ⊢
  obtain ⟨g, a, c, rfl, h2⟩ := kFn_cases h
  rw [h2] at h ⊢
  obtain ⟨q, rfl, h3⟩ := kFu_cases h
  rw [h3] at h ⊢
  rw [gB_eq] at h ⊢
  cases hq : Nat.beq q 173 <;> rw [hq] at h
  · exact absurd rfl h
  rw [cond_true] at h ⊢
  obtain ⟨rfl, h4⟩ := kNi_cases h
  rw [h4] at h ⊢
  obtain ⟨y, rfl, h5⟩ := k1L_cases h
  rw [h5] at h ⊢
  obtain ⟨b, o, rfl, h6⟩ := kP_cases h
  rw [h6] at h ⊢
  obtain ⟨ob, _, h7, h8⟩ := gM_cases h
  rw [h8] at h ⊢
  obtain ⟨l, e, t, rfl, h9⟩ := kCe_cases h
  rw [h9] at h ⊢
  rw [nthK_eq] at h ⊢
  cases hl : l[o]? <;> rw [hl] at h
  · exact absurd rfl h
  rename_i v
  have h : kM (fun m => gM σ m (kMp fun l => kiK l fun ks => srtUQ ks σ k)) v ≠ .bad := h
  show ∃ w σ', _ ∧ kM (fun m => gM σ m (kMp fun l => kiK l fun ks => srtUQ ks σ k)) v = k w σ'
  obtain ⟨m, rfl, h10⟩ := kM_cases h
  rw [h10] at h ⊢
  obtain ⟨ob2, _, h11, h12⟩ := gM_cases h
  rw [h12] at h ⊢
  obtain ⟨l2, rfl, h13⟩ := kMp_cases h
  rw [h13] at h ⊢
  obtain ⟨ks, h14, h15⟩ := kiK_cases h
  rw [h15] at h ⊢
  obtain ⟨v, σ', h16, h17⟩ := srtUQ_sm ks σ k h
  refine ⟨v, σ', ?_, h17⟩
  rw [← h16]
  simp only [αL, αV, suA, hq, h7, Option.bind_some, αO, AObj.at, αL_map, List.getElem?_map, hl, Option.map_some, cond_true, srtUM, h11, h14]
end
end Go.Proofs.YtlgbdgpgdimpdaaGreatDoor.V2
namespace Go.Proofs.YtlgbdgpgdimpdaaGreatDoor.V2
open Go Go.Shelf Go.Proofs Go.RowKit
def rep18_lay_ren : Go.Shelf.Ren := ⟨fun | 105 => 18 | 212 => 42 | 99 => 43 | 165 => 44 | 166 => 45 | 170 => 46 | 169 => 47 | 263 => 91 | 264 => 92 | 206 => 93 | 240 => 94 | 241 => 95 | 276 => 139 | 277 => 140 | n => n, fun | 9 => 9 | 3 => 3 | 4 => 4 | 20 => 20 | 0 => 0 | 46 => 110 | 109 => 111 | 5 => 5 | 72 => 116 | 76 => 120 | 51 => 24 | 146 => 185 | 53 => 43 | 148 => 187 | 70 => 114 | 37 => 23 | 75 => 119 | 127 => 189 | 164 => 240 | 80 => 122 | n => n, fun | n => n⟩
theorem rep18_lay : Go.Proofs.Lays.n105 Tryz.prog rep18_lay_ren := {
  mixed := by kernel_rfl
  f99 := Tryz.func43.trans (congrArg some (by kernel_rfl))
  f105 := Tryz.func18.trans (congrArg some (by kernel_rfl))
  f165 := Tryz.func44.trans (congrArg some (by kernel_rfl))
  f166 := Tryz.func45.trans (congrArg some (by kernel_rfl))
  f169 := Tryz.func47.trans (congrArg some (by kernel_rfl))
  f170 := Tryz.func46.trans (congrArg some (by kernel_rfl))
  f206 := Tryz.func93.trans (congrArg some (by kernel_rfl))
  f212 := Tryz.func42.trans (congrArg some (by kernel_rfl))
  f240 := Tryz.func94.trans (congrArg some (by kernel_rfl))
  f241 := Tryz.func95.trans (congrArg some (by kernel_rfl))
  f263 := Tryz.func91.trans (congrArg some (by kernel_rfl))
  f264 := Tryz.func92.trans (congrArg some (by kernel_rfl))
  f276 := Tryz.func139.trans (congrArg some (by kernel_rfl))
  f277 := Tryz.func140.trans (congrArg some (by kernel_rfl))
  t0 := Tryz.underlying0
  a0 := Tryz.isAgg0
  z0 := Tryz.sizeOf0
  v0 := Tryz.zeroValue0
  t3 := Tryz.underlying3
  a3 := Tryz.isAgg3
  z3 := Tryz.sizeOf3
  v3 := Tryz.zeroValue3
  t4 := Tryz.underlying4
  a4 := Tryz.isAgg4
  z4 := Tryz.sizeOf4
  v4 := Tryz.zeroValue4
  t5 := Tryz.underlying5
  a5 := Tryz.isAgg5
  z5 := Tryz.sizeOf5
  v5 := Tryz.zeroValue5
  t9 := Tryz.underlying9
  a9 := Tryz.isAgg9
  z9 := Tryz.sizeOf9
  v9 := Tryz.zeroValue9
  t20 := Tryz.underlying20
  a20 := Tryz.isAgg20
  z20 := Tryz.sizeOf20
  v20 := Tryz.zeroValue20
  t37 := Tryz.underlying23
  a37 := Tryz.isAgg23
  z37 := Tryz.sizeOf23
  v37 := Tryz.zeroValue23
  t46 := Tryz.underlying110
  a46 := Tryz.isAgg110
  z46 := Tryz.sizeOf110
  v46 := Tryz.zeroValue110
  t51 := Tryz.underlying24
  a51 := Tryz.isAgg24
  z51 := Tryz.sizeOf24
  v51 := Tryz.zeroValue24
  t53 := Tryz.underlying43
  a53 := Tryz.isAgg43
  z53 := Tryz.sizeOf43
  v53 := Tryz.zeroValue43
  t70 := Tryz.underlying114
  a70 := Tryz.isAgg114
  z70 := Tryz.sizeOf114
  v70 := Tryz.zeroValue114
  t72 := Tryz.underlying116
  a72 := Tryz.isAgg116
  z72 := Tryz.sizeOf116
  v72 := Tryz.zeroValue116
  t75 := Tryz.underlying119
  a75 := Tryz.isAgg119
  z75 := Tryz.sizeOf119
  v75 := Tryz.zeroValue119
  t76 := Tryz.underlying120
  a76 := Tryz.isAgg120
  z76 := Tryz.sizeOf120
  v76 := Tryz.zeroValue120
  t109 := Tryz.underlying111
  a109 := Tryz.isAgg111
  z109 := Tryz.sizeOf111
  v109 := Tryz.zeroValue111
  t127 := Tryz.underlying189
  a127 := Tryz.isAgg189
  z127 := Tryz.sizeOf189
  v127 := Tryz.zeroValue189
  t146 := Tryz.underlying185
  a146 := Tryz.isAgg185
  z146 := Tryz.sizeOf185
  v146 := Tryz.zeroValue185
  t148 := Tryz.underlying187
  a148 := Tryz.isAgg187
  z148 := Tryz.sizeOf187
  v148 := Tryz.zeroValue187
  t164 := Tryz.underlying240
  a164 := Tryz.isAgg240
  z164 := Tryz.sizeOf240
  v164 := Tryz.zeroValue240 }
theorem rep18_extra : Builder.Extra Tryz.prog rep18_lay_ren := {
  sizeBuilder := by kernel_rfl
  liesBuilder := by kernel_rfl
  t5 := Tryz.underlying5
  a5 := Tryz.isAgg5
  z5 := Tryz.sizeOf5
  v5 := Tryz.zeroValue5
  infoByte := by kernel_rfl
  cellsByte := by kernel_rfl
  sizeByte := by kernel_rfl
  neB5 := by decide }
theorem repeat18 (s : List UInt8) (c : Nat) (w : World) (h : s.length * c ≤ 1000000) (hc : c ≤ 1000000) : Calls Tryz.prog 18 #[.string ⟨s.toArray⟩, .int .i64 c] w fun e w' => e = .returned (.string ⟨(Lib.repeatL s c).toArray⟩) ∧ Below w.heap.size w w' :=
  Any.strings_Repeat rep18_lay rep18_extra ⟨s.toArray⟩ c w (by omega) (by show s.toArray.size * c ≤ _; simp; omega)
def rpA (args : List AV) (σ : AH) : Out := match args with
  | [.str s, .int .i64 (.ofNat c)] => (Nat.ble (s.length * c) 1000000 && Nat.ble c 1000000, .str (Lib.repeatL s c), σ)
  | _ => bad σ
noncomputable def rpF (g : FuncId → List AV → AH → Out) (f : FuncId) (args : List AV) (σ : AH) : Out := bif Nat.beq f 18 then rpA args σ else g f args σ
theorem rpF_ok {Y : List Yl} {g : FuncId → List AV → AH → Out} (hg : FnOk Tryz.prog 6 g Y) : FnOk Tryz.prog 6 (rpF g) Y := by
  intro f args σ h
  unfold rpF at h ⊢
  cases hf : Nat.beq f 18
  case false => rw [hf] at h; rw [cond_false] at h ⊢; exact hg f args σ h
  rw [hf] at h
  simp only [cond_true] at h ⊢
  have e := Nat.eq_of_beq_eq_true hf
  subst e
  refine ⟨⟨_, Tryz.func18, by kernel_rfl, by kernel_rfl⟩, fun ρ W vs _ hG hr hvs => ?_⟩
  unfold rpA at h ⊢
  split at h
  case h_2 => cases h
  rename_i s c
  obtain ⟨v, mm, rfl, hv, u, mmm, rfl, hu, hmm⟩ := hvs
  have hmm : mmm = [] := hmm
  subst hmm
  unfold VR at hv hu
  subst hu hv
  rw [Bool.and_eq_true, Nat.ble_eq, Nat.ble_eq] at h
  refine (repeat18 s c W h.1 h.2).mono ?_
  rintro e W' ⟨rfl, g⟩
  exact ⟨_, ρ, rfl, hr.below g, .below (Nat.le_refl _) g, by unfold VR; rfl⟩
noncomputable section
theorem repL_add (l : List UInt8) : ∀ (a b : Nat), Lib.repeatL l (a + b) = Lib.repeatL l a ++ Lib.repeatL l b
  | 0, b => by rw [Nat.zero_add]; rfl
  | a + 1, b => by rw [Nat.succ_add, Lib.repeatL, repL_add l a b, Lib.repeatL, List.append_assoc]
def repD (f : Nat) : Nat → Nat → Nat → (Nat → FR) → FR := Nat.rec (motive := fun _ => Nat → Nat → Nat → (Nat → FR) → FR) (fun m _ acc k => gB (Nat.beq m 0) (k acc))
  (fun _ ih m b acc k => Bool.rec (fN (bapp b b) fun b2 => fN (Nat.div m 2) fun m2 => Bool.rec (ih m2 b2 acc k) (fN (bapp acc b) fun a2 => ih m2 b2 a2 k) (Nat.beq (Nat.mod m 2) 1)) (k acc) (Nat.beq m 0)) f
theorem repD_eq (l : List UInt8) : ∀ (f m b acc x y : Nat) (k : Nat → FR), unp b = Lib.repeatL l x → unp acc = Lib.repeatL l y → repD f m b acc k ≠ .bad → ∃ r, unp r = Lib.repeatL l (y + x * m) ∧ repD f m b acc k = k r
  | 0, m, b, acc, x, y, k, h1, h2, h => by
    have h : gB (Nat.beq m 0) (k acc) ≠ .bad := h
    show ∃ r, _ ∧ gB (Nat.beq m 0) (k acc) = _
    rw [gB_eq] at h ⊢
    cases hm : Nat.beq m 0 <;> rw [hm] at h
    · exact absurd rfl h
    · have := Nat.eq_of_beq_eq_true hm
      subst this
      exact ⟨acc, by rw [h2]; simp, rfl⟩
  | f + 1, m, b, acc, x, y, k, h1, h2, h => by
    have h : (Bool.rec (fN (bapp b b) fun b2 => fN (Nat.div m 2) fun m2 => Bool.rec (repD f m2 b2 acc k) (fN (bapp acc b) fun a2 => repD f m2 b2 a2 k) (Nat.beq (Nat.mod m 2) 1)) (k acc) (Nat.beq m 0) : FR) ≠ .bad := h
    show ∃ r, _ ∧ (Bool.rec (fN (bapp b b) fun b2 => fN (Nat.div m 2) fun m2 => Bool.rec (repD f m2 b2 acc k) (fN (bapp acc b) fun a2 => repD f m2 b2 a2 k) (Nat.beq (Nat.mod m 2) 1)) (k acc) (Nat.beq m 0) : FR) = _
    rw [fN_eq, fN_eq, fN_eq] at h ⊢
    have hb : unp (bapp b b) = Lib.repeatL l (x + x) := by rw [bapp_unp, h1, repL_add]
    have hd : m = 2 * (m / 2) + m % 2 := by omega
    cases hm : Nat.beq m 0 with
    | true =>
      have := Nat.eq_of_beq_eq_true hm
      subst this
      exact ⟨acc, by rw [h2]; simp, rfl⟩
    | false =>
      rw [hm] at h
      cases ho : Nat.beq (Nat.mod m 2) 1 with
      | true =>
        rw [ho] at h
        have hm1 : m % 2 = 1 := Nat.eq_of_beq_eq_true ho
        obtain ⟨r, g1, g2⟩ := repD_eq l f (m / 2) (bapp b b) (bapp acc b) (x + x) (y + x) k hb (by rw [bapp_unp, h1, h2, repL_add]) h
        refine ⟨r, ?_, g2⟩
        rw [g1]
        congr 1
        have : x * m = x * (2 * (m / 2)) + x := by conv => lhs; rw [hd, hm1, Nat.mul_add, Nat.mul_one]
        rw [this, Nat.add_mul, Nat.two_mul, Nat.mul_add]
        omega
      | false =>
        rw [ho] at h
        have hm1 : m % 2 = 0 := by
          have : m % 2 ≠ 1 := fun e => by
            have : Nat.beq (Nat.mod m 2) 1 = true := by rw [show Nat.mod m 2 = 1 from e]; rfl
            rw [ho] at this; cases this
          omega
        obtain ⟨r, g1, g2⟩ := repD_eq l f (m / 2) (bapp b b) acc (x + x) y k hb h2 h
        refine ⟨r, ?_, g2⟩
        rw [g1]
        congr 1
        have : x * m = x * (2 * (m / 2)) := by conv => lhs; rw [hd, hm1, Nat.add_zero]
        rw [this, Nat.add_mul, Nat.two_mul, Nat.mul_add]
def kI64 (f : Nat → FR) (v : FV) : FR := kNn (fun q m => gK .i64 q (f m)) v
theorem kI64_cases {f : Nat → FR} {v : FV} (h : kI64 f v ≠ .bad) : ∃ m, v = .n .i64 m ∧ kI64 f v = f m := by
  cases v <;> try exact absurd rfl h
  rename_i q m
  have h : gK .i64 q (f m) ≠ .bad := h
  show ∃ m', FV.n q m = .n .i64 m' ∧ gK .i64 q (f m) = f m'
  unfold gK at h ⊢
  cases hb : Nat.beq (ix .i64) (ix q) <;> rw [hb] at h
  · exact absurd rfl h
  · have := ix_inj hb
    subst this
    exact ⟨m, rfl, rfl⟩
def rpQ (l : List FV) (σ : FH) (k : KV) : FR := k2L l fun x y => kS (fun c => kI64 (fun m => gB (Nat.ble (Nat.mul (bl c) m) 1000000) (gB (Nat.ble m 1000000) (repD 21 m c 1 fun x => k (.s x) σ))) y) x
theorem rpQ_sm (l : List FV) (σ : FH) (k : KV) : Sm (rpQ l σ k) k (rpA (αL l) (αH σ)) := by
  intro h
  unfold rpQ at h ⊢
  obtain ⟨x, y, rfl, h1⟩ := k2L_cases h
  rw [h1] at h ⊢
  obtain ⟨c, rfl, h2⟩ := kS_cases h
  rw [h2] at h ⊢
  obtain ⟨m, rfl, h3⟩ := kI64_cases h
  rw [h3] at h ⊢
  rw [gB_eq, gB_eq] at h ⊢
  cases ha : Nat.ble (Nat.mul (bl c) m) 1000000 <;> rw [ha] at h
  · exact absurd rfl h
  cases hb : Nat.ble m 1000000 <;> rw [hb] at h
  · exact absurd rfl h
  simp only [cond_true]
  simp only [cond_true] at h
  obtain ⟨x, h4, h5⟩ := repD_eq (unp c) 21 m c 1 1 0 (fun x => k (.s x) σ) (by simp [Lib.repeatL]) rfl h
  refine ⟨.s x, σ, ?_, h5⟩
  rw [Nat.zero_add, Nat.one_mul] at h4
  show (Nat.ble ((unp c).length * m) 1000000 && Nat.ble m 1000000, AV.str (Lib.repeatL (unp c) m), αH σ) = (true, AV.str (unp x), αH σ)
  rw [h4, unp_length, hb]
  have ha : Nat.ble (bl c * m) 1000000 = true := ha
  rw [ha]; rfl
end
end Go.Proofs.YtlgbdgpgdimpdaaGreatDoor.V2
namespace Go.Proofs.YtlgbdgpgdimpdaaGreatDoor.V2
open Go
set_option linter.unusedVariables false
noncomputable def qeZ : List Qe := [⟨4, eZ Tryz.f4, q4⟩, ⟨5, eZ Tryz.f5, q5⟩, ⟨6, eZ Tryz.f6, q6⟩, ⟨7, eZ Tryz.f7, q7⟩, ⟨8, eZ Tryz.f8, q8⟩, ⟨9, eZ Tryz.f9, q9⟩, ⟨10, eZ Tryz.f10, q10⟩, ⟨11, eZ Tryz.f11, q11⟩, ⟨12, eZ Tryz.f12, q12⟩, ⟨13, eZ Tryz.f13, q13⟩, ⟨14, eZ Tryz.f14, q14⟩, ⟨15, eZ Tryz.f15, q15⟩, ⟨16, eZ Tryz.f16, q16⟩, ⟨17, eZ Tryz.f17, q17⟩, ⟨19, eZ Tryz.f19, q19⟩, ⟨20, eZ Tryz.f20, q20⟩, ⟨21, eZ Tryz.f21, q21⟩, ⟨22, eZ Tryz.f22, q22⟩, ⟨23, eZ Tryz.f23, q23⟩, ⟨25, eZ Tryz.f25, q25⟩, ⟨26, eZ Tryz.f26, q26⟩, ⟨27, eZ Tryz.f27, q27⟩, ⟨28, eZ Tryz.f28, q28⟩, ⟨29, eZ Tryz.f29, q29⟩, ⟨30, eZ Tryz.f30, q30⟩, ⟨31, eZ Tryz.f31, q31⟩, ⟨32, eZ Tryz.f32, q32⟩, ⟨33, eZ Tryz.f33, q33⟩, ⟨34, eZ Tryz.f34, q34⟩, ⟨35, eZ Tryz.f35, q35⟩, ⟨36, eZ Tryz.f36, q36⟩, ⟨37, eZ Tryz.f37, q37⟩, ⟨38, eZ Tryz.f38, q38⟩, ⟨39, eZ Tryz.f39, q39⟩, ⟨40, eZ Tryz.f40, q40⟩, ⟨41, eZ Tryz.f41, q41⟩, ⟨48, eZ Tryz.f48, q48⟩, ⟨49, eZ Tryz.f49, q49⟩, ⟨50, eZ Tryz.f50, q50⟩, ⟨51, eZ Tryz.f51, q51⟩, ⟨52, eZ Tryz.f52, q52⟩, ⟨53, eZ Tryz.f53, q53⟩, ⟨54, eZ Tryz.f54, q54⟩, ⟨55, eZ Tryz.f55, q55⟩, ⟨56, eZ Tryz.f56, q56⟩, ⟨57, eZ Tryz.f57, q57⟩, ⟨58, eZ Tryz.f58, q58⟩, ⟨59, eZ Tryz.f59, q59⟩, ⟨60, eZ Tryz.f60, q60⟩, ⟨61, eZ Tryz.f61, q61⟩, ⟨62, eZ Tryz.f62, q62⟩, ⟨63, eZ Tryz.f63, q63⟩, ⟨64, eZ Tryz.f64, q64⟩, ⟨65, eZ Tryz.f65, q65⟩, ⟨66, eZ Tryz.f66, q66⟩, ⟨67, eZ Tryz.f67, q67⟩, ⟨68, eZ Tryz.f68, q68⟩, ⟨69, eZ Tryz.f69, q69⟩, ⟨70, eZ Tryz.f70, q70⟩, ⟨71, eZ Tryz.f71, q71⟩, ⟨72, eZ Tryz.f72, q72⟩, ⟨73, eZ Tryz.f73, q73⟩, ⟨74, eZ Tryz.f74, q74⟩, ⟨75, eZ Tryz.f75, q75⟩, ⟨76, eZ Tryz.f76, q76⟩, ⟨78, eZ Tryz.f78, q78⟩, ⟨79, eZ Tryz.f79, q79⟩, ⟨80, eZ Tryz.f80, q80⟩, ⟨81, eZ Tryz.f81, q81⟩, ⟨82, eZ Tryz.f82, q82⟩, ⟨84, eZ Tryz.f84, q84⟩, ⟨85, eZ Tryz.f85, q85⟩, ⟨86, eZ Tryz.f86, q86⟩, ⟨87, eZ Tryz.f87, q87⟩, ⟨88, eZ Tryz.f88, q88⟩, ⟨89, eZ Tryz.f89, q89⟩, ⟨90, eZ Tryz.f90, q90⟩, ⟨96, eZ Tryz.f96, q96⟩, ⟨97, eZ Tryz.f97, q97⟩, ⟨98, eZ Tryz.f98, q98⟩, ⟨99, eZ Tryz.f99, q99⟩, ⟨100, eZ Tryz.f100, q100⟩, ⟨101, eZ Tryz.f101, q101⟩, ⟨102, eZ Tryz.f102, q102⟩, ⟨103, eZ Tryz.f103, q103⟩, ⟨104, eZ Tryz.f104, q104⟩, ⟨105, eZ Tryz.f105, q105⟩, ⟨106, eZ Tryz.f106, q106⟩, ⟨107, eZ Tryz.f107, q107⟩, ⟨108, eZ Tryz.f108, q108⟩, ⟨109, eZ Tryz.f109, q109⟩, ⟨110, eZ Tryz.f110, q110⟩, ⟨111, eZ Tryz.f111, q111⟩, ⟨112, eZ Tryz.f112, q112⟩, ⟨113, eZ Tryz.f113, q113⟩, ⟨114, eZ Tryz.f114, q114⟩, ⟨115, eZ Tryz.f115, q115⟩, ⟨116, eZ Tryz.f116, q116⟩, ⟨117, eZ Tryz.f117, q117⟩, ⟨118, eZ Tryz.f118, q118⟩, ⟨119, eZ Tryz.f119, q119⟩, ⟨120, eZ Tryz.f120, q120⟩, ⟨121, eZ Tryz.f121, q121⟩, ⟨122, eZ Tryz.f122, q122⟩, ⟨123, eZ Tryz.f123, q123⟩, ⟨125, eZ Tryz.f125, q125⟩, ⟨126, eZ Tryz.f126, q126⟩, ⟨127, eZ Tryz.f127, q127⟩, ⟨128, eZ Tryz.f128, q128⟩, ⟨129, eZ Tryz.f129, q129⟩, ⟨130, eZ Tryz.f130, q130⟩, ⟨131, eZ Tryz.f131, q131⟩, ⟨133, eZ Tryz.f133, q133⟩, ⟨135, eZ Tryz.f135, q135⟩, ⟨136, eZ Tryz.f136, q136⟩, ⟨137, eZ Tryz.f137, q137⟩, ⟨138, eZ Tryz.f138, q138⟩, ⟨141, eZ Tryz.f141, q141⟩, ⟨142, eZ Tryz.f142, q142⟩, ⟨143, eZ Tryz.f143, q143⟩, ⟨144, eZ Tryz.f144, q144⟩, ⟨145, eZ Tryz.f145, q145⟩, ⟨146, eZ Tryz.f146, q146⟩, ⟨147, eZ Tryz.f147, q147⟩, ⟨148, eZ Tryz.f148, q148⟩, ⟨149, eZ Tryz.f149, q149⟩, ⟨150, eZ Tryz.f150, q150⟩, ⟨151, eZ Tryz.f151, q151⟩, ⟨153, eZ Tryz.f153, q153⟩, ⟨154, eZ Tryz.f154, q154⟩, ⟨155, eZ Tryz.f155, q155⟩, ⟨156, eZ Tryz.f156, q156⟩, ⟨158, eZ Tryz.f158, q158⟩, ⟨159, eZ Tryz.f159, q159⟩, ⟨160, eZ Tryz.f160, q160⟩, ⟨161, eZ Tryz.f161, q161⟩, ⟨162, eZ Tryz.f162, q162⟩, ⟨163, eZ Tryz.f163, q163⟩, ⟨164, eZ Tryz.f164, q164⟩, ⟨165, eZ Tryz.f165, q165⟩, ⟨166, eZ Tryz.f166, q166⟩, ⟨167, eZ Tryz.f167, q167⟩, ⟨170, eZ Tryz.f170, q170⟩, ⟨174, eZ Tryz.f174, q174⟩, ⟨175, eZ Tryz.f175, q175⟩, ⟨180, eZ Tryz.f180, q180⟩, ⟨181, eZ Tryz.f181, q181⟩, ⟨182, eZ Tryz.f182, q182⟩, ⟨183, eZ Tryz.f183, q183⟩, ⟨184, eZ Tryz.f184, q184⟩, ⟨185, eZ Tryz.f185, q185⟩, ⟨186, eZ Tryz.f186, q186⟩, ⟨187, eZ Tryz.f187, q187⟩, ⟨188, eZ Tryz.f188, q188⟩, ⟨189, eZ Tryz.f189, q189⟩, ⟨198, eZ Tryz.f198, q198⟩, ⟨199, eZ Tryz.f199, q199⟩, ⟨200, eZ Tryz.f200, q200⟩, ⟨201, eZ Tryz.f201, q201⟩, ⟨253, eZ Tryz.f253, q253⟩, ⟨254, eZ Tryz.f254, q254⟩]
theorem qeZ_ok : ∀ p ∈ qeZ, QeOk p := by
  unfold qeZ
  exact List.forall_mem_cons.2 ⟨k4, List.forall_mem_cons.2 ⟨k5, List.forall_mem_cons.2 ⟨k6, List.forall_mem_cons.2 ⟨k7, List.forall_mem_cons.2 ⟨k8, List.forall_mem_cons.2 ⟨k9, List.forall_mem_cons.2 ⟨k10, List.forall_mem_cons.2 ⟨k11, List.forall_mem_cons.2 ⟨k12, List.forall_mem_cons.2 ⟨k13, List.forall_mem_cons.2 ⟨k14, List.forall_mem_cons.2 ⟨k15, List.forall_mem_cons.2 ⟨k16, List.forall_mem_cons.2 ⟨k17, List.forall_mem_cons.2 ⟨k19, List.forall_mem_cons.2 ⟨k20, List.forall_mem_cons.2 ⟨k21, List.forall_mem_cons.2 ⟨k22, List.forall_mem_cons.2 ⟨k23, List.forall_mem_cons.2 ⟨k25, List.forall_mem_cons.2 ⟨k26, List.forall_mem_cons.2 ⟨k27, List.forall_mem_cons.2 ⟨k28, List.forall_mem_cons.2 ⟨k29, List.forall_mem_cons.2 ⟨k30, List.forall_mem_cons.2 ⟨k31, List.forall_mem_cons.2 ⟨k32, List.forall_mem_cons.2 ⟨k33, List.forall_mem_cons.2 ⟨k34, List.forall_mem_cons.2 ⟨k35, List.forall_mem_cons.2 ⟨k36, List.forall_mem_cons.2 ⟨k37, List.forall_mem_cons.2 ⟨k38, List.forall_mem_cons.2 ⟨k39, List.forall_mem_cons.2 ⟨k40, List.forall_mem_cons.2 ⟨k41, List.forall_mem_cons.2 ⟨k48, List.forall_mem_cons.2 ⟨k49, List.forall_mem_cons.2 ⟨k50, List.forall_mem_cons.2 ⟨k51, List.forall_mem_cons.2 ⟨k52, List.forall_mem_cons.2 ⟨k53, List.forall_mem_cons.2 ⟨k54, List.forall_mem_cons.2 ⟨k55, List.forall_mem_cons.2 ⟨k56, List.forall_mem_cons.2 ⟨k57, List.forall_mem_cons.2 ⟨k58, List.forall_mem_cons.2 ⟨k59, List.forall_mem_cons.2 ⟨k60, List.forall_mem_cons.2 ⟨k61, List.forall_mem_cons.2 ⟨k62, List.forall_mem_cons.2 ⟨k63, List.forall_mem_cons.2 ⟨k64, List.forall_mem_cons.2 ⟨k65, List.forall_mem_cons.2 ⟨k66, List.forall_mem_cons.2 ⟨k67, List.forall_mem_cons.2 ⟨k68, List.forall_mem_cons.2 ⟨k69, List.forall_mem_cons.2 ⟨k70, List.forall_mem_cons.2 ⟨k71, List.forall_mem_cons.2 ⟨k72, List.forall_mem_cons.2 ⟨k73, List.forall_mem_cons.2 ⟨k74, List.forall_mem_cons.2 ⟨k75, List.forall_mem_cons.2 ⟨k76, List.forall_mem_cons.2 ⟨k78, List.forall_mem_cons.2 ⟨k79, List.forall_mem_cons.2 ⟨k80, List.forall_mem_cons.2 ⟨k81, List.forall_mem_cons.2 ⟨k82, List.forall_mem_cons.2 ⟨k84, List.forall_mem_cons.2 ⟨k85, List.forall_mem_cons.2 ⟨k86, List.forall_mem_cons.2 ⟨k87, List.forall_mem_cons.2 ⟨k88, List.forall_mem_cons.2 ⟨k89, List.forall_mem_cons.2 ⟨k90, List.forall_mem_cons.2 ⟨k96, List.forall_mem_cons.2 ⟨k97, List.forall_mem_cons.2 ⟨k98, List.forall_mem_cons.2 ⟨k99, List.forall_mem_cons.2 ⟨k100, List.forall_mem_cons.2 ⟨k101, List.forall_mem_cons.2 ⟨k102, List.forall_mem_cons.2 ⟨k103, List.forall_mem_cons.2 ⟨k104, List.forall_mem_cons.2 ⟨k105, List.forall_mem_cons.2 ⟨k106, List.forall_mem_cons.2 ⟨k107, List.forall_mem_cons.2 ⟨k108, List.forall_mem_cons.2 ⟨k109, List.forall_mem_cons.2 ⟨k110, List.forall_mem_cons.2 ⟨k111, List.forall_mem_cons.2 ⟨k112, List.forall_mem_cons.2 ⟨k113, List.forall_mem_cons.2 ⟨k114, List.forall_mem_cons.2 ⟨k115, List.forall_mem_cons.2 ⟨k116, List.forall_mem_cons.2 ⟨k117, List.forall_mem_cons.2 ⟨k118, List.forall_mem_cons.2 ⟨k119, List.forall_mem_cons.2 ⟨k120, List.forall_mem_cons.2 ⟨k121, List.forall_mem_cons.2 ⟨k122, List.forall_mem_cons.2 ⟨k123, List.forall_mem_cons.2 ⟨k125, List.forall_mem_cons.2 ⟨k126, List.forall_mem_cons.2 ⟨k127, List.forall_mem_cons.2 ⟨k128, List.forall_mem_cons.2 ⟨k129, List.forall_mem_cons.2 ⟨k130, List.forall_mem_cons.2 ⟨k131, List.forall_mem_cons.2 ⟨k133, List.forall_mem_cons.2 ⟨k135, List.forall_mem_cons.2 ⟨k136, List.forall_mem_cons.2 ⟨k137, List.forall_mem_cons.2 ⟨k138, List.forall_mem_cons.2 ⟨k141, List.forall_mem_cons.2 ⟨k142, List.forall_mem_cons.2 ⟨k143, List.forall_mem_cons.2 ⟨k144, List.forall_mem_cons.2 ⟨k145, List.forall_mem_cons.2 ⟨k146, List.forall_mem_cons.2 ⟨k147, List.forall_mem_cons.2 ⟨k148, List.forall_mem_cons.2 ⟨k149, List.forall_mem_cons.2 ⟨k150, List.forall_mem_cons.2 ⟨k151, List.forall_mem_cons.2 ⟨k153, List.forall_mem_cons.2 ⟨k154, List.forall_mem_cons.2 ⟨k155, List.forall_mem_cons.2 ⟨k156, List.forall_mem_cons.2 ⟨k158, List.forall_mem_cons.2 ⟨k159, List.forall_mem_cons.2 ⟨k160, List.forall_mem_cons.2 ⟨k161, List.forall_mem_cons.2 ⟨k162, List.forall_mem_cons.2 ⟨k163, List.forall_mem_cons.2 ⟨k164, List.forall_mem_cons.2 ⟨k165, List.forall_mem_cons.2 ⟨k166, List.forall_mem_cons.2 ⟨k167, List.forall_mem_cons.2 ⟨k170, List.forall_mem_cons.2 ⟨k174, List.forall_mem_cons.2 ⟨k175, List.forall_mem_cons.2 ⟨k180, List.forall_mem_cons.2 ⟨k181, List.forall_mem_cons.2 ⟨k182, List.forall_mem_cons.2 ⟨k183, List.forall_mem_cons.2 ⟨k184, List.forall_mem_cons.2 ⟨k185, List.forall_mem_cons.2 ⟨k186, List.forall_mem_cons.2 ⟨k187, List.forall_mem_cons.2 ⟨k188, List.forall_mem_cons.2 ⟨k189, List.forall_mem_cons.2 ⟨k198, List.forall_mem_cons.2 ⟨k199, List.forall_mem_cons.2 ⟨k200, List.forall_mem_cons.2 ⟨k201, List.forall_mem_cons.2 ⟨k253, List.forall_mem_cons.2 ⟨k254, fun p hp => absurd hp List.not_mem_nil⟩⟩⟩⟩⟩⟩⟩⟩⟩⟩⟩⟩⟩⟩⟩⟩⟩⟩⟩⟩⟩⟩⟩⟩⟩⟩⟩⟩⟩⟩⟩⟩⟩⟩⟩⟩⟩⟩⟩⟩⟩⟩⟩⟩⟩⟩⟩⟩⟩⟩⟩⟩⟩⟩⟩⟩⟩⟩⟩⟩⟩⟩⟩⟩⟩⟩⟩⟩⟩⟩⟩⟩⟩⟩⟩⟩⟩⟩⟩⟩⟩⟩⟩⟩⟩⟩⟩⟩⟩⟩⟩⟩⟩⟩⟩⟩⟩⟩⟩⟩⟩⟩⟩⟩⟩⟩⟩⟩⟩⟩⟩⟩⟩⟩⟩⟩⟩⟩⟩⟩⟩⟩⟩⟩⟩⟩⟩⟩⟩⟩⟩⟩⟩⟩⟩⟩⟩⟩⟩⟩⟩⟩⟩⟩⟩⟩⟩⟩⟩⟩⟩⟩⟩⟩⟩⟩⟩⟩⟩⟩⟩
noncomputable def tEZ : T Ent := tabE qeZ
noncomputable def tQZ : T (Phi → HF) := tabP qeZ
theorem tQZ_ok : TabQ 1000000 tEZ tQZ := ⟨fun f => (tabE_get qeZ_ok f).2, fun f x hx => by
  obtain ⟨q, h1, h2, _⟩ := (tabE_get qeZ_ok f).1 x hx
  exact ⟨q, h1, h2⟩⟩
theorem tEZ_ok : TabOk Tryz.prog 6 (fun _ => false) tEZ := fun f x h => by
  obtain ⟨_, _, _, h3⟩ := (tabE_get qeZ_ok f).1 x h
  exact h3
noncomputable def gQZ : FuncId → List AV → AH → Out := slF (suF (crF (rpF (mcF (hmF noF)))))
theorem gQZ_ok : FnOk Tryz.prog 6 gQZ [] := slF_ok (suF_ok (crF_ok (rpF_ok (mcF_ok (hmF_ok noF_ok)))))
theorem gamZ_ok : GamOk Tryz.prog 6 (Gam.grow std 1000000 tEZ Sp.none (.of gQZ) 40) [] := (grow_ok mixed tEZ_ok Sp.none_ok (fun f h => by cases h) 40 (.of gQZ_ok) hpu0').1
noncomputable def bQZ : FuncId → HF := fun f l σ k => Bool.rec (Bool.rec (Bool.rec (Bool.rec (Bool.rec (Bool.rec .bad (hmQ l σ k) (Nat.beq f 157)) (cmQ l σ k) (Nat.beq f 168 || Nat.beq f 169)) (rpQ l σ k) (Nat.beq f 18)) (crQ l σ k) (Nat.beq f 77)) (suQ l σ k) (Nat.beq f 152)) (slM (Γm.fn f (αL l) (αH σ)) k) (Nat.beq f 132)
theorem gQZ_at (f : FuncId) (l : List FV) (σ : FH) : gQZ f (αL l) (αH σ) = bif Nat.beq f 132 then Γm.fn f (αL l) (αH σ) else bif Nat.beq f 152 then suA (αL l) (αH σ) else bif Nat.beq f 77 then crA (αL l) (αH σ) else bif Nat.beq f 18 then rpA (αL l) (αH σ) else bif Nat.beq f 168 || Nat.beq f 169 then cmA (αL l) (αH σ) else bif Nat.beq f 157 then hmA (αL l) (αH σ) else bad (αH σ) := by
  unfold gQZ slF suF crF rpF mcF hmF noF
  rfl
theorem bQZ_ok (f : FuncId) : HOk (bQZ f) ((Gam.of gQZ).fn f) := fun l σ k => by
  show Sm (Bool.rec (Bool.rec (Bool.rec (Bool.rec (Bool.rec (Bool.rec .bad (hmQ l σ k) (Nat.beq f 157)) (cmQ l σ k) (Nat.beq f 168 || Nat.beq f 169)) (rpQ l σ k) (Nat.beq f 18)) (crQ l σ k) (Nat.beq f 77)) (suQ l σ k) (Nat.beq f 152)) (slM (Γm.fn f (αL l) (αH σ)) k) (Nat.beq f 132)) k (gQZ f (αL l) (αH σ))
  rw [gQZ_at]
  cases Nat.beq f 132 with
  | true => exact slM_sm _ _
  | false =>
  cases Nat.beq f 152 with
  | true => exact suQ_sm l σ k
  | false =>
  cases Nat.beq f 77 with
  | true => exact crQ_sm l σ k
  | false =>
  cases Nat.beq f 18 with
  | true => exact rpQ_sm l σ k
  | false =>
  cases Nat.beq f 168 || Nat.beq f 169 with
  | true => exact cmQ_sm l σ k
  | false =>
  cases Nat.beq f 157 with
  | true => exact hmQ_sm l σ k
  | false =>
  exact Sm.bad
end Go.Proofs.YtlgbdgpgdimpdaaGreatDoor.V2
