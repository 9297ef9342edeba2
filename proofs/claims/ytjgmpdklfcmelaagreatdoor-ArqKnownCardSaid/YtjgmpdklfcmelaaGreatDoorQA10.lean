/- Part 10 of the proof: texts of the proof. -/
import Derived.Test.YtjgmpdklfcmelaaGreatDoorQA9
import Derived.Test.YtjgmpdklfcmelaaGreatDoorCards
import Derived.Test.YtjgmpdklfcmelaaGreatDoorTie
import Derived.LaidMore
import Derived.ProofKit
import Derived.OpenShut
import Derived.Carry
import Derived.Deep.DeepHandedRow
import Derived.Deep.Matrix
import Derived.Lib.LaidTab
import Derived.Stop.LaidErr
namespace Go.Proofs.YtjgmpdklfcmelaaGreatDoor.V2
open Go
open Go.RowKit
theorem hpu0 {Γ : Gam} : PuOk Γ (fun _ => false) := fun f h => by cases h
noncomputable def Γs : Gam := Gam.grow std 1000 tabS Sd (.of hF) 40
theorem gams_ok : GamOk Tryz.prog 6 Γs [] := (grow_ok mixed tabS_ok Sd_ok (fun f h => by cases h) 40 (.of hF_ok) hpu0).1
def memG : List AObj := [(AObj.shut), (AObj.cells [AV.nilfn, AV.fn (Go.Fn.func 342) [] [], AV.fn (Go.Fn.func 342) [] [], AV.fn (Go.Fn.func 343) [] [], AV.fn (Go.Fn.func 344) [] [], AV.fn (Go.Fn.func 342) [] []] 326 (Tl.ro)), (AObj.ints (IntKind.u32) [0, 498536548, 997073096, 651767980, 1994146192, 1802195444, 1303535960, 1342533948, 3988292384, 4027552580, 3604390888, 3412177804, 2607071920, 2262029012, 2685067896, 3183342108] 349 (Tl.ro)), (AObj.ints (IntKind.u32) [1779033703, 3144134277, 1013904242, 2773480762, 1359893119, 2600822924, 528734635, 1541459225] 351 (Tl.ro)), (AObj.shut), (AObj.ints (IntKind.u32) [1116352408, 1899447441, 3049323471, 3921009573, 961987163, 1508970993, 2453635748, 2870763221, 3624381080, 310598401, 607225278, 1426881987, 1925078388, 2162078206, 2614888103, 3248222580, 3835390401, 4022224774, 264347078, 604807628, 770255983, 1249150122, 1555081692, 1996064986, 2554220882, 2821834349, 2952996808, 3210313671, 3336571891, 3584528711, 113926993, 338241895, 666307205, 773529912, 1294757372, 1396182291, 1695183700, 1986661051, 2177026350, 2456956037, 2730485921, 2820302411, 3259730800, 3345764771, 3516065817, 3600352804, 4094571909, 275423344, 430227734, 506948616, 659060556, 883997877, 958139571, 1322822218, 1537002063, 1747873779, 1955562222, 2024104815, 2227730452, 2361852424, 2428436474, 2756734187, 3204031479, 3329325298] 374 (Tl.ro))]
noncomputable def c17 : ACode := (.seq (.reg [⟨(.aop (.mov (.lit (.bool false)))), (some 0), none⟩]) (.seq (.reg [⟨(.call (.lit (.fn (.func 16) [] [])) [(.lit (.int .u32 (9)))]), (some 13), none⟩, ⟨(.aop (.mov (.slot 13))), (some 12), none⟩, ⟨(.aop (.extract (.slot 12) 0)), (some 14), none⟩, ⟨(.aop (.extract (.slot 12) 1)), (some 15), none⟩, ⟨(.aop (.mov (.slot 14))), (some 1), none⟩, ⟨(.aop (.mov (.slot 15))), (some 2), none⟩]) (.seq (.seq (.reg [⟨(.aop (.mov (.slot 1))), (some 16), none⟩, ⟨(.aop (.pur (.eqv false .ptr) [(.slot 16), (.lit .nilptr)])), (some 17), none⟩, ⟨(.aop (.mov (.slot 17))), (some 18), none⟩, ⟨(.aop (.mov (.slot 1))), (some 19), (some ((.slot 18), false))⟩, ⟨(.aop (.mk (.bslice 5 1 1) [(.lit (.int .u8 (97)))])), (some 20), (some ((.slot 18), false))⟩, ⟨(.aop (.ext .mark [(.slot 20)])), (some 21), (some ((.slot 18), false))⟩, ⟨(.call (.lit (.fn (.func 11) [] [])) [(.slot 19), (.slot 21), (.lit (.int .i64 (0)))]), (some 22), (some ((.slot 18), false))⟩, ⟨(.aop (.bin .neq (.slot 22) (.lit (.int .i64 (0))))), (some 23), (some ((.slot 18), false))⟩, ⟨(.aop (.pick (.slot 18) (.lit (.bool true)) (.slot 23))), (some 24), none⟩, ⟨(.aop (.mov (.slot 24))), (some 25), none⟩, ⟨(.aop (.mov (.slot 1))), (some 26), (some ((.slot 25), false))⟩, ⟨(.aop (.mk (.bslice 5 1 1) [(.lit (.int .u8 (98)))])), (some 27), (some ((.slot 25), false))⟩, ⟨(.aop (.ext .mark [(.slot 27)])), (some 28), (some ((.slot 25), false))⟩, ⟨(.call (.lit (.fn (.func 11) [] [])) [(.slot 26), (.slot 28), (.lit (.int .i64 (0)))]), (some 29), (some ((.slot 25), false))⟩, ⟨(.aop (.bin .neq (.slot 29) (.lit (.int .i64 (0))))), (some 30), (some ((.slot 25), false))⟩, ⟨(.aop (.pick (.slot 25) (.lit (.bool true)) (.slot 30))), (some 31), none⟩]) (.cond (.slot 31) (.seq (.reg [⟨(.aop (.mov (.lit (.bool false)))), (some 0), none⟩]) .ret) .skip)) (.seq (.reg [⟨(.aop (.mov (.slot 1))), (some 32), none⟩, ⟨(.call (.lit (.fn (.func 12) [] [])) [(.slot 32), (.lit (.int .i64 (0)))]), (some 33), none⟩, ⟨(.aop (.mov (.slot 33))), (some 3), none⟩]) (.seq (.seq (.reg [⟨(.aop (.mov (.slot 3))), (some 34), none⟩, ⟨(.aop (.lenSl (.slot 34))), (some 35), none⟩, ⟨(.aop (.bin .neq (.slot 35) (.lit (.int .i64 (2))))), (some 36), none⟩]) (.cond (.slot 36) (.seq (.reg [⟨(.aop (.mov (.lit (.bool false)))), (some 0), none⟩]) .ret) .skip)) (.seq (.reg [⟨(.aop (.mov (.slot 2))), (some 38), none⟩, ⟨(.aop (.mov (.slot 3))), (some 39), none⟩, ⟨(.aop (.idxSl 1 (.slot 39) (.lit (.int .i64 (0))))), (some 40), none⟩, ⟨(.aop (.load1 (.slot 40))), (some 41), none⟩, ⟨(.call (.lit (.fn (.func 7) [] [])) [(.slot 38), (.slot 41)]), (some 42), none⟩, ⟨(.aop (.mov (.slot 42))), (some 37), none⟩, ⟨(.aop (.extract (.slot 37) 0)), (some 43), none⟩, ⟨(.aop (.extract (.slot 37) 1)), (some 44), none⟩, ⟨(.aop (.mov (.slot 43))), (some 4), none⟩, ⟨(.aop (.mov (.slot 44))), (some 5), none⟩]) (.seq (.reg [⟨(.aop (.mov (.slot 2))), (some 45), none⟩, ⟨(.call (.lit (.fn (.func 12) [] [])) [(.slot 45), (.lit (.int .i64 (0)))]), (some 46), none⟩, ⟨(.aop (.mov (.slot 46))), (some 6), none⟩]) (.seq (.seq (.reg [⟨(.aop (.mov (.slot 5))), (some 47), none⟩, ⟨(.aop (.bin .neq (.slot 47) (.lit (.int .i64 (0))))), (some 48), none⟩, ⟨(.aop (.mov (.slot 48))), (some 49), none⟩, ⟨(.aop (.mov (.slot 4))), (some 50), (some ((.slot 49), false))⟩, ⟨(.aop (.lenSl (.slot 50))), (some 51), (some ((.slot 49), false))⟩, ⟨(.aop (.bin .neq (.slot 51) (.lit (.int .i64 (1))))), (some 52), (some ((.slot 49), false))⟩, ⟨(.aop (.pick (.slot 49) (.lit (.bool true)) (.slot 52))), (some 53), none⟩, ⟨(.aop (.mov (.slot 53))), (some 54), none⟩, ⟨(.aop (.mov (.slot 4))), (some 55), (some ((.slot 54), false))⟩, ⟨(.aop (.idxSl 1 (.slot 55) (.lit (.int .i64 (0))))), (some 56), (some ((.slot 54), false))⟩, ⟨(.aop (.load1 (.slot 56))), (some 57), (some ((.slot 54), false))⟩, ⟨(.aop (.rd .sl2str [(.slot 57)])), (some 58), (some ((.slot 54), false))⟩, ⟨(.aop (.bin .neq (.slot 58) (.lit (.str [97])))), (some 59), (some ((.slot 54), false))⟩, ⟨(.aop (.pick (.slot 54) (.lit (.bool true)) (.slot 59))), (some 60), none⟩, ⟨(.aop (.mov (.slot 60))), (some 61), none⟩, ⟨(.aop (.mov (.slot 6))), (some 62), (some ((.slot 61), false))⟩, ⟨(.aop (.lenSl (.slot 62))), (some 63), (some ((.slot 61), false))⟩, ⟨(.aop (.bin .neq (.slot 63) (.lit (.int .i64 (1))))), (some 64), (some ((.slot 61), false))⟩, ⟨(.aop (.pick (.slot 61) (.lit (.bool true)) (.slot 64))), (some 65), none⟩]) (.cond (.slot 65) (.seq (.reg [⟨(.aop (.mov (.lit (.bool false)))), (some 0), none⟩]) .ret) .skip)) (.seq (.reg [⟨(.aop (.mov (.slot 1))), (some 67), none⟩, ⟨(.aop (.mov (.slot 6))), (some 68), none⟩, ⟨(.aop (.idxSl 1 (.slot 68) (.lit (.int .i64 (0))))), (some 69), none⟩, ⟨(.aop (.load1 (.slot 69))), (some 70), none⟩, ⟨(.call (.lit (.fn (.func 7) [] [])) [(.slot 67), (.slot 70)]), (some 71), none⟩, ⟨(.aop (.mov (.slot 71))), (some 66), none⟩, ⟨(.aop (.extract (.slot 66) 0)), (some 72), none⟩, ⟨(.aop (.extract (.slot 66) 1)), (some 73), none⟩, ⟨(.aop (.mov (.slot 72))), (some 7), none⟩, ⟨(.aop (.mov (.slot 73))), (some 8), none⟩]) (.seq (.reg [⟨(.aop (.mov (.slot 1))), (some 74), none⟩, ⟨(.call (.lit (.fn (.func 12) [] [])) [(.slot 74), (.lit (.int .i64 (3)))]), (some 75), none⟩, ⟨(.aop (.mov (.slot 75))), (some 9), none⟩]) (.seq (.seq (.reg [⟨(.aop (.mov (.slot 8))), (some 76), none⟩, ⟨(.aop (.bin .neq (.slot 76) (.lit (.int .i64 (0))))), (some 77), none⟩, ⟨(.aop (.mov (.slot 77))), (some 78), none⟩, ⟨(.aop (.mov (.slot 9))), (some 79), (some ((.slot 78), false))⟩, ⟨(.aop (.lenSl (.slot 79))), (some 80), (some ((.slot 78), false))⟩, ⟨(.aop (.bin .neq (.slot 80) (.lit (.int .i64 (1))))), (some 81), (some ((.slot 78), false))⟩, ⟨(.aop (.pick (.slot 78) (.lit (.bool true)) (.slot 81))), (some 82), none⟩]) (.cond (.slot 82) (.seq (.reg [⟨(.aop (.mov (.lit (.bool false)))), (some 0), none⟩]) .ret) .skip)) (.seq (.reg [⟨(.aop (.mov (.slot 2))), (some 84), none⟩, ⟨(.aop (.mov (.slot 9))), (some 85), none⟩, ⟨(.aop (.idxSl 1 (.slot 85) (.lit (.int .i64 (0))))), (some 86), none⟩, ⟨(.aop (.load1 (.slot 86))), (some 87), none⟩, ⟨(.call (.lit (.fn (.func 7) [] [])) [(.slot 84), (.slot 87)]), (some 88), none⟩, ⟨(.aop (.mov (.slot 88))), (some 83), none⟩, ⟨(.aop (.extract (.slot 83) 0)), (some 89), none⟩, ⟨(.aop (.extract (.slot 83) 1)), (some 90), none⟩, ⟨(.aop (.mov (.slot 89))), (some 10), none⟩, ⟨(.aop (.mov (.slot 90))), (some 11), none⟩]) (.seq (.reg [⟨(.aop (.mov (.slot 11))), (some 91), none⟩, ⟨(.aop (.bin .eql (.slot 91) (.lit (.int .i64 (0))))), (some 92), none⟩, ⟨(.aop (.mov (.slot 92))), (some 93), none⟩, ⟨(.aop (.mov (.slot 10))), (some 94), (some ((.slot 93), true))⟩, ⟨(.aop (.lenSl (.slot 94))), (some 95), (some ((.slot 93), true))⟩, ⟨(.aop (.bin .eql (.slot 95) (.lit (.int .i64 (1))))), (some 96), (some ((.slot 93), true))⟩, ⟨(.aop (.pick (.slot 93) (.slot 96) (.lit (.bool false)))), (some 97), none⟩, ⟨(.aop (.mov (.slot 97))), (some 98), none⟩, ⟨(.aop (.mov (.slot 10))), (some 99), (some ((.slot 98), true))⟩, ⟨(.aop (.idxSl 1 (.slot 99) (.lit (.int .i64 (0))))), (some 100), (some ((.slot 98), true))⟩, ⟨(.aop (.load1 (.slot 100))), (some 101), (some ((.slot 98), true))⟩, ⟨(.aop (.rd .sl2str [(.slot 101)])), (some 102), (some ((.slot 98), true))⟩, ⟨(.aop (.bin .eql (.slot 102) (.lit (.str [98])))), (some 103), (some ((.slot 98), true))⟩, ⟨(.aop (.pick (.slot 98) (.slot 103) (.lit (.bool false)))), (some 104), none⟩, ⟨(.aop (.mov (.slot 104))), (some 0), none⟩]) .ret)))))))))))))
theorem comp17 : (V2.compC Tryz.prog 6 Tryz.f17.ntmps (fun _ => false) (Tryz.f17.body.getD .skip), V2.compR Tryz.prog Tryz.f17.results.toList) = (some c17, some [(.tmp 0)]) := by kernel_rfl
theorem body17 : Tryz.f17.body = some (Tryz.f17.body.getD .skip) := by kernel_rfl
noncomputable def c3 : ACode := (.seq (.reg [⟨(.aop (.mov (.lit (.bool false)))), (some 0), none⟩]) (.seq (.reg [⟨(.aop (.mov (.lit .nilptr))), (some 1), none⟩]) (.seq (.reg [⟨(.aop (.pur (.build [(.int .u32 (0)), (.int .u32 (0)), (.int .u8 (0)), (.int .u8 (0)), (.int .u8 (0)), (.int .u8 (0)), (.int .u8 (0)), (.int .u8 (0)), (.int .u8 (0)), (.int .u8 (0)), (.int .u8 (0)), (.int .u8 (0)), (.int .u8 (0)), (.int .u8 (0)), (.int .u8 (0)), (.int .u8 (0)), (.int .u8 (0)), (.int .u8 (0)), (.int .u8 (0)), (.int .u8 (0)), (.int .u8 (0)), (.int .u8 (0)), (.int .u8 (0)), (.int .u8 (0)), (.int .u8 (0)), (.int .u8 (0)), (.int .u8 (0)), (.int .u8 (0)), (.int .u8 (0)), (.int .u8 (0)), (.int .u8 (0)), (.int .u8 (0)), (.int .u8 (0)), (.int .u8 (0)), (.int .u8 (0)), (.int .u8 (0)), (.int .u8 (0)), (.int .u8 (0)), (.int .u8 (0)), (.int .u8 (0)), (.int .u8 (0)), (.int .u8 (0)), (.int .u8 (0)), (.int .u8 (0)), (.int .u8 (0)), (.int .u8 (0)), (.int .u8 (0)), (.int .u8 (0)), (.int .u8 (0)), (.int .u8 (0)), (.int .u8 (0)), (.int .u8 (0)), (.int .u8 (0)), (.int .u8 (0)), (.int .u8 (0)), (.int .u8 (0)), (.int .u8 (0)), (.int .u8 (0)), (.int .u8 (0)), (.int .u8 (0)), (.int .u8 (0)), (.int .u8 (0)), (.int .u8 (0)), (.int .u8 (0)), (.int .u8 (0)), (.int .u8 (0)), (.int .u32 (0)), (.int .i64 (0)), (.int .i64 (0)), .nilptr, .nilptr, (.bool false)] []) [])), (some 27), none⟩, ⟨(.aop (.box 31 (.slot 27))), (some 28), none⟩, ⟨(.aop (.mov (.slot 28))), (some 2), none⟩]) (.seq (.reg [⟨(.aop (.mov (.slot 1))), (some 30), none⟩, ⟨(.call (.lit (.fn (.func 7) [] [])) [(.slot 30), (.lit .nilsl)]), (some 31), none⟩, ⟨(.aop (.mov (.slot 31))), (some 29), none⟩, ⟨(.aop (.extract (.slot 29) 0)), (some 32), none⟩, ⟨(.aop (.extract (.slot 29) 1)), (some 33), none⟩, ⟨(.aop (.mov (.slot 32))), (some 3), none⟩, ⟨(.aop (.mov (.slot 33))), (some 4), none⟩]) (.seq (.reg [⟨(.aop (.mov (.slot 2))), (some 35), none⟩, ⟨(.call (.lit (.fn (.func 8) [] [])) [(.slot 35)]), (some 36), none⟩, ⟨(.aop (.mov (.slot 36))), (some 34), none⟩, ⟨(.aop (.extract (.slot 34) 0)), (some 37), none⟩, ⟨(.aop (.extract (.slot 34) 1)), (some 38), none⟩, ⟨(.aop (.mov (.slot 37))), (some 5), none⟩, ⟨(.aop (.mov (.slot 38))), (some 6), none⟩]) (.seq (.reg [⟨(.aop (.mov (.slot 1))), (some 40), none⟩, ⟨(.call (.lit (.fn (.func 9) [] [])) [(.slot 40)]), (some 41), none⟩, ⟨(.aop (.mov (.slot 41))), (some 39), none⟩, ⟨(.aop (.extract (.slot 39) 0)), (some 42), none⟩, ⟨(.aop (.extract (.slot 39) 1)), (some 43), none⟩, ⟨(.aop (.mov (.slot 42))), (some 7), none⟩, ⟨(.aop (.mov (.slot 43))), (some 8), none⟩]) (.seq (.reg [⟨(.aop (.pur (.build [(.int .u32 (0)), (.int .u32 (0)), (.int .u8 (0)), (.int .u8 (0)), (.int .u8 (0)), (.int .u8 (0)), (.int .u8 (0)), (.int .u8 (0)), (.int .u8 (0)), (.int .u8 (0)), (.int .u8 (0)), (.int .u8 (0)), (.int .u8 (0)), (.int .u8 (0)), (.int .u8 (0)), (.int .u8 (0)), (.int .u8 (0)), (.int .u8 (0)), (.int .u8 (0)), (.int .u8 (0)), (.int .u8 (0)), (.int .u8 (0)), (.int .u8 (0)), (.int .u8 (0)), (.int .u8 (0)), (.int .u8 (0)), (.int .u8 (0)), (.int .u8 (0)), (.int .u8 (0)), (.int .u8 (0)), (.int .u8 (0)), (.int .u8 (0)), (.int .u8 (0)), (.int .u8 (0)), (.int .u8 (0)), (.int .u8 (0)), (.int .u8 (0)), (.int .u8 (0)), (.int .u8 (0)), (.int .u8 (0)), (.int .u8 (0)), (.int .u8 (0)), (.int .u8 (0)), (.int .u8 (0)), (.int .u8 (0)), (.int .u8 (0)), (.int .u8 (0)), (.int .u8 (0)), (.int .u8 (0)), (.int .u8 (0)), (.int .u8 (0)), (.int .u8 (0)), (.int .u8 (0)), (.int .u8 (0)), (.int .u8 (0)), (.int .u8 (0)), (.int .u8 (0)), (.int .u8 (0)), (.int .u8 (0)), (.int .u8 (0)), (.int .u8 (0)), (.int .u8 (0)), (.int .u8 (0)), (.int .u8 (0)), (.int .u8 (0)), (.int .u8 (0)), (.int .u32 (0)), (.int .i64 (0)), (.int .i64 (0))] []) [])), (some 45), none⟩, ⟨(.call (.lit (.fn (.func 10) [] [])) [(.slot 45)]), (some 46), none⟩, ⟨(.aop (.mov (.slot 46))), (some 44), none⟩, ⟨(.aop (.extract (.slot 44) 0)), (some 47), none⟩, ⟨(.aop (.extract (.slot 44) 1)), (some 48), none⟩, ⟨(.aop (.mov (.slot 47))), (some 9), none⟩, ⟨(.aop (.mov (.slot 48))), (some 10), none⟩]) (.seq (.seq (.reg [⟨(.aop (.mov (.slot 4))), (some 49), none⟩, ⟨(.aop (.bin .neq (.slot 49) (.lit (.int .i64 (2))))), (some 50), none⟩, ⟨(.aop (.mov (.slot 50))), (some 51), none⟩, ⟨(.aop (.mov (.slot 1))), (some 52), (some ((.slot 51), false))⟩, ⟨(.call (.lit (.fn (.func 11) [] [])) [(.slot 52), (.lit .nilsl), (.lit (.int .i64 (0)))]), (some 53), (some ((.slot 51), false))⟩, ⟨(.aop (.bin .neq (.slot 53) (.lit (.int .i64 (2))))), (some 54), (some ((.slot 51), false))⟩, ⟨(.aop (.pick (.slot 51) (.lit (.bool true)) (.slot 54))), (some 55), none⟩, ⟨(.aop (.mov (.slot 55))), (some 56), none⟩, ⟨(.aop (.mov (.slot 2))), (some 57), (some ((.slot 56), false))⟩, ⟨(.call (.lit (.fn (.func 12) [] [])) [(.slot 57), (.lit (.int .i64 (0)))]), (some 58), (some ((.slot 56), false))⟩, ⟨(.aop (.lenSl (.slot 58))), (some 59), (some ((.slot 56), false))⟩, ⟨(.aop (.bin .neq (.slot 59) (.lit (.int .i64 (0))))), (some 60), (some ((.slot 56), false))⟩, ⟨(.aop (.pick (.slot 56) (.lit (.bool true)) (.slot 60))), (some 61), none⟩, ⟨(.aop (.mov (.slot 61))), (some 62), none⟩, ⟨(.aop (.mov (.slot 1))), (some 63), (some ((.slot 62), false))⟩, ⟨(.call (.lit (.fn (.func 13) [] [])) [(.slot 63)]), (some 64), (some ((.slot 62), false))⟩, ⟨(.aop (.pick (.slot 62) (.lit (.bool true)) (.slot 64))), (some 65), none⟩, ⟨(.aop (.mov (.slot 65))), (some 66), none⟩, ⟨(.aop (.mov (.slot 7))), (some 67), (some ((.slot 66), false))⟩, ⟨(.aop (.mov (.slot 8))), (some 68), (some ((.slot 66), false))⟩, ⟨(.aop (.bin .add (.slot 67) (.slot 68))), (some 69), (some ((.slot 66), false))⟩, ⟨(.aop (.bin .neq (.slot 69) (.lit (.int .i64 (0))))), (some 70), (some ((.slot 66), false))⟩, ⟨(.aop (.pick (.slot 66) (.lit (.bool true)) (.slot 70))), (some 71), none⟩, ⟨(.aop (.mov (.slot 71))), (some 72), none⟩, ⟨(.aop (.mov (.slot 2))), (some 73), (some ((.slot 72), false))⟩, ⟨(.call (.lit (.fn (.func 14) [] [])) [(.slot 73)]), (some 74), (some ((.slot 72), false))⟩, ⟨(.aop (.bin .neq (.slot 74) (.lit (.int .u32 (0))))), (some 75), (some ((.slot 72), false))⟩, ⟨(.aop (.pick (.slot 72) (.lit (.bool true)) (.slot 75))), (some 76), none⟩, ⟨(.aop (.mov (.slot 76))), (some 77), none⟩, ⟨(.aop (.mov (.slot 6))), (some 78), (some ((.slot 77), false))⟩, ⟨(.aop (.pick (.slot 77) (.lit (.bool true)) (.slot 78))), (some 79), none⟩, ⟨(.aop (.mov (.slot 79))), (some 80), none⟩, ⟨(.aop (.mov (.slot 1))), (some 81), (some ((.slot 80), false))⟩, ⟨(.call (.lit (.fn (.func 15) [] [])) [(.slot 81)]), (some 82), (some ((.slot 80), false))⟩, ⟨(.aop (.pur (.eqv true .ptr) [(.slot 82), (.lit .nilptr)])), (some 83), (some ((.slot 80), false))⟩, ⟨(.aop (.pick (.slot 80) (.lit (.bool true)) (.slot 83))), (some 84), none⟩, ⟨(.aop (.mov (.slot 84))), (some 85), none⟩, ⟨(.aop (.mov (.slot 10))), (some 86), (some ((.slot 85), false))⟩, ⟨(.aop (.bin .neq (.slot 86) (.lit (.int .i64 (1))))), (some 87), (some ((.slot 85), false))⟩, ⟨(.aop (.pick (.slot 85) (.lit (.bool true)) (.slot 87))), (some 88), none⟩]) (.cond (.slot 88) (.seq (.reg [⟨(.aop (.mov (.lit (.bool false)))), (some 0), none⟩]) .ret) .skip)) (.seq (.reg [⟨(.call (.lit (.fn (.func 16) [] [])) [(.lit (.int .u32 (2)))]), (some 90), none⟩, ⟨(.aop (.mov (.slot 90))), (some 89), none⟩, ⟨(.aop (.extract (.slot 89) 0)), (some 91), none⟩, ⟨(.aop (.extract (.slot 89) 1)), (some 92), none⟩, ⟨(.aop (.mov (.slot 91))), (some 11), none⟩, ⟨(.aop (.mov (.slot 92))), (some 12), none⟩]) (.seq (.seq (.reg [⟨(.aop (.mov (.slot 11))), (some 93), none⟩, ⟨(.aop (.pur (.eqv false .ptr) [(.slot 93), (.lit .nilptr)])), (some 94), none⟩, ⟨(.aop (.mov (.slot 94))), (some 95), none⟩, ⟨(.aop (.mov (.slot 11))), (some 96), (some ((.slot 95), false))⟩, ⟨(.call (.lit (.fn (.func 12) [] [])) [(.slot 96), (.lit (.int .i64 (0)))]), (some 97), (some ((.slot 95), false))⟩, ⟨(.aop (.lenSl (.slot 97))), (some 98), (some ((.slot 95), false))⟩, ⟨(.aop (.bin .neq (.slot 98) (.lit (.int .i64 (0))))), (some 99), (some ((.slot 95), false))⟩, ⟨(.aop (.pick (.slot 95) (.lit (.bool true)) (.slot 99))), (some 100), none⟩, ⟨(.aop (.mov (.slot 100))), (some 101), none⟩, ⟨(.aop (.mov (.slot 11))), (some 102), (some ((.slot 101), false))⟩, ⟨(.aop (.mk (.makeSl 5 1 [(.int .u8 (0))]) [(.lit (.int .i64 (257))), (.lit (.int .i64 (257)))])), (some 103), (some ((.slot 101), false))⟩, ⟨(.call (.lit (.fn (.func 11) [] [])) [(.slot 102), (.slot 103), (.lit (.int .i64 (0)))]), (some 104), (some ((.slot 101), false))⟩, ⟨(.aop (.bin .neq (.slot 104) (.lit (.int .i64 (3))))), (some 105), (some ((.slot 101), false))⟩, ⟨(.aop (.pick (.slot 101) (.lit (.bool true)) (.slot 105))), (some 106), none⟩, ⟨(.aop (.mov (.slot 106))), (some 107), none⟩, ⟨(.aop (.mov (.slot 11))), (some 108), (some ((.slot 107), false))⟩, ⟨(.aop (.mk (.bslice 5 1 1) [(.lit (.int .u8 (49)))])), (some 109), (some ((.slot 107), false))⟩, ⟨(.aop (.ext .mark [(.slot 109)])), (some 110), (some ((.slot 107), false))⟩, ⟨(.call (.lit (.fn (.func 11) [] [])) [(.slot 108), (.slot 110), (.lit (.int .i64 (0)))]), (some 111), (some ((.slot 107), false))⟩, ⟨(.aop (.bin .neq (.slot 111) (.lit (.int .i64 (0))))), (some 112), (some ((.slot 107), false))⟩, ⟨(.aop (.pick (.slot 107) (.lit (.bool true)) (.slot 112))), (some 113), none⟩, ⟨(.aop (.mov (.slot 113))), (some 114), none⟩, ⟨(.aop (.mov (.slot 11))), (some 115), (some ((.slot 114), false))⟩, ⟨(.aop (.mk (.bslice 5 1 1) [(.lit (.int .u8 (50)))])), (some 116), (some ((.slot 114), false))⟩, ⟨(.aop (.ext .mark [(.slot 116)])), (some 117), (some ((.slot 114), false))⟩, ⟨(.call (.lit (.fn (.func 11) [] [])) [(.slot 115), (.slot 117), (.lit (.int .i64 (0)))]), (some 118), (some ((.slot 114), false))⟩, ⟨(.aop (.bin .neq (.slot 118) (.lit (.int .i64 (0))))), (some 119), (some ((.slot 114), false))⟩, ⟨(.aop (.pick (.slot 114) (.lit (.bool true)) (.slot 119))), (some 120), none⟩, ⟨(.aop (.mov (.slot 120))), (some 121), none⟩, ⟨(.aop (.mov (.slot 11))), (some 122), (some ((.slot 121), false))⟩, ⟨(.call (.lit (.fn (.func 11) [] [])) [(.slot 122), (.lit .nilsl), (.lit (.int .i64 (0)))]), (some 123), (some ((.slot 121), false))⟩, ⟨(.aop (.bin .neq (.slot 123) (.lit (.int .i64 (7))))), (some 124), (some ((.slot 121), false))⟩, ⟨(.aop (.pick (.slot 121) (.lit (.bool true)) (.slot 124))), (some 125), none⟩, ⟨(.aop (.mov (.slot 125))), (some 126), none⟩, ⟨(.aop (.mov (.slot 11))), (some 127), (some ((.slot 126), false))⟩, ⟨(.call (.lit (.fn (.func 14) [] [])) [(.slot 127)]), (some 128), (some ((.slot 126), false))⟩, ⟨(.aop (.bin .neq (.slot 128) (.lit (.int .u32 (0))))), (some 129), (some ((.slot 126), false))⟩, ⟨(.aop (.pick (.slot 126) (.lit (.bool true)) (.slot 129))), (some 130), none⟩]) (.cond (.slot 130) (.seq (.reg [⟨(.aop (.mov (.lit (.bool false)))), (some 0), none⟩]) .ret) .skip)) (.seq (.reg [⟨(.aop (.mov (.slot 11))), (some 131), none⟩, ⟨(.call (.lit (.fn (.func 12) [] [])) [(.slot 131), (.lit (.int .i64 (0)))]), (some 132), none⟩, ⟨(.aop (.mov (.slot 132))), (some 13), none⟩]) (.seq (.seq (.reg [⟨(.aop (.mov (.slot 13))), (some 133), none⟩, ⟨(.aop (.lenSl (.slot 133))), (some 134), none⟩, ⟨(.aop (.bin .neq (.slot 134) (.lit (.int .i64 (2))))), (some 135), none⟩, ⟨(.aop (.mov (.slot 135))), (some 136), none⟩, ⟨(.aop (.mov (.slot 11))), (some 137), (some ((.slot 136), false))⟩, ⟨(.call (.lit (.fn (.func 12) [] [])) [(.slot 137), (.lit (.int .i64 (2)))]), (some 138), (some ((.slot 136), false))⟩, ⟨(.aop (.lenSl (.slot 138))), (some 139), (some ((.slot 136), false))⟩, ⟨(.aop (.bin .neq (.slot 139) (.lit (.int .i64 (0))))), (some 140), (some ((.slot 136), false))⟩, ⟨(.aop (.pick (.slot 136) (.lit (.bool true)) (.slot 140))), (some 141), none⟩]) (.cond (.slot 141) (.seq (.reg [⟨(.aop (.mov (.lit (.bool false)))), (some 0), none⟩]) .ret) .skip)) (.seq (.reg [⟨(.aop (.mov (.slot 12))), (some 143), none⟩, ⟨(.aop (.mov (.slot 13))), (some 144), none⟩, ⟨(.aop (.idxSl 1 (.slot 144) (.lit (.int .i64 (1))))), (some 145), none⟩, ⟨(.aop (.load1 (.slot 145))), (some 146), none⟩, ⟨(.call (.lit (.fn (.func 7) [] [])) [(.slot 143), (.slot 146)]), (some 147), none⟩, ⟨(.aop (.mov (.slot 147))), (some 142), none⟩, ⟨(.aop (.extract (.slot 142) 0)), (some 148), none⟩, ⟨(.aop (.extract (.slot 142) 1)), (some 149), none⟩, ⟨(.aop (.mov (.slot 148))), (some 14), none⟩, ⟨(.aop (.mov (.slot 149))), (some 15), none⟩]) (.seq (.reg [⟨(.aop (.mov (.slot 12))), (some 151), none⟩, ⟨(.aop (.mov (.slot 13))), (some 152), none⟩, ⟨(.aop (.idxSl 1 (.slot 152) (.lit (.int .i64 (0))))), (some 153), none⟩, ⟨(.aop (.load1 (.slot 153))), (some 154), none⟩, ⟨(.call (.lit (.fn (.func 7) [] [])) [(.slot 151), (.slot 154)]), (some 155), none⟩, ⟨(.aop (.mov (.slot 155))), (some 150), none⟩, ⟨(.aop (.extract (.slot 150) 0)), (some 156), none⟩, ⟨(.aop (.extract (.slot 150) 1)), (some 157), none⟩, ⟨(.aop (.mov (.slot 156))), (some 16), none⟩, ⟨(.aop (.mov (.slot 157))), (some 17), none⟩]) (.seq (.reg [⟨(.aop (.mov (.slot 12))), (some 159), none⟩, ⟨(.aop (.mov (.slot 13))), (some 160), none⟩, ⟨(.aop (.idxSl 1 (.slot 160) (.lit (.int .i64 (0))))), (some 161), none⟩, ⟨(.aop (.load1 (.slot 161))), (some 162), none⟩, ⟨(.call (.lit (.fn (.func 7) [] [])) [(.slot 159), (.slot 162)]), (some 163), none⟩, ⟨(.aop (.mov (.slot 163))), (some 158), none⟩, ⟨(.aop (.extract (.slot 158) 0)), (some 164), none⟩, ⟨(.aop (.extract (.slot 158) 1)), (some 165), none⟩, ⟨(.aop (.mov (.slot 164))), (some 18), none⟩, ⟨(.aop (.mov (.slot 165))), (some 19), none⟩]) (.seq (.seq (.reg [⟨(.aop (.mov (.slot 15))), (some 166), none⟩, ⟨(.aop (.bin .neq (.slot 166) (.lit (.int .i64 (0))))), (some 167), none⟩, ⟨(.aop (.mov (.slot 167))), (some 168), none⟩, ⟨(.aop (.mov (.slot 14))), (some 169), (some ((.slot 168), false))⟩, ⟨(.aop (.lenSl (.slot 169))), (some 170), (some ((.slot 168), false))⟩, ⟨(.aop (.bin .neq (.slot 170) (.lit (.int .i64 (0))))), (some 171), (some ((.slot 168), false))⟩, ⟨(.aop (.pick (.slot 168) (.lit (.bool true)) (.slot 171))), (some 172), none⟩, ⟨(.aop (.mov (.slot 172))), (some 173), none⟩, ⟨(.aop (.mov (.slot 17))), (some 174), (some ((.slot 173), false))⟩, ⟨(.aop (.bin .neq (.slot 174) (.lit (.int .i64 (0))))), (some 175), (some ((.slot 173), false))⟩, ⟨(.aop (.pick (.slot 173) (.lit (.bool true)) (.slot 175))), (some 176), none⟩, ⟨(.aop (.mov (.slot 176))), (some 177), none⟩, ⟨(.aop (.mov (.slot 16))), (some 178), (some ((.slot 177), false))⟩, ⟨(.aop (.lenSl (.slot 178))), (some 179), (some ((.slot 177), false))⟩, ⟨(.aop (.bin .neq (.slot 179) (.lit (.int .i64 (2))))), (some 180), (some ((.slot 177), false))⟩, ⟨(.aop (.pick (.slot 177) (.lit (.bool true)) (.slot 180))), (some 181), none⟩, ⟨(.aop (.mov (.slot 181))), (some 182), none⟩, ⟨(.aop (.mov (.slot 16))), (some 183), (some ((.slot 182), false))⟩, ⟨(.aop (.idxSl 1 (.slot 183) (.lit (.int .i64 (1))))), (some 184), (some ((.slot 182), false))⟩, ⟨(.aop (.load1 (.slot 184))), (some 185), (some ((.slot 182), false))⟩, ⟨(.aop (.rd .sl2str [(.slot 185)])), (some 186), (some ((.slot 182), false))⟩, ⟨(.aop (.bin .neq (.slot 186) (.lit (.str [50])))), (some 187), (some ((.slot 182), false))⟩, ⟨(.aop (.pick (.slot 182) (.lit (.bool true)) (.slot 187))), (some 188), none⟩, ⟨(.aop (.mov (.slot 188))), (some 189), none⟩, ⟨(.aop (.mov (.slot 19))), (some 190), (some ((.slot 189), false))⟩, ⟨(.aop (.bin .neq (.slot 190) (.lit (.int .i64 (0))))), (some 191), (some ((.slot 189), false))⟩, ⟨(.aop (.pick (.slot 189) (.lit (.bool true)) (.slot 191))), (some 192), none⟩, ⟨(.aop (.mov (.slot 192))), (some 193), none⟩, ⟨(.aop (.mov (.slot 18))), (some 194), (some ((.slot 193), false))⟩, ⟨(.aop (.lenSl (.slot 194))), (some 195), (some ((.slot 193), false))⟩, ⟨(.aop (.bin .neq (.slot 195) (.lit (.int .i64 (0))))), (some 196), (some ((.slot 193), false))⟩, ⟨(.aop (.pick (.slot 193) (.lit (.bool true)) (.slot 196))), (some 197), none⟩, ⟨(.aop (.mov (.slot 197))), (some 198), none⟩, ⟨(.aop (.mov (.slot 12))), (some 199), (some ((.slot 198), false))⟩, ⟨(.call (.lit (.fn (.func 13) [] [])) [(.slot 199)]), (some 200), (some ((.slot 198), false))⟩, ⟨(.aop (.un .not (.slot 200))), (some 201), (some ((.slot 198), false))⟩, ⟨(.aop (.pick (.slot 198) (.lit (.bool true)) (.slot 201))), (some 202), none⟩]) (.cond (.slot 202) (.seq (.reg [⟨(.aop (.mov (.lit (.bool false)))), (some 0), none⟩]) .ret) .skip)) (.seq (.reg [⟨(.aop (.mov (.slot 12))), (some 203), none⟩, ⟨(.call (.lit (.fn (.func 12) [] [])) [(.slot 203), (.lit (.int .i64 (0)))]), (some 204), none⟩, ⟨(.aop (.mov (.slot 204))), (some 20), none⟩]) (.seq (.seq (.reg [⟨(.aop (.mov (.slot 20))), (some 205), none⟩, ⟨(.aop (.lenSl (.slot 205))), (some 206), none⟩, ⟨(.aop (.bin .neq (.slot 206) (.lit (.int .i64 (1))))), (some 207), none⟩, ⟨(.aop (.mov (.slot 207))), (some 208), none⟩, ⟨(.aop (.mov (.slot 12))), (some 209), (some ((.slot 208), false))⟩, ⟨(.call (.lit (.fn (.func 13) [] [])) [(.slot 209)]), (some 210), (some ((.slot 208), false))⟩, ⟨(.aop (.pick (.slot 208) (.lit (.bool true)) (.slot 210))), (some 211), none⟩, ⟨(.aop (.mov (.slot 211))), (some 212), none⟩, ⟨(.aop (.mov (.slot 12))), (some 213), (some ((.slot 212), false))⟩, ⟨(.call (.lit (.fn (.func 12) [] [])) [(.slot 213), (.lit (.int .i64 (0)))]), (some 214), (some ((.slot 212), false))⟩, ⟨(.aop (.lenSl (.slot 214))), (some 215), (some ((.slot 212), false))⟩, ⟨(.aop (.bin .neq (.slot 215) (.lit (.int .i64 (0))))), (some 216), (some ((.slot 212), false))⟩, ⟨(.aop (.pick (.slot 212) (.lit (.bool true)) (.slot 216))), (some 217), none⟩]) (.cond (.slot 217) (.seq (.reg [⟨(.aop (.mov (.lit (.bool false)))), (some 0), none⟩]) .ret) .skip)) (.seq (.reg [⟨(.aop (.mov (.slot 11))), (some 219), none⟩, ⟨(.aop (.mov (.slot 20))), (some 220), none⟩, ⟨(.aop (.idxSl 1 (.slot 220) (.lit (.int .i64 (0))))), (some 221), none⟩, ⟨(.aop (.load1 (.slot 221))), (some 222), none⟩, ⟨(.call (.lit (.fn (.func 7) [] [])) [(.slot 219), (.slot 222)]), (some 223), none⟩, ⟨(.aop (.mov (.slot 223))), (some 218), none⟩, ⟨(.aop (.extract (.slot 218) 0)), (some 224), none⟩, ⟨(.aop (.extract (.slot 218) 1)), (some 225), none⟩, ⟨(.aop (.mov (.slot 224))), (some 21), none⟩, ⟨(.aop (.mov (.slot 225))), (some 22), none⟩]) (.seq (.reg [⟨(.aop (.mov (.slot 11))), (some 227), none⟩, ⟨(.call (.lit (.fn (.func 9) [] [])) [(.slot 227)]), (some 228), none⟩, ⟨(.aop (.mov (.slot 228))), (some 226), none⟩, ⟨(.aop (.extract (.slot 226) 0)), (some 229), none⟩, ⟨(.aop (.extract (.slot 226) 1)), (some 230), none⟩, ⟨(.aop (.mov (.slot 229))), (some 23), none⟩, ⟨(.aop (.mov (.slot 230))), (some 24), none⟩]) (.seq (.reg [⟨(.aop (.mov (.slot 12))), (some 232), none⟩, ⟨(.aop (.mov (.slot 20))), (some 233), none⟩, ⟨(.aop (.idxSl 1 (.slot 233) (.lit (.int .i64 (0))))), (some 234), none⟩, ⟨(.aop (.load1 (.slot 234))), (some 235), none⟩, ⟨(.call (.lit (.fn (.func 7) [] [])) [(.slot 232), (.slot 235)]), (some 236), none⟩, ⟨(.aop (.mov (.slot 236))), (some 231), none⟩, ⟨(.aop (.extract (.slot 231) 0)), (some 237), none⟩, ⟨(.aop (.extract (.slot 231) 1)), (some 238), none⟩, ⟨(.aop (.mov (.slot 237))), (some 25), none⟩, ⟨(.aop (.mov (.slot 238))), (some 26), none⟩]) (.seq (.reg [⟨(.aop (.mov (.slot 22))), (some 239), none⟩, ⟨(.aop (.bin .eql (.slot 239) (.lit (.int .i64 (0))))), (some 240), none⟩, ⟨(.aop (.mov (.slot 240))), (some 241), none⟩, ⟨(.aop (.mov (.slot 23))), (some 242), (some ((.slot 241), true))⟩, ⟨(.aop (.bin .eql (.slot 242) (.lit (.int .i64 (0))))), (some 243), (some ((.slot 241), true))⟩, ⟨(.aop (.pick (.slot 241) (.slot 243) (.lit (.bool false)))), (some 244), none⟩, ⟨(.aop (.mov (.slot 244))), (some 245), none⟩, ⟨(.aop (.mov (.slot 11))), (some 246), (some ((.slot 245), true))⟩, ⟨(.call (.lit (.fn (.func 13) [] [])) [(.slot 246)]), (some 247), (some ((.slot 245), true))⟩, ⟨(.aop (.un .not (.slot 247))), (some 248), (some ((.slot 245), true))⟩, ⟨(.aop (.pick (.slot 245) (.slot 248) (.lit (.bool false)))), (some 249), none⟩, ⟨(.aop (.mov (.slot 249))), (some 250), none⟩, ⟨(.aop (.mov (.slot 26))), (some 251), (some ((.slot 250), true))⟩, ⟨(.aop (.bin .eql (.slot 251) (.lit (.int .i64 (11))))), (some 252), (some ((.slot 250), true))⟩, ⟨(.aop (.pick (.slot 250) (.slot 252) (.lit (.bool false)))), (some 253), none⟩, ⟨(.aop (.mov (.slot 253))), (some 254), none⟩, ⟨(.call (.lit (.fn (.func 17) [] [])) []), (some 255), (some ((.slot 254), true))⟩, ⟨(.aop (.pick (.slot 254) (.slot 255) (.lit (.bool false)))), (some 256), none⟩, ⟨(.aop (.mov (.slot 256))), (some 0), none⟩]) .ret))))))))))))))))))))))
theorem comp3 : (V2.compC Tryz.prog 6 Tryz.f3.ntmps (fun _ => false) (Tryz.f3.body.getD .skip), V2.compR Tryz.prog Tryz.f3.results.toList) = (some c3, some [(.tmp 0)]) := by kernel_rfl
theorem body3 : Tryz.f3.body = some (Tryz.f3.body.getD .skip) := by kernel_rfl
end Go.Proofs.YtjgmpdklfcmelaaGreatDoor.V2
namespace Go.Proofs.YtjgmpdklfcmelaaGreatDoor.V2
open Go
open Go.RowKit
def o17_1 : List Nat := [0, 1, 2, 3, 4, 5, 38, 45, 277, 35, 37, 42, 44, 175, 275, 33, 34, 36, 40, 41, 43, 48, 51]
def l17_1 : List (Nat × AV) := [(0, AV.bool false), (1, AV.ptr 6 0), (2, AV.ptr 7 0), (3, AV.sl 8 0 2 2 false 1)]
def m17_1 : List (Nat × AObj) := [(0, AObj.cells [] 0 (Tl.ro)), (1, AObj.cells [AV.nilfn, AV.fn (Go.Fn.func 342) [] [], AV.fn (Go.Fn.func 342) [] [], AV.fn (Go.Fn.func 343) [] [], AV.fn (Go.Fn.func 344) [] [], AV.fn (Go.Fn.func 342) [] []] 326 (Tl.ro)), (2, AObj.ints (IntKind.u32) [0, 498536548, 997073096, 651767980, 1994146192, 1802195444, 1303535960, 1342533948, 3988292384, 4027552580, 3604390888, 3412177804, 2607071920, 2262029012, 2685067896, 3183342108] 349 (Tl.ro)), (3, AObj.ints (IntKind.u32) [1779033703, 3144134277, 1013904242, 2773480762, 1359893119, 2600822924, 528734635, 1541459225] 351 (Tl.ro)), (4, AObj.cells [] 0 (Tl.ro)), (5, AObj.ints (IntKind.u32) [1116352408, 1899447441, 3049323471, 3921009573, 961987163, 1508970993, 2453635748, 2870763221, 3624381080, 310598401, 607225278, 1426881987, 1925078388, 2162078206, 2614888103, 3248222580, 3835390401, 4022224774, 264347078, 604807628, 770255983, 1249150122, 1555081692, 1996064986, 2554220882, 2821834349, 2952996808, 3210313671, 3336571891, 3584528711, 113926993, 338241895, 666307205, 773529912, 1294757372, 1396182291, 1695183700, 1986661051, 2177026350, 2456956037, 2730485921, 2820302411, 3259730800, 3345764771, 3516065817, 3600352804, 4094571909, 275423344, 430227734, 506948616, 659060556, 883997877, 958139571, 1322822218, 1537002063, 1747873779, 1955562222, 2024104815, 2227730452, 2361852424, 2428436474, 2756734187, 3204031479, 3329325298] 374 (Tl.ro)), (6, AObj.cells [AV.int (IntKind.u32) 7, AV.int (IntKind.u32) 1, AV.int (IntKind.u8) 166, AV.int (IntKind.u8) 82, AV.int (IntKind.u8) 83, AV.int (IntKind.u8) 143, AV.int (IntKind.u8) 10, AV.int (IntKind.u8) 84, AV.int (IntKind.u8) 246, AV.int (IntKind.u8) 36, AV.int (IntKind.u8) 68, AV.int (IntKind.u8) 64, AV.int (IntKind.u8) 100, AV.int (IntKind.u8) 17, AV.int (IntKind.u8) 196, AV.int (IntKind.u8) 30, AV.int (IntKind.u8) 119, AV.int (IntKind.u8) 15, AV.int (IntKind.u8) 239, AV.int (IntKind.u8) 248, AV.int (IntKind.u8) 18, AV.int (IntKind.u8) 216, AV.int (IntKind.u8) 104, AV.int (IntKind.u8) 81, AV.int (IntKind.u8) 60, AV.int (IntKind.u8) 97, AV.int (IntKind.u8) 135, AV.int (IntKind.u8) 230, AV.int (IntKind.u8) 166, AV.int (IntKind.u8) 234, AV.int (IntKind.u8) 33, AV.int (IntKind.u8) 124, AV.int (IntKind.u8) 248, AV.int (IntKind.u8) 179, AV.int (IntKind.u8) 150, AV.int (IntKind.u8) 220, AV.int (IntKind.u8) 33, AV.int (IntKind.u8) 215, AV.int (IntKind.u8) 12, AV.int (IntKind.u8) 226, AV.int (IntKind.u8) 121, AV.int (IntKind.u8) 95, AV.int (IntKind.u8) 109, AV.int (IntKind.u8) 246, AV.int (IntKind.u8) 244, AV.int (IntKind.u8) 68, AV.int (IntKind.u8) 189, AV.int (IntKind.u8) 205, AV.int (IntKind.u8) 96, AV.int (IntKind.u8) 43, AV.int (IntKind.u8) 73, AV.int (IntKind.u8) 17, AV.int (IntKind.u8) 76, AV.int (IntKind.u8) 222, AV.int (IntKind.u8) 123, AV.int (IntKind.u8) 224, AV.int (IntKind.u8) 1, AV.int (IntKind.u8) 49, AV.int (IntKind.u8) 220, AV.int (IntKind.u8) 136, AV.int (IntKind.u8) 46, AV.int (IntKind.u8) 130, AV.int (IntKind.u8) 54, AV.int (IntKind.u8) 16, AV.int (IntKind.u8) 219, AV.int (IntKind.u8) 115, AV.int (IntKind.u32) 9, AV.int (IntKind.i64) 3, AV.int (IntKind.i64) 12, AV.ptr 9 0, AV.ptr 10 0, AV.bool false] 31 (Tl.exact)), (7, AObj.cells [AV.int (IntKind.u32) 7, AV.int (IntKind.u32) 1, AV.int (IntKind.u8) 150, AV.int (IntKind.u8) 220, AV.int (IntKind.u8) 33, AV.int (IntKind.u8) 215, AV.int (IntKind.u8) 12, AV.int (IntKind.u8) 226, AV.int (IntKind.u8) 121, AV.int (IntKind.u8) 95, AV.int (IntKind.u8) 109, AV.int (IntKind.u8) 246, AV.int (IntKind.u8) 244, AV.int (IntKind.u8) 68, AV.int (IntKind.u8) 189, AV.int (IntKind.u8) 205, AV.int (IntKind.u8) 96, AV.int (IntKind.u8) 43, AV.int (IntKind.u8) 73, AV.int (IntKind.u8) 17, AV.int (IntKind.u8) 76, AV.int (IntKind.u8) 222, AV.int (IntKind.u8) 123, AV.int (IntKind.u8) 224, AV.int (IntKind.u8) 1, AV.int (IntKind.u8) 49, AV.int (IntKind.u8) 220, AV.int (IntKind.u8) 136, AV.int (IntKind.u8) 46, AV.int (IntKind.u8) 130, AV.int (IntKind.u8) 54, AV.int (IntKind.u8) 16, AV.int (IntKind.u8) 219, AV.int (IntKind.u8) 115, AV.int (IntKind.u8) 166, AV.int (IntKind.u8) 82, AV.int (IntKind.u8) 83, AV.int (IntKind.u8) 143, AV.int (IntKind.u8) 10, AV.int (IntKind.u8) 84, AV.int (IntKind.u8) 246, AV.int (IntKind.u8) 36, AV.int (IntKind.u8) 68, AV.int (IntKind.u8) 64, AV.int (IntKind.u8) 100, AV.int (IntKind.u8) 17, AV.int (IntKind.u8) 196, AV.int (IntKind.u8) 30, AV.int (IntKind.u8) 119, AV.int (IntKind.u8) 15, AV.int (IntKind.u8) 239, AV.int (IntKind.u8) 248, AV.int (IntKind.u8) 18, AV.int (IntKind.u8) 216, AV.int (IntKind.u8) 104, AV.int (IntKind.u8) 81, AV.int (IntKind.u8) 60, AV.int (IntKind.u8) 97, AV.int (IntKind.u8) 135, AV.int (IntKind.u8) 230, AV.int (IntKind.u8) 166, AV.int (IntKind.u8) 234, AV.int (IntKind.u8) 33, AV.int (IntKind.u8) 124, AV.int (IntKind.u8) 248, AV.int (IntKind.u8) 179, AV.int (IntKind.u32) 9, AV.int (IntKind.i64) 3, AV.int (IntKind.i64) 12, AV.ptr 11 0, AV.ptr 12 0, AV.bool false] 31 (Tl.exact)), (8, AObj.cells [AV.sl 13 0 36 36 false 1, AV.sl 14 0 36 36 false 1] 49 (Tl.more)), (9, AObj.cells [AV.ptr 15 0, AV.int (IntKind.i64) 3, AV.int (IntKind.i64) 12, AV.map 16] 251 (Tl.exact)), (10, AObj.cells [AV.int (IntKind.u32) 0, AV.map 17] 256 (Tl.exact)), (11, AObj.cells [AV.ptr 18 0, AV.int (IntKind.i64) 3, AV.int (IntKind.i64) 12, AV.map 19] 251 (Tl.exact)), (12, AObj.cells [AV.int (IntKind.u32) 0, AV.map 20] 256 (Tl.exact)), (13, AObj.ints (IntKind.u8) [3, 0, 0, 0, 7, 0, 0, 0, 1, 0, 0, 0, 0, 0, 0, 0, 0, 0, 0, 0, 0, 0, 1, 97, 18, 10, 75, 115, 141, 154, 147, 111, 216, 54, 202, 199] 5 (Tl.more)), (14, AObj.ints (IntKind.u8) [3, 0, 0, 0, 7, 0, 0, 0, 1, 0, 0, 0, 1, 0, 0, 0, 0, 0, 0, 0, 0, 0, 1, 98, 162, 72, 137, 249, 68, 50, 1, 63, 210, 250, 124, 7] 5 (Tl.more)), (15, AObj.ints (IntKind.u32) [2, 9] 275 (Tl.exact)), (16, AObj.map [(AV.int (IntKind.u32) 0, AV.agg [AV.int (IntKind.u32) 0, AV.sl 21 0 1 1 false 1, AV.int (IntKind.i64) 1, AV.int (IntKind.i64) 3]), (AV.int (IntKind.u32) 1, AV.agg [AV.int (IntKind.u32) 1, AV.sl 22 0 1 1 false 1, AV.int (IntKind.i64) 1, AV.int (IntKind.i64) 3])]), (17, AObj.map []), (18, AObj.ints (IntKind.u32) [0, 9] 275 (Tl.exact)), (19, AObj.map []), (20, AObj.map []), (21, AObj.ints (IntKind.u8) [97] 5 (Tl.more)), (22, AObj.ints (IntKind.u8) [98] 5 (Tl.more))]
noncomputable def e17_1 : T AV := ofL l17_1
noncomputable def s17_1 : AH := ⟨23, ofM m17_1⟩
theorem n17_1_ok : okN o17_1 23 l17_1 m17_1 = true := by kernel_rfl
def o17_2 : List Nat := [0, 1, 2, 3, 4, 5, 6, 7, 111, 215, 9, 10, 11, 12, 106, 213, 15, 16, 17, 18, 19, 20, 21, 22]
def l17_2 : List (Nat × AV) := [(0, AV.bool false), (1, AV.ptr 6 0), (2, AV.ptr 7 0), (4, AV.sl 8 0 1 1 false 1), (5, AV.int (IntKind.i64) 0), (6, AV.sl 9 0 1 1 false 1)]
def m17_2 : List (Nat × AObj) := [(0, AObj.cells [] 0 (Tl.ro)), (1, AObj.cells [AV.nilfn, AV.fn (Go.Fn.func 342) [] [], AV.fn (Go.Fn.func 342) [] [], AV.fn (Go.Fn.func 343) [] [], AV.fn (Go.Fn.func 344) [] [], AV.fn (Go.Fn.func 342) [] []] 326 (Tl.ro)), (2, AObj.ints (IntKind.u32) [0, 498536548, 997073096, 651767980, 1994146192, 1802195444, 1303535960, 1342533948, 3988292384, 4027552580, 3604390888, 3412177804, 2607071920, 2262029012, 2685067896, 3183342108] 349 (Tl.ro)), (3, AObj.ints (IntKind.u32) [1779033703, 3144134277, 1013904242, 2773480762, 1359893119, 2600822924, 528734635, 1541459225] 351 (Tl.ro)), (4, AObj.cells [] 0 (Tl.ro)), (5, AObj.ints (IntKind.u32) [1116352408, 1899447441, 3049323471, 3921009573, 961987163, 1508970993, 2453635748, 2870763221, 3624381080, 310598401, 607225278, 1426881987, 1925078388, 2162078206, 2614888103, 3248222580, 3835390401, 4022224774, 264347078, 604807628, 770255983, 1249150122, 1555081692, 1996064986, 2554220882, 2821834349, 2952996808, 3210313671, 3336571891, 3584528711, 113926993, 338241895, 666307205, 773529912, 1294757372, 1396182291, 1695183700, 1986661051, 2177026350, 2456956037, 2730485921, 2820302411, 3259730800, 3345764771, 3516065817, 3600352804, 4094571909, 275423344, 430227734, 506948616, 659060556, 883997877, 958139571, 1322822218, 1537002063, 1747873779, 1955562222, 2024104815, 2227730452, 2361852424, 2428436474, 2756734187, 3204031479, 3329325298] 374 (Tl.ro)), (6, AObj.cells [AV.int (IntKind.u32) 7, AV.int (IntKind.u32) 1, AV.int (IntKind.u8) 166, AV.int (IntKind.u8) 82, AV.int (IntKind.u8) 83, AV.int (IntKind.u8) 143, AV.int (IntKind.u8) 10, AV.int (IntKind.u8) 84, AV.int (IntKind.u8) 246, AV.int (IntKind.u8) 36, AV.int (IntKind.u8) 68, AV.int (IntKind.u8) 64, AV.int (IntKind.u8) 100, AV.int (IntKind.u8) 17, AV.int (IntKind.u8) 196, AV.int (IntKind.u8) 30, AV.int (IntKind.u8) 119, AV.int (IntKind.u8) 15, AV.int (IntKind.u8) 239, AV.int (IntKind.u8) 248, AV.int (IntKind.u8) 18, AV.int (IntKind.u8) 216, AV.int (IntKind.u8) 104, AV.int (IntKind.u8) 81, AV.int (IntKind.u8) 60, AV.int (IntKind.u8) 97, AV.int (IntKind.u8) 135, AV.int (IntKind.u8) 230, AV.int (IntKind.u8) 166, AV.int (IntKind.u8) 234, AV.int (IntKind.u8) 33, AV.int (IntKind.u8) 124, AV.int (IntKind.u8) 248, AV.int (IntKind.u8) 179, AV.int (IntKind.u8) 150, AV.int (IntKind.u8) 220, AV.int (IntKind.u8) 33, AV.int (IntKind.u8) 215, AV.int (IntKind.u8) 12, AV.int (IntKind.u8) 226, AV.int (IntKind.u8) 121, AV.int (IntKind.u8) 95, AV.int (IntKind.u8) 109, AV.int (IntKind.u8) 246, AV.int (IntKind.u8) 244, AV.int (IntKind.u8) 68, AV.int (IntKind.u8) 189, AV.int (IntKind.u8) 205, AV.int (IntKind.u8) 96, AV.int (IntKind.u8) 43, AV.int (IntKind.u8) 73, AV.int (IntKind.u8) 17, AV.int (IntKind.u8) 76, AV.int (IntKind.u8) 222, AV.int (IntKind.u8) 123, AV.int (IntKind.u8) 224, AV.int (IntKind.u8) 1, AV.int (IntKind.u8) 49, AV.int (IntKind.u8) 220, AV.int (IntKind.u8) 136, AV.int (IntKind.u8) 46, AV.int (IntKind.u8) 130, AV.int (IntKind.u8) 54, AV.int (IntKind.u8) 16, AV.int (IntKind.u8) 219, AV.int (IntKind.u8) 115, AV.int (IntKind.u32) 9, AV.int (IntKind.i64) 3, AV.int (IntKind.i64) 12, AV.ptr 10 0, AV.ptr 11 0, AV.bool false] 31 (Tl.exact)), (7, AObj.cells [AV.int (IntKind.u32) 7, AV.int (IntKind.u32) 1, AV.int (IntKind.u8) 150, AV.int (IntKind.u8) 220, AV.int (IntKind.u8) 33, AV.int (IntKind.u8) 215, AV.int (IntKind.u8) 12, AV.int (IntKind.u8) 226, AV.int (IntKind.u8) 121, AV.int (IntKind.u8) 95, AV.int (IntKind.u8) 109, AV.int (IntKind.u8) 246, AV.int (IntKind.u8) 244, AV.int (IntKind.u8) 68, AV.int (IntKind.u8) 189, AV.int (IntKind.u8) 205, AV.int (IntKind.u8) 96, AV.int (IntKind.u8) 43, AV.int (IntKind.u8) 73, AV.int (IntKind.u8) 17, AV.int (IntKind.u8) 76, AV.int (IntKind.u8) 222, AV.int (IntKind.u8) 123, AV.int (IntKind.u8) 224, AV.int (IntKind.u8) 1, AV.int (IntKind.u8) 49, AV.int (IntKind.u8) 220, AV.int (IntKind.u8) 136, AV.int (IntKind.u8) 46, AV.int (IntKind.u8) 130, AV.int (IntKind.u8) 54, AV.int (IntKind.u8) 16, AV.int (IntKind.u8) 219, AV.int (IntKind.u8) 115, AV.int (IntKind.u8) 166, AV.int (IntKind.u8) 82, AV.int (IntKind.u8) 83, AV.int (IntKind.u8) 143, AV.int (IntKind.u8) 10, AV.int (IntKind.u8) 84, AV.int (IntKind.u8) 246, AV.int (IntKind.u8) 36, AV.int (IntKind.u8) 68, AV.int (IntKind.u8) 64, AV.int (IntKind.u8) 100, AV.int (IntKind.u8) 17, AV.int (IntKind.u8) 196, AV.int (IntKind.u8) 30, AV.int (IntKind.u8) 119, AV.int (IntKind.u8) 15, AV.int (IntKind.u8) 239, AV.int (IntKind.u8) 248, AV.int (IntKind.u8) 18, AV.int (IntKind.u8) 216, AV.int (IntKind.u8) 104, AV.int (IntKind.u8) 81, AV.int (IntKind.u8) 60, AV.int (IntKind.u8) 97, AV.int (IntKind.u8) 135, AV.int (IntKind.u8) 230, AV.int (IntKind.u8) 166, AV.int (IntKind.u8) 234, AV.int (IntKind.u8) 33, AV.int (IntKind.u8) 124, AV.int (IntKind.u8) 248, AV.int (IntKind.u8) 179, AV.int (IntKind.u32) 9, AV.int (IntKind.i64) 3, AV.int (IntKind.i64) 12, AV.ptr 12 0, AV.ptr 13 0, AV.bool false] 31 (Tl.exact)), (8, AObj.cells [AV.sl 14 0 1 1 false 1] 49 (Tl.more)), (9, AObj.cells [AV.sl 15 0 35 35 false 1] 49 (Tl.more)), (10, AObj.cells [AV.ptr 16 0, AV.int (IntKind.i64) 3, AV.int (IntKind.i64) 12, AV.map 17] 251 (Tl.exact)), (11, AObj.cells [AV.int (IntKind.u32) 0, AV.map 18] 256 (Tl.exact)), (12, AObj.cells [AV.ptr 19 0, AV.int (IntKind.i64) 3, AV.int (IntKind.i64) 12, AV.map 20] 251 (Tl.exact)), (13, AObj.cells [AV.int (IntKind.u32) 1, AV.map 21] 256 (Tl.exact)), (14, AObj.ints (IntKind.u8) [97] 5 (Tl.more)), (15, AObj.ints (IntKind.u8) [4, 0, 0, 0, 7, 0, 0, 0, 1, 0, 0, 0, 0, 0, 0, 0, 1, 0, 0, 0, 0, 0, 0, 250, 124, 230, 190, 250, 12, 225, 35, 141, 129, 56, 1] 5 (Tl.more)), (16, AObj.ints (IntKind.u32) [2, 9] 275 (Tl.exact)), (17, AObj.map [(AV.int (IntKind.u32) 0, AV.agg [AV.int (IntKind.u32) 0, AV.sl 22 0 1 1 false 1, AV.int (IntKind.i64) 1, AV.int (IntKind.i64) 3]), (AV.int (IntKind.u32) 1, AV.agg [AV.int (IntKind.u32) 1, AV.sl 23 0 1 1 false 1, AV.int (IntKind.i64) 1, AV.int (IntKind.i64) 3])]), (18, AObj.map []), (19, AObj.ints (IntKind.u32) [0, 9] 275 (Tl.exact)), (20, AObj.map []), (21, AObj.map []), (22, AObj.ints (IntKind.u8) [97] 5 (Tl.more)), (23, AObj.ints (IntKind.u8) [98] 5 (Tl.more))]
noncomputable def e17_2 : T AV := ofL l17_2
noncomputable def s17_2 : AH := ⟨24, ofM m17_2⟩
theorem n17_2_ok : okN o17_2 24 l17_2 m17_2 = true := by kernel_rfl
def o17_3 : List Nat := [0, 1, 2, 3, 4, 5, 7, 217, 12, 13, 215, 19, 20, 21]
def l17_3 : List (Nat × AV) := [(0, AV.bool false), (2, AV.ptr 6 0), (8, AV.int (IntKind.i64) 0), (9, AV.sl 7 0 1 1 false 1)]
def m17_3 : List (Nat × AObj) := [(0, AObj.cells [] 0 (Tl.ro)), (1, AObj.cells [AV.nilfn, AV.fn (Go.Fn.func 342) [] [], AV.fn (Go.Fn.func 342) [] [], AV.fn (Go.Fn.func 343) [] [], AV.fn (Go.Fn.func 344) [] [], AV.fn (Go.Fn.func 342) [] []] 326 (Tl.ro)), (2, AObj.ints (IntKind.u32) [0, 498536548, 997073096, 651767980, 1994146192, 1802195444, 1303535960, 1342533948, 3988292384, 4027552580, 3604390888, 3412177804, 2607071920, 2262029012, 2685067896, 3183342108] 349 (Tl.ro)), (3, AObj.ints (IntKind.u32) [1779033703, 3144134277, 1013904242, 2773480762, 1359893119, 2600822924, 528734635, 1541459225] 351 (Tl.ro)), (4, AObj.cells [] 0 (Tl.ro)), (5, AObj.ints (IntKind.u32) [1116352408, 1899447441, 3049323471, 3921009573, 961987163, 1508970993, 2453635748, 2870763221, 3624381080, 310598401, 607225278, 1426881987, 1925078388, 2162078206, 2614888103, 3248222580, 3835390401, 4022224774, 264347078, 604807628, 770255983, 1249150122, 1555081692, 1996064986, 2554220882, 2821834349, 2952996808, 3210313671, 3336571891, 3584528711, 113926993, 338241895, 666307205, 773529912, 1294757372, 1396182291, 1695183700, 1986661051, 2177026350, 2456956037, 2730485921, 2820302411, 3259730800, 3345764771, 3516065817, 3600352804, 4094571909, 275423344, 430227734, 506948616, 659060556, 883997877, 958139571, 1322822218, 1537002063, 1747873779, 1955562222, 2024104815, 2227730452, 2361852424, 2428436474, 2756734187, 3204031479, 3329325298] 374 (Tl.ro)), (6, AObj.cells [AV.int (IntKind.u32) 7, AV.int (IntKind.u32) 1, AV.int (IntKind.u8) 150, AV.int (IntKind.u8) 220, AV.int (IntKind.u8) 33, AV.int (IntKind.u8) 215, AV.int (IntKind.u8) 12, AV.int (IntKind.u8) 226, AV.int (IntKind.u8) 121, AV.int (IntKind.u8) 95, AV.int (IntKind.u8) 109, AV.int (IntKind.u8) 246, AV.int (IntKind.u8) 244, AV.int (IntKind.u8) 68, AV.int (IntKind.u8) 189, AV.int (IntKind.u8) 205, AV.int (IntKind.u8) 96, AV.int (IntKind.u8) 43, AV.int (IntKind.u8) 73, AV.int (IntKind.u8) 17, AV.int (IntKind.u8) 76, AV.int (IntKind.u8) 222, AV.int (IntKind.u8) 123, AV.int (IntKind.u8) 224, AV.int (IntKind.u8) 1, AV.int (IntKind.u8) 49, AV.int (IntKind.u8) 220, AV.int (IntKind.u8) 136, AV.int (IntKind.u8) 46, AV.int (IntKind.u8) 130, AV.int (IntKind.u8) 54, AV.int (IntKind.u8) 16, AV.int (IntKind.u8) 219, AV.int (IntKind.u8) 115, AV.int (IntKind.u8) 166, AV.int (IntKind.u8) 82, AV.int (IntKind.u8) 83, AV.int (IntKind.u8) 143, AV.int (IntKind.u8) 10, AV.int (IntKind.u8) 84, AV.int (IntKind.u8) 246, AV.int (IntKind.u8) 36, AV.int (IntKind.u8) 68, AV.int (IntKind.u8) 64, AV.int (IntKind.u8) 100, AV.int (IntKind.u8) 17, AV.int (IntKind.u8) 196, AV.int (IntKind.u8) 30, AV.int (IntKind.u8) 119, AV.int (IntKind.u8) 15, AV.int (IntKind.u8) 239, AV.int (IntKind.u8) 248, AV.int (IntKind.u8) 18, AV.int (IntKind.u8) 216, AV.int (IntKind.u8) 104, AV.int (IntKind.u8) 81, AV.int (IntKind.u8) 60, AV.int (IntKind.u8) 97, AV.int (IntKind.u8) 135, AV.int (IntKind.u8) 230, AV.int (IntKind.u8) 166, AV.int (IntKind.u8) 234, AV.int (IntKind.u8) 33, AV.int (IntKind.u8) 124, AV.int (IntKind.u8) 248, AV.int (IntKind.u8) 179, AV.int (IntKind.u32) 9, AV.int (IntKind.i64) 3, AV.int (IntKind.i64) 12, AV.ptr 8 0, AV.ptr 9 0, AV.bool false] 31 (Tl.exact)), (7, AObj.cells [AV.sl 10 0 36 36 false 1] 49 (Tl.more)), (8, AObj.cells [AV.ptr 11 0, AV.int (IntKind.i64) 3, AV.int (IntKind.i64) 12, AV.map 12] 251 (Tl.exact)), (9, AObj.cells [AV.int (IntKind.u32) 1, AV.map 13] 256 (Tl.exact)), (10, AObj.ints (IntKind.u8) [3, 0, 0, 0, 7, 0, 0, 0, 1, 0, 0, 0, 1, 0, 0, 0, 0, 0, 0, 0, 0, 0, 1, 98, 162, 72, 137, 249, 68, 50, 1, 63, 210, 250, 124, 7] 5 (Tl.more)), (11, AObj.ints (IntKind.u32) [0, 9] 275 (Tl.exact)), (12, AObj.map []), (13, AObj.map [])]
noncomputable def e17_3 : T AV := ofL l17_3
noncomputable def s17_3 : AH := ⟨14, ofM m17_3⟩
theorem n17_3_ok : okN o17_3 14 l17_3 m17_3 = true := by kernel_rfl
noncomputable def e17_0 : T AV := envOf [] 0 .leaf
noncomputable def s17_0 : AH := hL memG
noncomputable def c17_0 : ACode := c17
noncomputable def c17_1 : ACode := aD 3 c17_0
noncomputable def c17_2 : ACode := aD 2 c17_1
noncomputable def c17_3 : ACode := aD 2 c17_2
theorem f17_0 : noFor 3 c17_0 = true := by kernel_rfl
theorem f17_1 : noFor 2 c17_1 = true := by kernel_rfl
theorem f17_2 : noFor 2 c17_2 = true := by kernel_rfl
end Go.Proofs.YtjgmpdklfcmelaaGreatDoor.V2
namespace Go.Proofs.YtjgmpdklfcmelaaGreatDoor.V2
open Go
open Go.RowKit
noncomputable def r17_0 : RR := run std Γs 6 1000 (aT 3 c17_0) e17_0 s17_0
theorem t17_0 : told r17_0 o17_1 l17_1 m17_1 = want o17_1 l17_1 m17_1 := by kernel_rfl
end Go.Proofs.YtjgmpdklfcmelaaGreatDoor.V2
namespace Go.Proofs.YtjgmpdklfcmelaaGreatDoor.V2
open Go
open Go.RowKit
noncomputable def r17_1 : RR := run std Γs 6 1000 (aT 2 c17_1) e17_1 s17_1
theorem t17_1 : told r17_1 o17_2 l17_2 m17_2 = want o17_2 l17_2 m17_2 := by kernel_rfl
end Go.Proofs.YtjgmpdklfcmelaaGreatDoor.V2
namespace Go.Proofs.YtjgmpdklfcmelaaGreatDoor.V2
open Go
open Go.RowKit
noncomputable def r17_2 : RR := run std Γs 6 1000 (aT 2 c17_2) e17_2 s17_2
theorem t17_2 : told r17_2 o17_3 l17_3 m17_3 = want o17_3 l17_3 m17_3 := by kernel_rfl
end Go.Proofs.YtjgmpdklfcmelaaGreatDoor.V2
namespace Go.Proofs.YtjgmpdklfcmelaaGreatDoor.V2
open Go
open Go.RowKit
noncomputable def r17_3 : RR := run std Γs 6 1000 c17_3 e17_3 s17_3
theorem t17_3 : (r17_3.kind, resL std r17_3.env r17_3.mem [.tmp 0]) = (2, (true, [.bool true])) := by kernel_rfl
end Go.Proofs.YtjgmpdklfcmelaaGreatDoor.V2
namespace Go.Proofs.YtjgmpdklfcmelaaGreatDoor.V2
open Go
open Go.RowKit
def TT : List UInt32 := [0, 498536548, 997073096, 651767980, 1994146192, 1802195444, 1303535960, 1342533948, 3988292384, 4027552580, 3604390888, 3412177804, 2607071920, 2262029012, 2685067896, 3183342108]
def mayL : List Value := [.nilFunc, .func (.func 342) #[] #[], .func (.func 342) #[] #[], .func (.func 343) #[] #[], .func (.func 344) #[] #[], .func (.func 342) #[] #[]]
def GlobT (w : World) : Prop := ∀ i, i < 16 → w.cell? ⟨2, i, none⟩ = some (.int .u32 (N32 (at32 TT i)))
def GlobF (w : World) : Prop := ∀ i, i < 6 → w.cell? ⟨1, i, none⟩ = some (mayL.getD i .nilFunc)
structure GlobR (w : World) : Prop where
  f : GlobF w
  t : GlobT w
  s : GlobS w
  k : GlobK w
  size : 5 < w.heap.size
def rG : Ren := rL [some (0, (0, 5)), some (1, (0, 6)), some (2, (0, 16)), some (3, (0, 8)), some (4, (0, 1)), some (5, (0, 64))]
theorem rG_glob : ∀ g, g < 6 → ∃ s, rG g = some (g, (0, s)) := fun g hg => by
  match g, hg with
  | 0, _ => exact ⟨5, rfl⟩
  | 1, _ => exact ⟨6, rfl⟩
  | 2, _ => exact ⟨16, rfl⟩
  | 3, _ => exact ⟨8, rfl⟩
  | 4, _ => exact ⟨1, rfl⟩
  | 5, _ => exact ⟨64, rfl⟩
theorem memG_sh : ∀ o ∈ memG, o.isSh = true := by
  intro o ho
  simp only [memG, List.mem_cons, List.not_mem_nil, or_false] at ho
  rcases ho with rfl | rfl | rfl | rfl | rfl | rfl <;> rfl
theorem memG_ro : ∀ o ∈ memG, o.isRo = true := fun o ho => AObj.isSh_ro (memG_sh o ho)
/-- Cells that are only read. -/
theorem or_cro {ρ : Ren} {w : World} {b D : Nat} {l : List AV} {e : TypeId} (hD : l.length ≤ D) (hl : 0 < l.length) (h : ∀ i a, l[i]? = some a → ∃ v, w.cell? ⟨b, i, none⟩ = some v ∧ VR ρ a v) : OR ρ (0, D) (.cells l e .ro) w.heap[b]? := ⟨fun _ => by
  refine ⟨hD, fun _ => ?_⟩
  obtain ⟨v0, h0, _⟩ := h (l.length - 1) l[l.length - 1] (List.getElem?_eq_getElem (by omega))
  obtain ⟨c, t, fr, hb, hc⟩ := cell_row h0
  refine ⟨c, t, fr, hb, (fun hh => by cases hh), ?_, hD, fun i a hi => ?_⟩
  · have := (Array.getElem?_eq_some_iff.1 hc).1
    show l.length + 0 ≤ c.size
    omega
  · obtain ⟨v, hv, hr⟩ := h i a hi
    obtain ⟨c', t', fr', hb', hc'⟩ := cell_row hv
    rw [hb] at hb'; cases hb'
    exact ⟨v, hc', hr⟩, fun l e => by cases e⟩
theorem vr_fn0 {ρ : Ren} (n : Nat) : VR ρ (.fn (.func n) [] []) (.func (.func n) #[] #[]) := by
  unfold VR; exact ⟨[], [], rfl, rfl, rfl⟩
theorem row_of {w : World} {b n k : Nat} {T : List UInt32} {l : List Int} {e : TypeId} (hn : T.length = n) (hl : l = wI T) (h : ∀ i, i < n → w.cell? ⟨b, i, none⟩ = some (.int .u32 (N32 (at32 T i)))) (hk : n = k) : ∀ ρ, OR ρ (0, k) (.ints .u32 l e .ro) w.heap[b]? := fun ρ => by
  subst hl hk
  refine or_ro (by rw [wI_length]; omega) fun i hi => ?_
  rw [wI_getD, Nat.zero_add]; exact h i (by rw [wI_length] at hi; omega)
theorem hrG {w : World} (h : GlobR w) : HR rG (hL memG) w := by
  refine hr_ro (by show 6 ≤ _; omega) rfl memG_sh fun b c d o hb ho => ?_
  have hs := h.size
  match b with
  | 0 => cases hb; cases ho; exact ⟨by omega, OR.shut (Nat.zero_le _)⟩
  | 1 =>
    cases hb; cases ho
    refine ⟨by omega, or_cro (Nat.le_refl _) (by decide) fun i a hi => ?_⟩
    match i, hi with
    | 0, hi => cases hi; exact ⟨_, h.f 0 (by omega), rfl⟩
    | 1, hi => cases hi; exact ⟨_, h.f 1 (by omega), vr_fn0 342⟩
    | 2, hi => cases hi; exact ⟨_, h.f 2 (by omega), vr_fn0 342⟩
    | 3, hi => cases hi; exact ⟨_, h.f 3 (by omega), vr_fn0 343⟩
    | 4, hi => cases hi; exact ⟨_, h.f 4 (by omega), vr_fn0 344⟩
    | 5, hi => cases hi; exact ⟨_, h.f 5 (by omega), vr_fn0 342⟩
    | n + 6, hi => cases hi
  | 2 => cases hb; cases ho; exact ⟨by omega, row_of (T := TT) (n := 16) rfl (by decide +kernel) h.t rfl _⟩
  | 3 => cases hb; cases ho; exact ⟨by omega, row_of (T := S0) (n := 8) rfl (by decide +kernel) h.s rfl _⟩
  | 4 => cases hb; cases ho; exact ⟨by omega, OR.shut (Nat.zero_le _)⟩
  | 5 => cases hb; cases ho; exact ⟨by omega, row_of (T := KK) (n := 64) rfl (by decide +kernel) h.k rfl _⟩
  | n + 6 => cases hb
theorem tells_any (w : World) (hG : GlobR w) : Calls Tryz.prog 17 #[] w fun e w' => e = .returned (.bool true) ∧ Below w.heap.size w w' := by
  have hr0 := hrG hG
  refine (calls_of_aq (G := 6) (σ := hL memG) (ρ := rG) (xs := [.tmp 0]) (vs := []) (K := fun av _ => av = .bool true) Tryz.func17 body17 (Prod.mk.inj comp17).2 ?_).mono fun e W' ⟨v, av, σ', ρ', e1, e2, e3, e4, e5⟩ => ?_
  rotate_left
  · subst e1 e2
    unfold VR at e5
    exact ⟨by rw [e5], Below.ofStp (by show 6 ≤ _; omega) hr0 memG_ro e4⟩
  have st : Start [] 6 w.heap.size rG (hL memG) w := ⟨Nat.le_refl _, (fun y hy => absurd hy List.not_mem_nil), (fun y hy => absurd hy List.not_mem_nil), hr0⟩
  have main : Good Tryz.prog 6 Tryz.f17.ntmps 6 w.heap.size rG (hL memG) w (AQ 6 Tryz.f17.ntmps 6 w.heap.size rG (hL memG) w (fun e env σ' => (match e with | .normal => True | .ret => True | _ => False) ∧ (resL std env σ' [.tmp 0]).1 = true ∧ retV (resL std env σ' [.tmp 0]).2 = .bool true)) e17_0 s17_0 (Tryz.f17.body.getD .skip) :=
    Good.piece st mixed gams_ok hpu0 (m := 3) (c' := c17_0) (r := r17_0) f17_0 (Prod.mk.inj comp17).1 rfl n17_1_ok t17_0 fun hc1 =>
    Good.piece st mixed gams_ok hpu0 (m := 2) (c' := c17_1) (r := r17_1) f17_1 hc1 rfl n17_2_ok t17_1 fun hc2 =>
    Good.piece st mixed gams_ok hpu0 (m := 2) (c' := c17_2) (r := r17_2) f17_2 hc2 rfl n17_3_ok t17_2 fun hc3 =>
    Good.end (c' := c17_3) (env1 := r17_3.env) (σ1 := r17_3.mem) st mixed gams_ok hpu0 hc3 (RR.ret (r := r17_3) (Prod.mk.inj t17_3).1) (by
      have h2 := (Prod.mk.inj t17_3).2
      rw [h2]; exact ⟨trivial, rfl, rfl⟩)
  exact main rG w _ hr0 ⟨by decide +kernel, by simp, rG_glob, fun t v ht => by cases ht⟩ (Stp.refl (Nat.le_refl _)) ⟨trivial, fun r hr => by cases hr⟩
end Go.Proofs.YtjgmpdklfcmelaaGreatDoor.V2
namespace Go.Proofs.YtjgmpdklfcmelaaGreatDoor
open Go.ChangeShapes Go.WideShapes Go.ChangeAt Go.RowKit
section
variable {H : Type} {enc : TypeId × Value → H} {P : Program}
theorem trodAll_stays (hl : laidOutB P = true) {W W' : World} {sp' : Nat → Bool} : ∀ {ts : List TypeId} {vs : List Value} {ds : List (DataW H)} {ps : List MemPlace}, (∀ t ∈ ts, P.readableRec t = true ∧ t < P.types.size) →
    DataW.TrodAll enc P W 0 (fun _ => true) true ts vs ds ps → (∀ p ∈ ps, W.sameAt W' p) → (∀ p ∈ ps, sp' p.block = true) → DataW.TrodAll enc P W' 0 sp' true ts vs ds ps
  | [], _, _, _, _, h, _, _ => by
    obtain ⟨rfl, rfl, rfl⟩ := trodAll_nil h
    exact trodAll_mk0
  | t :: ts, _, _, _, ht, h, h1, h2 => by
    obtain ⟨v, vs1, d, ds1, a, b, rfl, rfl, rfl, ha, hb⟩ := trodAll_cons h
    exact trodAll_cons_mk (WideElems.Trod_stays hl (ht t (by simp)).1 (ht t (by simp)).2 ha (fun p hp => h1 p (by simp [hp])) (fun p hp => h2 p (by simp [hp])))
      (trodAll_stays hl (fun t' h' => ht t' (by simp [h'])) hb (fun p hp => h1 p (by simp [hp])) (fun p hp => h2 p (by simp [hp])))
/-- The row's end: what was there before the call is as it was; the arguments read as they did; the result is of no memory. -/
theorem post_of_below {f : Func} {s : ChangeSpec} {apart fresh handsOn again : Bool} {W W' : World} {args : Array Value} {v : Value} {ds gs : List (DataW H)} {before : List MemPlace}
    (hW : DataW.Whole enc P f.params.toList s.vars apart W args.toList ds gs before) (hl : laidOutB P = true) (hsv : s.vars = []) (hts : ∀ t ∈ f.params.toList, P.readableRec t = true ∧ t < P.types.size)
    (hb : Below W.heap.size W W') (ha : (s.fn H (ds ++ gs)).args = ds) (hgv : (s.fn H (ds ++ gs)).vars = [])
    (hres : ∀ (b : Nat) (sp : Nat → Bool) (hd : Bool), DataW.TrodAll enc P W' b sp hd f.resultTypes.toList (v.resultList f.resultTypes.size) (s.fn H (ds ++ gs)).results [])
    (hok : ∀ (j : Nat) (t : TypeId) (r : Value), f.resultTypes[j]? = some t → (v.resultList f.resultTypes.size)[j]? = some r → Value.okWide P W' .any 0 t r) :
    s.post enc P f apart fresh handsOn again W args v W' := by
  have hlt := hW.lt
  have hW0 := hW
  obtain ⟨p, q, hA0, hV, rfl, hz, hn⟩ := hW
  have hA : DataW.TrodAll enc P W 0 (fun _ => true) true f.params.toList args.toList ds p := hA0
  rw [hsv] at hV
  obtain ⟨rfl, rfl⟩ := trodVars_none hV
  rw [List.append_nil] at hlt hz hn
  have hs : ∀ x ∈ p, W.sameAt W' x := fun x hx => hb.same (hlt x hx)
  have hargs : ∀ sp : Nat → Bool, (∀ x ∈ p, sp x.block = true) → DataW.TrodAll enc P W' 0 sp true f.params.toList args.toList (s.fn H (ds ++ [])).args p := fun sp hsp => by
    rw [ha]; exact trodAll_stays hl hts hA hs hsp
  have hvars : ∀ sp : Nat → Bool, DataW.TrodVars enc P W' sp s.vars (s.fn H (ds ++ [])).vars [] := fun sp => by rw [hgv, hsv]; rfl
  have hold : ∀ x ∈ p, (fun b => decide (b < W.heap.size)) x.block = true := fun x hx => by simpa using hlt x hx
  refine ⟨ds, [], p ++ [], [], p, [], hW0, hres _ _ _, hargs _ hold, hvars _, ?_, fun _ => ?_⟩
  · exact hb.frame _
  · refine ⟨hok, _, _, ([] ++ p) ++ [], ⟨[] ++ p, [], trodAll_append (hargs _ (fun _ _ => rfl)) (hres _ _ _), hvars _, rfl, ?_, ?_⟩, ?_⟩
    · intro b off hp
      simp only [List.nil_append, List.append_nil] at hp
      rw [hb.frozen (hlt _ hp)]
      exact hz b off hp
    · intro h'
      simpa using hn h'
    · intro x hx _
      simpa using hx
end
theorem laidOut : laidOutB Tryz.prog = true := by kernel_rfl
theorem own : ownKnob Tryz.prog.godebug = none := by kernel_rfl
/-! The program's tables. -/
theorem gStart : Tryz.prog.globalNamed "longwire/hash.start" = some 3 := by kernel_rfl
theorem gConst : Tryz.prog.globalNamed "longwire/hash.constants" = some 5 := by kernel_rfl
theorem gTable : Tryz.prog.globalNamed "longwire/scribe.table" = some 2 := by kernel_rfl
theorem gMay : Tryz.prog.globalNamed "longwire/frame.may" = some 1 := by kernel_rfl
theorem gStartType : (Tryz.prog.globals[3]?).map (·.type) = some 351 := by kernel_rfl
theorem gConstType : (Tryz.prog.globals[5]?).map (·.type) = some 374 := by kernel_rfl
theorem gTableType : (Tryz.prog.globals[2]?).map (·.type) = some 349 := by kernel_rfl
theorem gMayType : (Tryz.prog.globals[1]?).map (·.type) = some 326 := by kernel_rfl
theorem cells23_ : Tryz.prog.cellsOf 23 = 1 := by kernel_rfl
theorem cells351_ : Tryz.prog.cellsOf 351 = 8 := by kernel_rfl
theorem cells374_ : Tryz.prog.cellsOf 374 = 64 := by kernel_rfl
theorem cells349_ : Tryz.prog.cellsOf 349 = 16 := by kernel_rfl
theorem cells325_ : Tryz.prog.cellsOf 325 = 1 := by kernel_rfl
theorem tabS_eq {H : Type} : (Rows.laid_longwire_hash_start : DataW H) = Lib.tabData .u32 (S0.map N32) := by kernel_rfl
theorem tabK_eq {H : Type} : (Rows.laid_longwire_hash_constants : DataW H) = Lib.tabData .u32 (KK.map N32) := by kernel_rfl
theorem tabT_eq {H : Type} : (Rows.laid_longwire_scribe_table : DataW H) = Lib.tabData .u32 (V2.TT.map N32) := by kernel_rfl
theorem row_laid {W : World} {name : String} {g t : Nat} {n : Nat} {T : List UInt32} {data : DataW Unit} {rest : List (String × DataW Unit)} (hg : Tryz.prog.globalNamed name = some g) (ht : (Tryz.prog.globals[g]?).map (·.type) = some t)
    (hu : Tryz.prog.underlying t = some (.array n 23)) (hc : Tryz.prog.cellsOf t = n) (hd : data = Lib.tabData .u32 (T.map N32)) (h : laidMet Tryz.prog ((name, data) :: rest) W) : ∀ i, i < T.length → W.cell? ⟨g, i, none⟩ = some (.int .u32 (N32 (at32 T i))) := by
  rw [hd] at h
  intro i hi
  have := (Lib.tabIs_of_head hg ht hu Tryz.underlying23 cells23_ hc h).cell hg i (by simpa using hi)
  rw [this]
  simp [at32, List.getD_eq_getElem?_getD, hi]
theorem nil_of_trod {w : World} {sp : Nat → Bool} {fuel : Nat} {t : TypeId} {ps rs : Array TypeId} {va : Bool} {v : Value} {q : List MemPlace} (ht : Tryz.prog.underlying t = some (.func ps rs va))
    (h : DataW.trod (funcToken Tryz.prog) Tryz.prog w 0 sp true fuel t [v] = some (.nil, q)) : v = .nilFunc := by
  cases fuel with
  | zero => simp [DataW.trod] at h
  | succ n => cases v <;> simp [DataW.trod, ht] at h ⊢
set_option maxRecDepth 100000 in
theorem globF_of {W : World} (h : funcsAt Tryz.prog W "longwire/frame.may" (.agg [.nil, .iface "func" (.lit (.string [108, 111, 110, 103, 119, 105, 114, 101, 47, 102, 114, 97, 109, 101, 46, 98, 97, 114, 101])), .iface "func" (.lit (.string [108, 111, 110, 103, 119, 105, 114, 101, 47, 102, 114, 97, 109, 101, 46, 98, 97, 114, 101])), .iface "func" (.lit (.string [108, 111, 110, 103, 119, 105, 114, 101, 47, 102, 114, 97, 109, 101, 46, 109, 97, 121, 36, 49])), .iface "func" (.lit (.string [108, 111, 110, 103, 119, 105, 114, 101, 47, 102, 114, 97, 109, 101, 46, 109, 97, 121, 36, 50])), .iface "func" (.lit (.string [108, 111, 110, 103, 119, 105, 114, 101, 47, 102, 114, 97, 109, 101, 46, 98, 97, 114, 101]))])) : V2.GlobF W := by
  obtain ⟨g, t, cs, fuel, p, hg, ht, hv, hd⟩ := h
  obtain rfl := Option.some.inj (gMay.symm.trans hg)
  obtain rfl := Option.some.inj (gMayType.symm.trans ht)
  obtain ⟨xs, m, _, hx, _, hlen, hel⟩ := DataW.trod_array Tryz.underlying326 hd
  rw [cells325_] at hel
  have hx2 : (DataW.agg ([.nil, .held [108, 111, 110, 103, 119, 105, 114, 101, 47, 102, 114, 97, 109, 101, 46, 98, 97, 114, 101], .held [108, 111, 110, 103, 119, 105, 114, 101, 47, 102, 114, 97, 109, 101, 46, 98, 97, 114, 101], .held [108, 111, 110, 103, 119, 105, 114, 101, 47, 102, 114, 97, 109, 101, 46, 109, 97, 121, 36, 49], .held [108, 111, 110, 103, 119, 105, 114, 101, 47, 102, 114, 97, 109, 101, 46, 109, 97, 121, 36, 50], .held [108, 111, 110, 103, 119, 105, 114, 101, 47, 102, 114, 97, 109, 101, 46, 98, 97, 114, 101]] : List (DataW (List UInt8))), p) = (.agg (xs.map (·.1)), xs.flatMap (·.2)) := hx
  have hx1 : xs.map (·.1) = ([.nil, .held [108, 111, 110, 103, 119, 105, 114, 101, 47, 102, 114, 97, 109, 101, 46, 98, 97, 114, 101], .held [108, 111, 110, 103, 119, 105, 114, 101, 47, 102, 114, 97, 109, 101, 46, 98, 97, 114, 101], .held [108, 111, 110, 103, 119, 105, 114, 101, 47, 102, 114, 97, 109, 101, 46, 109, 97, 121, 36, 49], .held [108, 111, 110, 103, 119, 105, 114, 101, 47, 102, 114, 97, 109, 101, 46, 109, 97, 121, 36, 50], .held [108, 111, 110, 103, 119, 105, 114, 101, 47, 102, 114, 97, 109, 101, 46, 98, 97, 114, 101]] : List (DataW (List UInt8))) := (DataW.agg.inj (Prod.mk.inj hx2).1).symm
  have key : ∀ (i : Nat) (d : DataW (List UInt8)), i < 6 → ([.nil, .held [108, 111, 110, 103, 119, 105, 114, 101, 47, 102, 114, 97, 109, 101, 46, 98, 97, 114, 101], .held [108, 111, 110, 103, 119, 105, 114, 101, 47, 102, 114, 97, 109, 101, 46, 98, 97, 114, 101], .held [108, 111, 110, 103, 119, 105, 114, 101, 47, 102, 114, 97, 109, 101, 46, 109, 97, 121, 36, 49], .held [108, 111, 110, 103, 119, 105, 114, 101, 47, 102, 114, 97, 109, 101, 46, 109, 97, 121, 36, 50], .held [108, 111, 110, 103, 119, 105, 114, 101, 47, 102, 114, 97, 109, 101, 46, 98, 97, 114, 101]] : List (DataW (List UInt8)))[i]? = some d → ∃ v q, cs[i]? = some v ∧ DataW.trod (funcToken Tryz.prog) Tryz.prog W 0 (fun _ => true) true m 325 [v] = some (d, q) := fun i d hi hd => by
    have h1 := hel i hi
    rw [← hx1, List.getElem?_map, Option.map_eq_some_iff] at hd
    obtain ⟨⟨d', q⟩, hq, rfl⟩ := hd
    rw [hq, Nat.mul_one] at h1
    cases hc : cs.toList.drop i with
    | nil => rw [hc] at h1; cases m <;> simp [DataW.trod, Tryz.underlying325] at h1
    | cons v r =>
      rw [hc] at h1
      refine ⟨v, q, ?_, h1⟩
      rw [← Array.getElem?_toList, ← Nat.add_zero i, ← List.getElem?_drop, hc]; rfl
  intro i hi
  rw [World.var?_cell hg hv i]
  match i, hi with
  | 0, _ =>
    obtain ⟨v, q, hc, hr⟩ := key 0 _ (by omega) rfl
    rw [hc]
    rw [nil_of_trod Tryz.underlying325 hr]; rfl
  | 1, _ =>
    obtain ⟨v, q, hc, hr⟩ := key 1 _ (by omega) rfl
    rw [hc]
    rw [func_of_trod (f0 := 342) Tryz.underlying325 (by kernel_rfl) hr]; rfl
  | 2, _ =>
    obtain ⟨v, q, hc, hr⟩ := key 2 _ (by omega) rfl
    rw [hc]
    rw [func_of_trod (f0 := 342) Tryz.underlying325 (by kernel_rfl) hr]; rfl
  | 3, _ =>
    obtain ⟨v, q, hc, hr⟩ := key 3 _ (by omega) rfl
    rw [hc]
    rw [func_of_trod (f0 := 343) Tryz.underlying325 (by kernel_rfl) hr]; rfl
  | 4, _ =>
    obtain ⟨v, q, hc, hr⟩ := key 4 _ (by omega) rfl
    rw [hc]
    rw [func_of_trod (f0 := 344) Tryz.underlying325 (by kernel_rfl) hr]; rfl
  | 5, _ =>
    obtain ⟨v, q, hc, hr⟩ := key 5 _ (by omega) rfl
    rw [hc]
    rw [func_of_trod (f0 := 342) Tryz.underlying325 (by kernel_rfl) hr]; rfl
theorem globs_of {W : World} (h : laidMetH Tryz.prog Rows.arqKnownRow.laid W) : V2.GlobR W := by
  have hd : laidMet Tryz.prog [("longwire/hash.start", Rows.laid_longwire_hash_start), ("longwire/hash.constants", Rows.laid_longwire_hash_constants), ("longwire/scribe.table", Rows.laid_longwire_scribe_table)] W := h.1
  have hK := row_laid gConst gConstType Tryz.underlying374 cells374_ tabK_eq hd.tail
  refine ⟨globF_of (h.funcs (by simp [Rows.arqKnownRow, Rows.laid_longwire_frame_may])), row_laid gTable gTableType Tryz.underlying349 cells349_ tabT_eq hd.tail.tail, row_laid gStart gStartType Tryz.underlying351 cells351_ tabS_eq hd, hK, ?_⟩
  have := hK 0 (by decide)
  unfold World.cell? at this
  split at this
  · rename_i hh; exact (Array.getElem?_eq_some_iff.1 hh).1
  · cases this
end Go.Proofs.YtjgmpdklfcmelaaGreatDoor
namespace Go.Proofs.YtjgmpdklfcmelaaGreatDoor.V2
open Go
open Go.RowKit
def funK : AV → Option (Option Nat)
  | .nilfn => some none
  | .fn f xs ys => match f with
    | .func n => match xs, ys with
      | [], [] => some (some n)
      | _, _ => none
    | _ => none
  | _ => none
theorem funK_nil {v : AV} (h : funK v = some none) : v = .nilfn := by
  unfold funK at h
  split at h
  · rfl
  · split at h
    · split at h <;> cases h
    · cases h
  · cases h
theorem funK_fn {v : AV} {n : Nat} (h : funK v = some (some n)) : v = .fn (.func n) [] [] := by
  unfold funK at h
  split at h
  · cases h
  · split at h
    · split at h
      · cases h; rfl
      · cases h
    · cases h
  · cases h
noncomputable def funA (σ : AH) : Bool := match σ.get 1 with
  | some ob => match ob with
    | .cells l _ _ => decide (l.map funK = [some none, some (some 342), some (some 342), some (some 343), some (some 344), some (some 342)])
    | _ => false
  | none => false
theorem fun_of {ρ : Ren} {σ : AH} {W : World} (hr : HR ρ σ W) (hg : ∃ s, ρ 1 = some (1, (0, s))) (h : funA σ = true) : GlobF W := by
  unfold funA at h
  split at h
  case h_2 => cases h
  rename_i ob hob
  split at h
  case h_2 => cases h
  rename_i l e tl
  have h := of_decide_eq_true h
  obtain ⟨s, hs⟩ := hg
  have hlen : l.length = 6 := by rw [← List.length_map (f := funK), h]; rfl
  have key : ∀ i k, ([some none, some (some 342), some (some 342), some (some 343), some (some 344), some (some 342)] : List (Option (Option Nat)))[i]? = some k → ∃ a v, funK a = k ∧ W.cell? ⟨1, i, none⟩ = some v ∧ VR ρ a v := fun i k hk => by
    rw [← h, List.getElem?_map, Option.map_eq_some_iff] at hk
    obtain ⟨a, ha, hk⟩ := hk
    obtain ⟨u, hu, hur⟩ := hr.load (i := i) (a := a) hs hob ha
    exact ⟨a, u, hk, hu, hur⟩
  intro i hi
  match i, hi with
  | 0, _ =>
    obtain ⟨a, v, ha, hv, hr⟩ := key 0 _ rfl
    rw [funK_nil ha] at hr
    unfold VR at hr; subst hr
    rw [hv]; rfl
  | 1, _ =>
    obtain ⟨a, v, ha, hv, hr⟩ := key 1 _ rfl
    rw [funK_fn ha] at hr
    unfold VR at hr
    obtain ⟨us, vs, e1, e2, e3⟩ := hr
    have e2 : us = [] := e2
    have e3 : vs = [] := e3
    subst e2 e3 e1
    rw [hv]; rfl
  | 2, _ =>
    obtain ⟨a, v, ha, hv, hr⟩ := key 2 _ rfl
    rw [funK_fn ha] at hr
    unfold VR at hr
    obtain ⟨us, vs, e1, e2, e3⟩ := hr
    have e2 : us = [] := e2
    have e3 : vs = [] := e3
    subst e2 e3 e1
    rw [hv]; rfl
  | 3, _ =>
    obtain ⟨a, v, ha, hv, hr⟩ := key 3 _ rfl
    rw [funK_fn ha] at hr
    unfold VR at hr
    obtain ⟨us, vs, e1, e2, e3⟩ := hr
    have e2 : us = [] := e2
    have e3 : vs = [] := e3
    subst e2 e3 e1
    rw [hv]; rfl
  | 4, _ =>
    obtain ⟨a, v, ha, hv, hr⟩ := key 4 _ rfl
    rw [funK_fn ha] at hr
    unfold VR at hr
    obtain ⟨us, vs, e1, e2, e3⟩ := hr
    have e2 : us = [] := e2
    have e3 : vs = [] := e3
    subst e2 e3 e1
    rw [hv]; rfl
  | 5, _ =>
    obtain ⟨a, v, ha, hv, hr⟩ := key 5 _ rfl
    rw [funK_fn ha] at hr
    unfold VR at hr
    obtain ⟨us, vs, e1, e2, e3⟩ := hr
    have e2 : us = [] := e2
    have e3 : vs = [] := e3
    subst e2 e3 e1
    rw [hv]; rfl
def isT (l : List Int) : Bool := decide (l = wI TT)
/-- The contracts: Hmac, tells. -/
noncomputable def tF (f : FuncId) (args : List AV) (σ : AH) : Out :=
  bif Nat.beq f 17 then (match args with
    | [] => (funA σ && globA σ 2 isT && globA σ 3 isS && globA σ 5 isK, .bool true, σ)
    | _ => bad σ)
  else hF f args σ
theorem tF_ok {Y : List Yl} : FnOk Tryz.prog 6 tF Y := by
  intro f args σ h
  unfold tF at h ⊢
  cases h12 : Nat.beq f 17
  case false => rw [h12] at h; rw [cond_false] at h ⊢; exact hF_ok f args σ h
  rw [h12] at h
  have e := Nat.eq_of_beq_eq_true h12
  subst e
  simp only [cond_true] at h ⊢
  split at h
  case h_2 => cases h
  simp only [Bool.and_eq_true] at h
  obtain ⟨⟨⟨h1, h2⟩, h3⟩, h4⟩ := h
  refine ⟨⟨_, Tryz.func17, by kernel_rfl, by kernel_rfl⟩, fun ρ W vs _ hG hr hvs => ?_⟩
  have hvs : vs = [] := hvs
  subst hvs
  have hT : ∀ l, isT l = true → l = wI TT := fun l h => by simpa [isT] using h
  have hS : ∀ l, isS l = true → l = wI S0 := fun l h => by simpa [isS] using h
  have hK : ∀ l, isK l = true → l = wI KK := fun l h => by simpa [isK] using h
  obtain ⟨s3, hs3⟩ := hG 5 (by decide)
  have hR : GlobR W := ⟨fun_of hr (hG 1 (by decide)) h1, glob_of hr hT rfl (hG 2 (by decide)) h2, glob_of hr hS rfl (hG 3 (by decide)) h3, glob_of hr hK rfl (hG 5 (by decide)) h4, (hr.dom _ _ _ hs3).2.1⟩
  refine (tells_any W hR).mono fun e W' ⟨e1, e2⟩ => ?_
  subst e1
  exact ⟨_, ρ, rfl, hr.below e2, Stp.below (Nat.le_refl _) e2, rfl⟩
noncomputable def Γu : Gam := Gam.grow std 1000 tabS Sd (.of tF) 40
theorem gamu_ok : GamOk Tryz.prog 6 Γu [] := (grow_ok mixed tabS_ok Sd_ok (fun f h => by cases h) 40 (.of tF_ok) hpu0).1
end Go.Proofs.YtjgmpdklfcmelaaGreatDoor.V2
namespace Go.Proofs.YtjgmpdklfcmelaaGreatDoor.V2
open Go
open Go.RowKit
def o3_1 : List Nat := [0, 1, 2, 3, 4, 5, 40, 47, 284, 37, 39, 44, 46, 182, 282, 35, 36, 38, 42, 43, 45, 55, 58]
def l3_1 : List (Nat × AV) := [(0, AV.bool false), (11, AV.ptr 6 0), (12, AV.ptr 7 0), (13, AV.sl 8 0 2 2 false 1)]
def m3_1 : List (Nat × AObj) := [(0, AObj.cells [] 0 (Tl.ro)), (1, AObj.cells [AV.nilfn, AV.fn (Go.Fn.func 342) [] [], AV.fn (Go.Fn.func 342) [] [], AV.fn (Go.Fn.func 343) [] [], AV.fn (Go.Fn.func 344) [] [], AV.fn (Go.Fn.func 342) [] []] 326 (Tl.ro)), (2, AObj.ints (IntKind.u32) [0, 498536548, 997073096, 651767980, 1994146192, 1802195444, 1303535960, 1342533948, 3988292384, 4027552580, 3604390888, 3412177804, 2607071920, 2262029012, 2685067896, 3183342108] 349 (Tl.ro)), (3, AObj.ints (IntKind.u32) [1779033703, 3144134277, 1013904242, 2773480762, 1359893119, 2600822924, 528734635, 1541459225] 351 (Tl.ro)), (4, AObj.cells [] 0 (Tl.ro)), (5, AObj.ints (IntKind.u32) [1116352408, 1899447441, 3049323471, 3921009573, 961987163, 1508970993, 2453635748, 2870763221, 3624381080, 310598401, 607225278, 1426881987, 1925078388, 2162078206, 2614888103, 3248222580, 3835390401, 4022224774, 264347078, 604807628, 770255983, 1249150122, 1555081692, 1996064986, 2554220882, 2821834349, 2952996808, 3210313671, 3336571891, 3584528711, 113926993, 338241895, 666307205, 773529912, 1294757372, 1396182291, 1695183700, 1986661051, 2177026350, 2456956037, 2730485921, 2820302411, 3259730800, 3345764771, 3516065817, 3600352804, 4094571909, 275423344, 430227734, 506948616, 659060556, 883997877, 958139571, 1322822218, 1537002063, 1747873779, 1955562222, 2024104815, 2227730452, 2361852424, 2428436474, 2756734187, 3204031479, 3329325298] 374 (Tl.ro)), (6, AObj.cells [AV.int (IntKind.u32) 7, AV.int (IntKind.u32) 1, AV.int (IntKind.u8) 166, AV.int (IntKind.u8) 82, AV.int (IntKind.u8) 83, AV.int (IntKind.u8) 143, AV.int (IntKind.u8) 10, AV.int (IntKind.u8) 84, AV.int (IntKind.u8) 246, AV.int (IntKind.u8) 36, AV.int (IntKind.u8) 68, AV.int (IntKind.u8) 64, AV.int (IntKind.u8) 100, AV.int (IntKind.u8) 17, AV.int (IntKind.u8) 196, AV.int (IntKind.u8) 30, AV.int (IntKind.u8) 119, AV.int (IntKind.u8) 15, AV.int (IntKind.u8) 239, AV.int (IntKind.u8) 248, AV.int (IntKind.u8) 18, AV.int (IntKind.u8) 216, AV.int (IntKind.u8) 104, AV.int (IntKind.u8) 81, AV.int (IntKind.u8) 60, AV.int (IntKind.u8) 97, AV.int (IntKind.u8) 135, AV.int (IntKind.u8) 230, AV.int (IntKind.u8) 166, AV.int (IntKind.u8) 234, AV.int (IntKind.u8) 33, AV.int (IntKind.u8) 124, AV.int (IntKind.u8) 248, AV.int (IntKind.u8) 179, AV.int (IntKind.u8) 150, AV.int (IntKind.u8) 220, AV.int (IntKind.u8) 33, AV.int (IntKind.u8) 215, AV.int (IntKind.u8) 12, AV.int (IntKind.u8) 226, AV.int (IntKind.u8) 121, AV.int (IntKind.u8) 95, AV.int (IntKind.u8) 109, AV.int (IntKind.u8) 246, AV.int (IntKind.u8) 244, AV.int (IntKind.u8) 68, AV.int (IntKind.u8) 189, AV.int (IntKind.u8) 205, AV.int (IntKind.u8) 96, AV.int (IntKind.u8) 43, AV.int (IntKind.u8) 73, AV.int (IntKind.u8) 17, AV.int (IntKind.u8) 76, AV.int (IntKind.u8) 222, AV.int (IntKind.u8) 123, AV.int (IntKind.u8) 224, AV.int (IntKind.u8) 1, AV.int (IntKind.u8) 49, AV.int (IntKind.u8) 220, AV.int (IntKind.u8) 136, AV.int (IntKind.u8) 46, AV.int (IntKind.u8) 130, AV.int (IntKind.u8) 54, AV.int (IntKind.u8) 16, AV.int (IntKind.u8) 219, AV.int (IntKind.u8) 115, AV.int (IntKind.u32) 2, AV.int (IntKind.i64) 3, AV.int (IntKind.i64) 12, AV.ptr 9 0, AV.ptr 10 0, AV.bool false] 31 (Tl.exact)), (7, AObj.cells [AV.int (IntKind.u32) 7, AV.int (IntKind.u32) 1, AV.int (IntKind.u8) 150, AV.int (IntKind.u8) 220, AV.int (IntKind.u8) 33, AV.int (IntKind.u8) 215, AV.int (IntKind.u8) 12, AV.int (IntKind.u8) 226, AV.int (IntKind.u8) 121, AV.int (IntKind.u8) 95, AV.int (IntKind.u8) 109, AV.int (IntKind.u8) 246, AV.int (IntKind.u8) 244, AV.int (IntKind.u8) 68, AV.int (IntKind.u8) 189, AV.int (IntKind.u8) 205, AV.int (IntKind.u8) 96, AV.int (IntKind.u8) 43, AV.int (IntKind.u8) 73, AV.int (IntKind.u8) 17, AV.int (IntKind.u8) 76, AV.int (IntKind.u8) 222, AV.int (IntKind.u8) 123, AV.int (IntKind.u8) 224, AV.int (IntKind.u8) 1, AV.int (IntKind.u8) 49, AV.int (IntKind.u8) 220, AV.int (IntKind.u8) 136, AV.int (IntKind.u8) 46, AV.int (IntKind.u8) 130, AV.int (IntKind.u8) 54, AV.int (IntKind.u8) 16, AV.int (IntKind.u8) 219, AV.int (IntKind.u8) 115, AV.int (IntKind.u8) 166, AV.int (IntKind.u8) 82, AV.int (IntKind.u8) 83, AV.int (IntKind.u8) 143, AV.int (IntKind.u8) 10, AV.int (IntKind.u8) 84, AV.int (IntKind.u8) 246, AV.int (IntKind.u8) 36, AV.int (IntKind.u8) 68, AV.int (IntKind.u8) 64, AV.int (IntKind.u8) 100, AV.int (IntKind.u8) 17, AV.int (IntKind.u8) 196, AV.int (IntKind.u8) 30, AV.int (IntKind.u8) 119, AV.int (IntKind.u8) 15, AV.int (IntKind.u8) 239, AV.int (IntKind.u8) 248, AV.int (IntKind.u8) 18, AV.int (IntKind.u8) 216, AV.int (IntKind.u8) 104, AV.int (IntKind.u8) 81, AV.int (IntKind.u8) 60, AV.int (IntKind.u8) 97, AV.int (IntKind.u8) 135, AV.int (IntKind.u8) 230, AV.int (IntKind.u8) 166, AV.int (IntKind.u8) 234, AV.int (IntKind.u8) 33, AV.int (IntKind.u8) 124, AV.int (IntKind.u8) 248, AV.int (IntKind.u8) 179, AV.int (IntKind.u32) 2, AV.int (IntKind.i64) 3, AV.int (IntKind.i64) 12, AV.ptr 11 0, AV.ptr 12 0, AV.bool false] 31 (Tl.exact)), (8, AObj.cells [AV.sl 13 0 36 36 false 1, AV.sl 14 0 36 36 false 1] 49 (Tl.more)), (9, AObj.cells [AV.ptr 15 0, AV.int (IntKind.i64) 3, AV.int (IntKind.i64) 12, AV.map 16] 251 (Tl.exact)), (10, AObj.cells [AV.int (IntKind.u32) 0, AV.map 17] 256 (Tl.exact)), (11, AObj.cells [AV.ptr 18 0, AV.int (IntKind.i64) 3, AV.int (IntKind.i64) 12, AV.map 19] 251 (Tl.exact)), (12, AObj.cells [AV.int (IntKind.u32) 0, AV.map 20] 256 (Tl.exact)), (13, AObj.ints (IntKind.u8) [3, 0, 0, 0, 7, 0, 0, 0, 1, 0, 0, 0, 0, 0, 0, 0, 0, 0, 0, 0, 0, 0, 1, 49, 166, 65, 134, 124, 76, 63, 155, 251, 191, 11, 35, 105] 5 (Tl.more)), (14, AObj.ints (IntKind.u8) [3, 0, 0, 0, 7, 0, 0, 0, 1, 0, 0, 0, 1, 0, 0, 0, 0, 0, 0, 0, 0, 0, 1, 50, 22, 2, 166, 243, 176, 88, 102, 53, 40, 8, 187, 33] 5 (Tl.more)), (15, AObj.ints (IntKind.u32) [2, 2] 275 (Tl.exact)), (16, AObj.map [(AV.int (IntKind.u32) 0, AV.agg [AV.int (IntKind.u32) 0, AV.sl 21 0 1 1 false 1, AV.int (IntKind.i64) 1, AV.int (IntKind.i64) 3]), (AV.int (IntKind.u32) 1, AV.agg [AV.int (IntKind.u32) 1, AV.sl 22 0 1 1 false 1, AV.int (IntKind.i64) 1, AV.int (IntKind.i64) 3])]), (17, AObj.map []), (18, AObj.ints (IntKind.u32) [0, 2] 275 (Tl.exact)), (19, AObj.map []), (20, AObj.map []), (21, AObj.ints (IntKind.u8) [49] 5 (Tl.more)), (22, AObj.ints (IntKind.u8) [50] 5 (Tl.more))]
noncomputable def e3_1 : T AV := ofL l3_1
noncomputable def s3_1 : AH := ⟨23, ofM m3_1⟩
theorem n3_1_ok : okN o3_1 23 l3_1 m3_1 = true := by kernel_rfl
def o3_2 : List Nat := [0, 1, 2, 3, 4, 5, 6, 7, 8, 210, 9, 10, 11, 12, 13, 14, 203, 116, 15, 16, 17, 18, 19, 20, 21, 22]
def l3_2 : List (Nat × AV) := [(0, AV.bool false), (11, AV.ptr 6 0), (12, AV.ptr 7 0), (13, AV.sl 8 0 2 2 false 1), (14, AV.nilsl), (15, AV.int (IntKind.i64) 0), (16, AV.sl 9 0 2 2 false 1), (17, AV.int (IntKind.i64) 0)]
def m3_2 : List (Nat × AObj) := [(0, AObj.cells [] 0 (Tl.ro)), (1, AObj.cells [AV.nilfn, AV.fn (Go.Fn.func 342) [] [], AV.fn (Go.Fn.func 342) [] [], AV.fn (Go.Fn.func 343) [] [], AV.fn (Go.Fn.func 344) [] [], AV.fn (Go.Fn.func 342) [] []] 326 (Tl.ro)), (2, AObj.ints (IntKind.u32) [0, 498536548, 997073096, 651767980, 1994146192, 1802195444, 1303535960, 1342533948, 3988292384, 4027552580, 3604390888, 3412177804, 2607071920, 2262029012, 2685067896, 3183342108] 349 (Tl.ro)), (3, AObj.ints (IntKind.u32) [1779033703, 3144134277, 1013904242, 2773480762, 1359893119, 2600822924, 528734635, 1541459225] 351 (Tl.ro)), (4, AObj.cells [] 0 (Tl.ro)), (5, AObj.ints (IntKind.u32) [1116352408, 1899447441, 3049323471, 3921009573, 961987163, 1508970993, 2453635748, 2870763221, 3624381080, 310598401, 607225278, 1426881987, 1925078388, 2162078206, 2614888103, 3248222580, 3835390401, 4022224774, 264347078, 604807628, 770255983, 1249150122, 1555081692, 1996064986, 2554220882, 2821834349, 2952996808, 3210313671, 3336571891, 3584528711, 113926993, 338241895, 666307205, 773529912, 1294757372, 1396182291, 1695183700, 1986661051, 2177026350, 2456956037, 2730485921, 2820302411, 3259730800, 3345764771, 3516065817, 3600352804, 4094571909, 275423344, 430227734, 506948616, 659060556, 883997877, 958139571, 1322822218, 1537002063, 1747873779, 1955562222, 2024104815, 2227730452, 2361852424, 2428436474, 2756734187, 3204031479, 3329325298] 374 (Tl.ro)), (6, AObj.cells [AV.int (IntKind.u32) 7, AV.int (IntKind.u32) 1, AV.int (IntKind.u8) 166, AV.int (IntKind.u8) 82, AV.int (IntKind.u8) 83, AV.int (IntKind.u8) 143, AV.int (IntKind.u8) 10, AV.int (IntKind.u8) 84, AV.int (IntKind.u8) 246, AV.int (IntKind.u8) 36, AV.int (IntKind.u8) 68, AV.int (IntKind.u8) 64, AV.int (IntKind.u8) 100, AV.int (IntKind.u8) 17, AV.int (IntKind.u8) 196, AV.int (IntKind.u8) 30, AV.int (IntKind.u8) 119, AV.int (IntKind.u8) 15, AV.int (IntKind.u8) 239, AV.int (IntKind.u8) 248, AV.int (IntKind.u8) 18, AV.int (IntKind.u8) 216, AV.int (IntKind.u8) 104, AV.int (IntKind.u8) 81, AV.int (IntKind.u8) 60, AV.int (IntKind.u8) 97, AV.int (IntKind.u8) 135, AV.int (IntKind.u8) 230, AV.int (IntKind.u8) 166, AV.int (IntKind.u8) 234, AV.int (IntKind.u8) 33, AV.int (IntKind.u8) 124, AV.int (IntKind.u8) 248, AV.int (IntKind.u8) 179, AV.int (IntKind.u8) 150, AV.int (IntKind.u8) 220, AV.int (IntKind.u8) 33, AV.int (IntKind.u8) 215, AV.int (IntKind.u8) 12, AV.int (IntKind.u8) 226, AV.int (IntKind.u8) 121, AV.int (IntKind.u8) 95, AV.int (IntKind.u8) 109, AV.int (IntKind.u8) 246, AV.int (IntKind.u8) 244, AV.int (IntKind.u8) 68, AV.int (IntKind.u8) 189, AV.int (IntKind.u8) 205, AV.int (IntKind.u8) 96, AV.int (IntKind.u8) 43, AV.int (IntKind.u8) 73, AV.int (IntKind.u8) 17, AV.int (IntKind.u8) 76, AV.int (IntKind.u8) 222, AV.int (IntKind.u8) 123, AV.int (IntKind.u8) 224, AV.int (IntKind.u8) 1, AV.int (IntKind.u8) 49, AV.int (IntKind.u8) 220, AV.int (IntKind.u8) 136, AV.int (IntKind.u8) 46, AV.int (IntKind.u8) 130, AV.int (IntKind.u8) 54, AV.int (IntKind.u8) 16, AV.int (IntKind.u8) 219, AV.int (IntKind.u8) 115, AV.int (IntKind.u32) 2, AV.int (IntKind.i64) 3, AV.int (IntKind.i64) 12, AV.ptr 10 0, AV.ptr 11 0, AV.bool false] 31 (Tl.exact)), (7, AObj.cells [AV.int (IntKind.u32) 7, AV.int (IntKind.u32) 1, AV.int (IntKind.u8) 150, AV.int (IntKind.u8) 220, AV.int (IntKind.u8) 33, AV.int (IntKind.u8) 215, AV.int (IntKind.u8) 12, AV.int (IntKind.u8) 226, AV.int (IntKind.u8) 121, AV.int (IntKind.u8) 95, AV.int (IntKind.u8) 109, AV.int (IntKind.u8) 246, AV.int (IntKind.u8) 244, AV.int (IntKind.u8) 68, AV.int (IntKind.u8) 189, AV.int (IntKind.u8) 205, AV.int (IntKind.u8) 96, AV.int (IntKind.u8) 43, AV.int (IntKind.u8) 73, AV.int (IntKind.u8) 17, AV.int (IntKind.u8) 76, AV.int (IntKind.u8) 222, AV.int (IntKind.u8) 123, AV.int (IntKind.u8) 224, AV.int (IntKind.u8) 1, AV.int (IntKind.u8) 49, AV.int (IntKind.u8) 220, AV.int (IntKind.u8) 136, AV.int (IntKind.u8) 46, AV.int (IntKind.u8) 130, AV.int (IntKind.u8) 54, AV.int (IntKind.u8) 16, AV.int (IntKind.u8) 219, AV.int (IntKind.u8) 115, AV.int (IntKind.u8) 166, AV.int (IntKind.u8) 82, AV.int (IntKind.u8) 83, AV.int (IntKind.u8) 143, AV.int (IntKind.u8) 10, AV.int (IntKind.u8) 84, AV.int (IntKind.u8) 246, AV.int (IntKind.u8) 36, AV.int (IntKind.u8) 68, AV.int (IntKind.u8) 64, AV.int (IntKind.u8) 100, AV.int (IntKind.u8) 17, AV.int (IntKind.u8) 196, AV.int (IntKind.u8) 30, AV.int (IntKind.u8) 119, AV.int (IntKind.u8) 15, AV.int (IntKind.u8) 239, AV.int (IntKind.u8) 248, AV.int (IntKind.u8) 18, AV.int (IntKind.u8) 216, AV.int (IntKind.u8) 104, AV.int (IntKind.u8) 81, AV.int (IntKind.u8) 60, AV.int (IntKind.u8) 97, AV.int (IntKind.u8) 135, AV.int (IntKind.u8) 230, AV.int (IntKind.u8) 166, AV.int (IntKind.u8) 234, AV.int (IntKind.u8) 33, AV.int (IntKind.u8) 124, AV.int (IntKind.u8) 248, AV.int (IntKind.u8) 179, AV.int (IntKind.u32) 2, AV.int (IntKind.i64) 3, AV.int (IntKind.i64) 12, AV.ptr 12 0, AV.ptr 13 0, AV.bool true] 31 (Tl.exact)), (8, AObj.cells [AV.sl 14 0 36 36 false 1, AV.sl 15 0 36 36 false 1] 49 (Tl.more)), (9, AObj.cells [AV.sl 16 0 1 1 false 1, AV.sl 17 0 1 1 false 1] 49 (Tl.more)), (10, AObj.cells [AV.ptr 18 0, AV.int (IntKind.i64) 3, AV.int (IntKind.i64) 12, AV.map 19] 251 (Tl.exact)), (11, AObj.cells [AV.int (IntKind.u32) 0, AV.map 20] 256 (Tl.exact)), (12, AObj.cells [AV.ptr 21 0, AV.int (IntKind.i64) 3, AV.int (IntKind.i64) 12, AV.map 22] 251 (Tl.exact)), (13, AObj.cells [AV.int (IntKind.u32) 2, AV.map 23] 256 (Tl.exact)), (14, AObj.ints (IntKind.u8) [3, 0, 0, 0, 7, 0, 0, 0, 1, 0, 0, 0, 0, 0, 0, 0, 0, 0, 0, 0, 0, 0, 1, 49, 166, 65, 134, 124, 76, 63, 155, 251, 191, 11, 35, 105] 5 (Tl.more)), (15, AObj.ints (IntKind.u8) [3, 0, 0, 0, 7, 0, 0, 0, 1, 0, 0, 0, 1, 0, 0, 0, 0, 0, 0, 0, 0, 0, 1, 50, 22, 2, 166, 243, 176, 88, 102, 53, 40, 8, 187, 33] 5 (Tl.more)), (16, AObj.ints (IntKind.u8) [49] 5 (Tl.more)), (17, AObj.ints (IntKind.u8) [50] 5 (Tl.more)), (18, AObj.ints (IntKind.u32) [2, 2] 275 (Tl.exact)), (19, AObj.map [(AV.int (IntKind.u32) 0, AV.agg [AV.int (IntKind.u32) 0, AV.sl 24 0 1 1 false 1, AV.int (IntKind.i64) 1, AV.int (IntKind.i64) 3]), (AV.int (IntKind.u32) 1, AV.agg [AV.int (IntKind.u32) 1, AV.sl 25 0 1 1 false 1, AV.int (IntKind.i64) 1, AV.int (IntKind.i64) 3])]), (20, AObj.map []), (21, AObj.ints (IntKind.u32) [0, 2] 275 (Tl.exact)), (22, AObj.map []), (23, AObj.map []), (24, AObj.ints (IntKind.u8) [49] 5 (Tl.more)), (25, AObj.ints (IntKind.u8) [50] 5 (Tl.more))]
noncomputable def e3_2 : T AV := ofL l3_2
noncomputable def s3_2 : AH := ⟨26, ofM m3_2⟩
theorem n3_2_ok : okN o3_2 26 l3_2 m3_2 = true := by kernel_rfl
def o3_3 : List Nat := [0, 1, 2, 3, 4, 5, 6, 7, 211, 10, 11, 12, 13, 209, 18, 19, 20, 21, 22, 23, 24, 25]
def l3_3 : List (Nat × AV) := [(0, AV.bool false), (11, AV.ptr 6 0), (12, AV.ptr 7 0), (20, AV.sl 8 0 1 1 false 1)]
def m3_3 : List (Nat × AObj) := [(0, AObj.cells [] 0 (Tl.ro)), (1, AObj.cells [AV.nilfn, AV.fn (Go.Fn.func 342) [] [], AV.fn (Go.Fn.func 342) [] [], AV.fn (Go.Fn.func 343) [] [], AV.fn (Go.Fn.func 344) [] [], AV.fn (Go.Fn.func 342) [] []] 326 (Tl.ro)), (2, AObj.ints (IntKind.u32) [0, 498536548, 997073096, 651767980, 1994146192, 1802195444, 1303535960, 1342533948, 3988292384, 4027552580, 3604390888, 3412177804, 2607071920, 2262029012, 2685067896, 3183342108] 349 (Tl.ro)), (3, AObj.ints (IntKind.u32) [1779033703, 3144134277, 1013904242, 2773480762, 1359893119, 2600822924, 528734635, 1541459225] 351 (Tl.ro)), (4, AObj.cells [] 0 (Tl.ro)), (5, AObj.ints (IntKind.u32) [1116352408, 1899447441, 3049323471, 3921009573, 961987163, 1508970993, 2453635748, 2870763221, 3624381080, 310598401, 607225278, 1426881987, 1925078388, 2162078206, 2614888103, 3248222580, 3835390401, 4022224774, 264347078, 604807628, 770255983, 1249150122, 1555081692, 1996064986, 2554220882, 2821834349, 2952996808, 3210313671, 3336571891, 3584528711, 113926993, 338241895, 666307205, 773529912, 1294757372, 1396182291, 1695183700, 1986661051, 2177026350, 2456956037, 2730485921, 2820302411, 3259730800, 3345764771, 3516065817, 3600352804, 4094571909, 275423344, 430227734, 506948616, 659060556, 883997877, 958139571, 1322822218, 1537002063, 1747873779, 1955562222, 2024104815, 2227730452, 2361852424, 2428436474, 2756734187, 3204031479, 3329325298] 374 (Tl.ro)), (6, AObj.cells [AV.int (IntKind.u32) 7, AV.int (IntKind.u32) 1, AV.int (IntKind.u8) 166, AV.int (IntKind.u8) 82, AV.int (IntKind.u8) 83, AV.int (IntKind.u8) 143, AV.int (IntKind.u8) 10, AV.int (IntKind.u8) 84, AV.int (IntKind.u8) 246, AV.int (IntKind.u8) 36, AV.int (IntKind.u8) 68, AV.int (IntKind.u8) 64, AV.int (IntKind.u8) 100, AV.int (IntKind.u8) 17, AV.int (IntKind.u8) 196, AV.int (IntKind.u8) 30, AV.int (IntKind.u8) 119, AV.int (IntKind.u8) 15, AV.int (IntKind.u8) 239, AV.int (IntKind.u8) 248, AV.int (IntKind.u8) 18, AV.int (IntKind.u8) 216, AV.int (IntKind.u8) 104, AV.int (IntKind.u8) 81, AV.int (IntKind.u8) 60, AV.int (IntKind.u8) 97, AV.int (IntKind.u8) 135, AV.int (IntKind.u8) 230, AV.int (IntKind.u8) 166, AV.int (IntKind.u8) 234, AV.int (IntKind.u8) 33, AV.int (IntKind.u8) 124, AV.int (IntKind.u8) 248, AV.int (IntKind.u8) 179, AV.int (IntKind.u8) 150, AV.int (IntKind.u8) 220, AV.int (IntKind.u8) 33, AV.int (IntKind.u8) 215, AV.int (IntKind.u8) 12, AV.int (IntKind.u8) 226, AV.int (IntKind.u8) 121, AV.int (IntKind.u8) 95, AV.int (IntKind.u8) 109, AV.int (IntKind.u8) 246, AV.int (IntKind.u8) 244, AV.int (IntKind.u8) 68, AV.int (IntKind.u8) 189, AV.int (IntKind.u8) 205, AV.int (IntKind.u8) 96, AV.int (IntKind.u8) 43, AV.int (IntKind.u8) 73, AV.int (IntKind.u8) 17, AV.int (IntKind.u8) 76, AV.int (IntKind.u8) 222, AV.int (IntKind.u8) 123, AV.int (IntKind.u8) 224, AV.int (IntKind.u8) 1, AV.int (IntKind.u8) 49, AV.int (IntKind.u8) 220, AV.int (IntKind.u8) 136, AV.int (IntKind.u8) 46, AV.int (IntKind.u8) 130, AV.int (IntKind.u8) 54, AV.int (IntKind.u8) 16, AV.int (IntKind.u8) 219, AV.int (IntKind.u8) 115, AV.int (IntKind.u32) 2, AV.int (IntKind.i64) 3, AV.int (IntKind.i64) 12, AV.ptr 9 0, AV.ptr 10 0, AV.bool false] 31 (Tl.exact)), (7, AObj.cells [AV.int (IntKind.u32) 7, AV.int (IntKind.u32) 1, AV.int (IntKind.u8) 150, AV.int (IntKind.u8) 220, AV.int (IntKind.u8) 33, AV.int (IntKind.u8) 215, AV.int (IntKind.u8) 12, AV.int (IntKind.u8) 226, AV.int (IntKind.u8) 121, AV.int (IntKind.u8) 95, AV.int (IntKind.u8) 109, AV.int (IntKind.u8) 246, AV.int (IntKind.u8) 244, AV.int (IntKind.u8) 68, AV.int (IntKind.u8) 189, AV.int (IntKind.u8) 205, AV.int (IntKind.u8) 96, AV.int (IntKind.u8) 43, AV.int (IntKind.u8) 73, AV.int (IntKind.u8) 17, AV.int (IntKind.u8) 76, AV.int (IntKind.u8) 222, AV.int (IntKind.u8) 123, AV.int (IntKind.u8) 224, AV.int (IntKind.u8) 1, AV.int (IntKind.u8) 49, AV.int (IntKind.u8) 220, AV.int (IntKind.u8) 136, AV.int (IntKind.u8) 46, AV.int (IntKind.u8) 130, AV.int (IntKind.u8) 54, AV.int (IntKind.u8) 16, AV.int (IntKind.u8) 219, AV.int (IntKind.u8) 115, AV.int (IntKind.u8) 166, AV.int (IntKind.u8) 82, AV.int (IntKind.u8) 83, AV.int (IntKind.u8) 143, AV.int (IntKind.u8) 10, AV.int (IntKind.u8) 84, AV.int (IntKind.u8) 246, AV.int (IntKind.u8) 36, AV.int (IntKind.u8) 68, AV.int (IntKind.u8) 64, AV.int (IntKind.u8) 100, AV.int (IntKind.u8) 17, AV.int (IntKind.u8) 196, AV.int (IntKind.u8) 30, AV.int (IntKind.u8) 119, AV.int (IntKind.u8) 15, AV.int (IntKind.u8) 239, AV.int (IntKind.u8) 248, AV.int (IntKind.u8) 18, AV.int (IntKind.u8) 216, AV.int (IntKind.u8) 104, AV.int (IntKind.u8) 81, AV.int (IntKind.u8) 60, AV.int (IntKind.u8) 97, AV.int (IntKind.u8) 135, AV.int (IntKind.u8) 230, AV.int (IntKind.u8) 166, AV.int (IntKind.u8) 234, AV.int (IntKind.u8) 33, AV.int (IntKind.u8) 124, AV.int (IntKind.u8) 248, AV.int (IntKind.u8) 179, AV.int (IntKind.u32) 2, AV.int (IntKind.i64) 3, AV.int (IntKind.i64) 12, AV.ptr 11 0, AV.ptr 12 0, AV.bool false] 31 (Tl.exact)), (8, AObj.cells [AV.sl 13 0 35 35 false 1] 49 (Tl.more)), (9, AObj.cells [AV.ptr 14 0, AV.int (IntKind.i64) 3, AV.int (IntKind.i64) 12, AV.map 15] 251 (Tl.exact)), (10, AObj.cells [AV.int (IntKind.u32) 0, AV.map 16] 256 (Tl.exact)), (11, AObj.cells [AV.ptr 17 0, AV.int (IntKind.i64) 3, AV.int (IntKind.i64) 12, AV.map 18] 251 (Tl.exact)), (12, AObj.cells [AV.int (IntKind.u32) 2, AV.map 19] 256 (Tl.exact)), (13, AObj.ints (IntKind.u8) [4, 0, 0, 0, 7, 0, 0, 0, 1, 0, 0, 0, 0, 0, 0, 0, 2, 0, 0, 0, 0, 0, 0, 167, 173, 5, 145, 223, 79, 255, 148, 232, 94, 24, 2] 5 (Tl.more)), (14, AObj.ints (IntKind.u32) [2, 2] 275 (Tl.exact)), (15, AObj.map [(AV.int (IntKind.u32) 0, AV.agg [AV.int (IntKind.u32) 0, AV.sl 20 0 1 1 false 1, AV.int (IntKind.i64) 1, AV.int (IntKind.i64) 3]), (AV.int (IntKind.u32) 1, AV.agg [AV.int (IntKind.u32) 1, AV.sl 21 0 1 1 false 1, AV.int (IntKind.i64) 1, AV.int (IntKind.i64) 3])]), (16, AObj.map []), (17, AObj.ints (IntKind.u32) [0, 2] 275 (Tl.exact)), (18, AObj.map []), (19, AObj.map []), (20, AObj.ints (IntKind.u8) [49] 5 (Tl.more)), (21, AObj.ints (IntKind.u8) [50] 5 (Tl.more))]
noncomputable def e3_3 : T AV := ofL l3_3
noncomputable def s3_3 : AH := ⟨22, ofM m3_3⟩
theorem n3_3_ok : okN o3_3 22 l3_3 m3_3 = true := by kernel_rfl
noncomputable def e3_0 : T AV := envOf [] 0 .leaf
noncomputable def s3_0 : AH := hL memG
noncomputable def c3_0 : ACode := c3
noncomputable def c3_1 : ACode := aD 10 c3_0
noncomputable def c3_2 : ACode := aD 2 c3_1
noncomputable def c3_3 : ACode := aD 3 c3_2
theorem f3_0 : noFor 10 c3_0 = true := by kernel_rfl
theorem f3_1 : noFor 2 c3_1 = true := by kernel_rfl
theorem f3_2 : noFor 3 c3_2 = true := by kernel_rfl
end Go.Proofs.YtjgmpdklfcmelaaGreatDoor.V2
namespace Go.Proofs.YtjgmpdklfcmelaaGreatDoor.V2
open Go
open Go.RowKit
noncomputable def r3_0 : RR := run std Γu 6 1000 (aT 10 c3_0) e3_0 s3_0
theorem t3_0 : told r3_0 o3_1 l3_1 m3_1 = want o3_1 l3_1 m3_1 := by kernel_rfl
end Go.Proofs.YtjgmpdklfcmelaaGreatDoor.V2
namespace Go.Proofs.YtjgmpdklfcmelaaGreatDoor.V2
open Go
open Go.RowKit
noncomputable def r3_1 : RR := run std Γu 6 1000 (aT 2 c3_1) e3_1 s3_1
theorem t3_1 : told r3_1 o3_2 l3_2 m3_2 = want o3_2 l3_2 m3_2 := by kernel_rfl
end Go.Proofs.YtjgmpdklfcmelaaGreatDoor.V2
namespace Go.Proofs.YtjgmpdklfcmelaaGreatDoor.V2
open Go
open Go.RowKit
noncomputable def r3_2 : RR := run std Γu 6 1000 (aT 3 c3_2) e3_2 s3_2
theorem t3_2 : told r3_2 o3_3 l3_3 m3_3 = want o3_3 l3_3 m3_3 := by kernel_rfl
end Go.Proofs.YtjgmpdklfcmelaaGreatDoor.V2
namespace Go.Proofs.YtjgmpdklfcmelaaGreatDoor.V2
open Go
open Go.RowKit
noncomputable def r3_3 : RR := run std Γu 6 1000 c3_3 e3_3 s3_3
theorem t3_3 : (r3_3.kind, resL std r3_3.env r3_3.mem [.tmp 0]) = (2, (true, [.bool true])) := by kernel_rfl
end Go.Proofs.YtjgmpdklfcmelaaGreatDoor.V2
namespace Go.Proofs.YtjgmpdklfcmelaaGreatDoor.V2
open Go
open Go.RowKit
theorem known_any (w : World) (hG : GlobR w) : Calls Tryz.prog 3 #[] w fun e w' => e = .returned (.bool true) ∧ Below w.heap.size w w' := by
  have hr0 := hrG hG
  refine (calls_of_aq (G := 6) (σ := hL memG) (ρ := rG) (xs := [.tmp 0]) (vs := []) (K := fun av _ => av = .bool true) Tryz.func3 body3 (Prod.mk.inj comp3).2 ?_).mono fun e W' ⟨v, av, σ', ρ', e1, e2, e3, e4, e5⟩ => ?_
  rotate_left
  · subst e1 e2
    unfold VR at e5
    exact ⟨by rw [e5], Below.ofStp (by show 6 ≤ _; omega) hr0 memG_ro e4⟩
  have st : Start [] 6 w.heap.size rG (hL memG) w := ⟨Nat.le_refl _, (fun y hy => absurd hy List.not_mem_nil), (fun y hy => absurd hy List.not_mem_nil), hr0⟩
  have main : Good Tryz.prog 6 Tryz.f3.ntmps 6 w.heap.size rG (hL memG) w (AQ 6 Tryz.f3.ntmps 6 w.heap.size rG (hL memG) w (fun e env σ' => (match e with | .normal => True | .ret => True | _ => False) ∧ (resL std env σ' [.tmp 0]).1 = true ∧ retV (resL std env σ' [.tmp 0]).2 = .bool true)) e3_0 s3_0 (Tryz.f3.body.getD .skip) :=
    Good.piece st mixed gamu_ok hpu0 (m := 10) (c' := c3_0) (r := r3_0) f3_0 (Prod.mk.inj comp3).1 rfl n3_1_ok t3_0 fun hc1 =>
    Good.piece st mixed gamu_ok hpu0 (m := 2) (c' := c3_1) (r := r3_1) f3_1 hc1 rfl n3_2_ok t3_1 fun hc2 =>
    Good.piece st mixed gamu_ok hpu0 (m := 3) (c' := c3_2) (r := r3_2) f3_2 hc2 rfl n3_3_ok t3_2 fun hc3 =>
    Good.end (c' := c3_3) (env1 := r3_3.env) (σ1 := r3_3.mem) st mixed gamu_ok hpu0 hc3 (RR.ret (r := r3_3) (Prod.mk.inj t3_3).1) (by
      have h2 := (Prod.mk.inj t3_3).2
      rw [h2]; exact ⟨trivial, rfl, rfl⟩)
  exact main rG w _ hr0 ⟨by decide +kernel, by simp, rG_glob, fun t v ht => by cases ht⟩ (Stp.refl (Nat.le_refl _)) ⟨trivial, fun r hr => by cases hr⟩
end Go.Proofs.YtjgmpdklfcmelaaGreatDoor.V2
