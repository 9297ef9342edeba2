/- Closed values of the hash, by the kernel. -/
import Derived.Test.YtjkicmlelilcaaaDoorW9
namespace Go.Proofs.YtjkicmlelilcaaaDoor
set_option maxRecDepth 100000 in
theorem sha_abc : shaB [97, 98, 99] = [186, 120, 22, 191, 143, 1, 207, 234, 65, 65, 64, 222, 93, 174, 34, 35, 176, 3, 97, 163, 150, 23, 122, 156, 180, 16, 255, 97, 242, 0, 21, 173] := by decide +kernel
def jefe : List UInt8 := [74, 101, 102, 101]
def whatA : List UInt8 := [119, 104, 97, 116, 32, 100, 111, 32, 121, 97, 32, 119, 97, 110, 116, 32]
def whatB : List UInt8 := [102, 111, 114, 32, 110, 111, 116, 104, 105, 110, 103, 63]
set_option maxRecDepth 100000 in
theorem hm_jefe : hmB jefe (whatA ++ whatB) = [0x5b, 0xdc, 0xc1, 0x46, 0xbf, 0x60, 0x75, 0x4e, 0x6a, 0x04, 0x24, 0x26, 0x08, 0x95, 0x75, 0xc7, 0x5a, 0x00, 0x3f, 0x08, 0x9d, 0x27, 0x39, 0x83, 0x9d, 0xec, 0x58, 0xb9, 0x64, 0xec, 0x38, 0x43] := by decide +kernel
end Go.Proofs.YtjkicmlelilcaaaDoor
