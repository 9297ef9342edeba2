/- Part 11 of the proof: texts of the proof. -/
import Derived.Test.YtjgmpdklfcmelaaGreatDoorQM10
import Derived.Laws.Externs
import Derived.MapKept
import Derived.Test.YtjgmpdklfcmelaaGreatDoorCards
import Derived.Test.YtjgmpdklfcmelaaGreatDoorTie
import Derived.LaidMore
import Derived.ProofKit
import Derived.OpenShut
import Derived.Carry
import Derived.Deep.DeepHandedRow
import Derived.Deep.Matrix
import Derived.Lib.LaidTab
import Derived.Stop.LaidErr
namespace Go.Proofs.YtjgmpdklfcmelaaGreatDoor.V2
open Go
open Go.RowKit
def jk0 : List UInt8 := [115]
def jk1 : List UInt8 := [166, 82, 83, 143, 10, 84, 246, 36, 68, 64, 100, 17, 196, 30, 119, 15, 239, 248, 18, 216, 104, 81, 60, 97, 135, 230, 166, 234, 33, 124, 248, 179]
def jk2 : List UInt8 := [150, 220, 33, 215, 12, 226, 121, 95, 109, 246, 244, 68, 189, 205, 96, 43, 73, 17, 76, 222, 123, 224, 1, 49, 220, 136, 46, 130, 54, 16, 219, 115]
def jm0 : List UInt8 := [0, 1, 97]
set_option maxRecDepth 100000 in
theorem jmac_0 : hmB jk0 jm0 = [166, 82, 83, 143, 10, 84, 246, 36, 68, 64, 100, 17, 196, 30, 119, 15, 239, 248, 18, 216, 104, 81, 60, 97, 135, 230, 166, 234, 33, 124, 248, 179] := by decide +kernel
def jm1 : List UInt8 := [0, 1, 98]
set_option maxRecDepth 100000 in
theorem jmac_1 : hmB jk0 jm1 = [150, 220, 33, 215, 12, 226, 121, 95, 109, 246, 244, 68, 189, 205, 96, 43, 73, 17, 76, 222, 123, 224, 1, 49, 220, 136, 46, 130, 54, 16, 219, 115] := by decide +kernel
def jm2 : List UInt8 := [3, 0, 0, 0, 7, 0, 0, 0, 1, 0, 0, 0, 0, 0, 0, 0, 0, 0, 0, 0, 0, 1, 0, 1, 0, 0, 0, 0, 0, 0, 0, 0, 0, 0, 0, 0, 0, 0, 0, 0, 0, 0, 0, 0, 0, 0, 0, 0, 0, 0, 0, 0, 0, 0, 0, 0, 0, 0, 0, 0, 0, 0, 0, 0, 0, 0, 0, 0, 0, 0, 0, 0, 0, 0, 0, 0, 0, 0, 0, 0, 0, 0, 0, 0, 0, 0, 0, 0, 0, 0, 0, 0, 0, 0, 0, 0, 0, 0, 0, 0, 0, 0, 0, 0, 0, 0, 0, 0, 0, 0, 0, 0, 0, 0, 0, 0, 0, 0, 0, 0, 0, 0, 0, 0, 0, 0, 0, 0, 0, 0, 0, 0, 0, 0, 0, 0, 0, 0, 0, 0, 0, 0, 0, 0, 0, 0, 0, 0, 0, 0, 0, 0, 0, 0, 0, 0, 0, 0, 0, 0, 0, 0, 0, 0, 0, 0, 0, 0, 0, 0, 0, 0, 0, 0, 0, 0, 0, 0, 0, 0, 0, 0, 0, 0, 0, 0, 0, 0, 0, 0, 0, 0, 0, 0, 0, 0, 0, 0, 0, 0, 0, 0, 0, 0, 0, 0, 0, 0, 0, 0, 0, 0, 0, 0, 0, 0, 0, 0, 0, 0, 0, 0, 0, 0, 0, 0, 0, 0, 0, 0, 0, 0, 0, 0, 0, 0, 0, 0, 0, 0, 0, 0, 0, 0, 0, 0, 0, 0, 0, 0, 0, 0, 0, 0, 0, 0, 0, 0, 0, 0, 0, 0, 0, 0, 0, 0, 0, 0, 0, 0, 0, 0, 0, 0, 0, 0, 0, 0, 0]
set_option maxRecDepth 100000 in
theorem jmac_2 : hmB jk1 jm2 = [16, 255, 28, 252, 221, 222, 35, 58, 231, 180, 6, 87, 115, 87, 0, 245, 11, 211, 73, 174, 228, 130, 27, 18, 137, 215, 62, 244, 25, 36, 222, 185] := by decide +kernel
def jm3 : List UInt8 := [3, 0, 0, 0, 7, 0, 0, 0, 1, 0, 0, 0, 1, 0, 0, 0, 0, 0, 0, 0, 0, 1, 0, 1, 0, 0, 0, 0, 0, 0, 0, 0, 0, 0, 0, 0, 0, 0, 0, 0, 0, 0, 0, 0, 0, 0, 0, 0, 0, 0, 0, 0, 0, 0, 0, 0, 0, 0, 0, 0, 0, 0, 0, 0, 0, 0, 0, 0, 0, 0, 0, 0, 0, 0, 0, 0, 0, 0, 0, 0, 0, 0, 0, 0, 0, 0, 0, 0, 0, 0, 0, 0, 0, 0, 0, 0, 0, 0, 0, 0, 0, 0, 0, 0, 0, 0, 0, 0, 0, 0, 0, 0, 0, 0, 0, 0, 0, 0, 0, 0, 0, 0, 0, 0, 0, 0, 0, 0, 0, 0, 0, 0, 0, 0, 0, 0, 0, 0, 0, 0, 0, 0, 0, 0, 0, 0, 0, 0, 0, 0, 0, 0, 0, 0, 0, 0, 0, 0, 0, 0, 0, 0, 0, 0, 0, 0, 0, 0, 0, 0, 0, 0, 0, 0, 0, 0, 0, 0, 0, 0, 0, 0, 0, 0, 0, 0, 0, 0, 0, 0, 0, 0, 0, 0, 0, 0, 0, 0, 0, 0, 0, 0, 0, 0, 0, 0, 0, 0, 0, 0, 0, 0, 0, 0, 0, 0, 0, 0, 0, 0, 0, 0, 0, 0, 0, 0, 0, 0, 0, 0, 0, 0, 0, 0, 0, 0, 0, 0, 0, 0, 0, 0, 0, 0, 0, 0, 0, 0, 0, 0, 0, 0, 0, 0, 0, 0, 0, 0, 0, 0, 0, 0, 0, 0, 0, 0, 0, 0, 0, 0, 0, 0, 0, 0, 0, 0, 0, 0, 0]
set_option maxRecDepth 100000 in
theorem jmac_3 : hmB jk1 jm3 = [123, 56, 85, 17, 93, 148, 136, 117, 147, 170, 151, 30, 112, 226, 255, 12, 135, 159, 99, 202, 63, 255, 126, 87, 186, 162, 61, 79, 141, 250, 18, 183] := by decide +kernel
def jm4 : List UInt8 := [3, 0, 0, 0, 7, 0, 0, 0, 1, 0, 0, 0, 2, 0, 0, 0, 0, 0, 0, 0, 0, 1, 0, 1, 0, 0, 0, 0, 0, 0, 0, 0, 0, 0, 0, 0, 0, 0, 0, 0, 0, 0, 0, 0, 0, 0, 0, 0, 0, 0, 0, 0, 0, 0, 0, 0, 0, 0, 0, 0, 0, 0, 0, 0, 0, 0, 0, 0, 0, 0, 0, 0, 0, 0, 0, 0, 0, 0, 0, 0, 0, 0, 0, 0, 0, 0, 0, 0, 0, 0, 0, 0, 0, 0, 0, 0, 0, 0, 0, 0, 0, 0, 0, 0, 0, 0, 0, 0, 0, 0, 0, 0, 0, 0, 0, 0, 0, 0, 0, 0, 0, 0, 0, 0, 0, 0, 0, 0, 0, 0, 0, 0, 0, 0, 0, 0, 0, 0, 0, 0, 0, 0, 0, 0, 0, 0, 0, 0, 0, 0, 0, 0, 0, 0, 0, 0, 0, 0, 0, 0, 0, 0, 0, 0, 0, 0, 0, 0, 0, 0, 0, 0, 0, 0, 0, 0, 0, 0, 0, 0, 0, 0, 0, 0, 0, 0, 0, 0, 0, 0, 0, 0, 0, 0, 0, 0, 0, 0, 0, 0, 0, 0, 0, 0, 0, 0, 0, 0, 0, 0, 0, 0, 0, 0, 0, 0, 0, 0, 0, 0, 0, 0, 0, 0, 0, 0, 0, 0, 0, 0, 0, 0, 0, 0, 0, 0, 0, 0, 0, 0, 0, 0, 0, 0, 0, 0, 0, 0, 0, 0, 0, 0, 0, 0, 0, 0, 0, 0, 0, 0, 0, 0, 0, 0, 0, 0, 0, 0, 0, 0, 0, 0, 0, 0, 0, 0, 0, 0, 0]
set_option maxRecDepth 100000 in
theorem jmac_4 : hmB jk1 jm4 = [211, 180, 3, 242, 224, 41, 240, 250, 61, 134, 36, 154, 44, 57, 132, 146, 189, 33, 180, 1, 29, 140, 111, 216, 8, 92, 217, 121, 166, 157, 70, 210] := by decide +kernel
def jm5 : List UInt8 := [3, 0, 0, 0, 7, 0, 0, 0, 1, 0, 0, 0, 0, 0, 0, 0, 0, 0, 0, 0, 0, 0, 4, 0, 1, 108, 115]
set_option maxRecDepth 100000 in
theorem jmac_5 : hmB jk1 jm5 = [162, 185, 239, 83, 134, 20, 104, 93, 146, 5, 39, 25, 77, 221, 162, 4, 229, 185, 46, 10, 218, 180, 137, 101, 197, 83, 152, 239, 40, 78, 16, 234] := by decide +kernel
def jm6 : List UInt8 := [3, 0, 0, 0, 7, 0, 0, 0, 1, 0, 0, 0, 0, 0, 0, 0, 0, 0, 0, 0, 0, 1, 0, 0, 0, 0, 0, 0, 0, 0, 0, 0, 0, 0, 0, 0, 0, 0, 0, 0, 0, 0, 0, 0, 0, 0, 0, 0, 0, 0, 0, 0, 0, 0, 0, 0, 0, 0, 0, 0, 0, 0, 0, 0, 0, 0, 0, 0, 0, 0, 0, 0, 0, 0, 0, 0, 0, 0, 0, 0, 0, 0, 0, 0, 0, 0, 0, 0, 0, 0, 0, 0, 0, 0, 0, 0, 0, 0, 0, 0, 0, 0, 0, 0, 0, 0, 0, 0, 0, 0, 0, 0, 0, 0, 0, 0, 0, 0, 0, 0, 0, 0, 0, 0, 0, 0, 0, 0, 0, 0, 0, 0, 0, 0, 0, 0, 0, 0, 0, 0, 0, 0, 0, 0, 0, 0, 0, 0, 0, 0, 0, 0, 0, 0, 0, 0, 0, 0, 0, 0, 0, 0, 0, 0, 0, 0, 0, 0, 0, 0, 0, 0, 0, 0, 0, 0, 0, 0, 0, 0, 0, 0, 0, 0, 0, 0, 0, 0, 0, 0, 0, 0, 0, 0, 0, 0, 0, 0, 0, 0, 0, 0, 0, 0, 0, 0, 0, 0, 0, 0, 0, 0, 0, 0, 0, 0, 0, 0, 0, 0, 0, 0, 0, 0, 0, 0, 0, 0, 0, 0, 0, 0, 0, 0, 0, 0, 0, 0, 0, 0, 0, 0, 0, 0, 0, 0, 0, 0, 0, 0, 0, 0, 0, 0, 0, 0, 0, 0, 0, 0, 0, 0, 0, 0, 0, 0, 0, 0, 0, 0, 0, 0, 0, 0, 0, 0, 0, 0, 0]
set_option maxRecDepth 100000 in
theorem jmac_6 : hmB jk1 jm6 = [101, 23, 188, 189, 211, 115, 204, 131, 216, 152, 22, 82, 222, 219, 6, 125, 69, 19, 27, 206, 2, 244, 218, 241, 68, 33, 118, 254, 179, 141, 236, 228] := by decide +kernel
def jm7 : List UInt8 := [3, 0, 0, 0, 7, 0, 0, 0, 1, 0, 0, 0, 1, 0, 0, 0, 0, 0, 0, 0, 0, 0, 47, 0, 1, 0, 0, 0, 0, 0, 0, 0, 0, 0, 0, 0, 0, 0, 0, 0, 0, 0, 0, 0, 0, 0, 0, 0, 0, 0, 0, 0, 0, 0, 0, 0, 0, 0, 0, 0, 0, 0, 0, 0, 0, 0, 0, 0, 0, 0]
set_option maxRecDepth 100000 in
theorem jmac_7 : hmB jk1 jm7 = [156, 134, 215, 243, 133, 174, 102, 81, 197, 104, 3, 231, 177, 237, 26, 60, 47, 233, 14, 177, 13, 120, 194, 11, 234, 48, 149, 219, 194, 77, 236, 210] := by decide +kernel
def jm8 : List UInt8 := [3, 0, 0, 0, 7, 0, 0, 0, 1, 0, 0, 0, 0, 0, 0, 0, 2, 0, 0, 0, 0, 0, 10, 5, 0, 0, 0, 0, 0, 0, 0, 2, 88]
set_option maxRecDepth 100000 in
theorem jmac_8 : hmB jk2 jm8 = [45, 102, 23, 229, 233, 170, 217, 38, 215, 220, 179, 68, 32, 101, 15, 110, 244, 238, 230, 73, 76, 128, 203, 252, 209, 87, 207, 133, 255, 33, 218, 3] := by decide +kernel
def jmT (k l : List Int) : List Int := bif decide (l = bI jm0) && decide (k = bI jk0) then bI ([166, 82, 83, 143, 10, 84, 246, 36, 68, 64, 100, 17, 196, 30, 119, 15, 239, 248, 18, 216, 104, 81, 60, 97, 135, 230, 166, 234, 33, 124, 248, 179]) else bif decide (l = bI jm1) && decide (k = bI jk0) then bI ([150, 220, 33, 215, 12, 226, 121, 95, 109, 246, 244, 68, 189, 205, 96, 43, 73, 17, 76, 222, 123, 224, 1, 49, 220, 136, 46, 130, 54, 16, 219, 115]) else bif decide (l = bI jm2) && decide (k = bI jk1) then bI ([16, 255, 28, 252, 221, 222, 35, 58, 231, 180, 6, 87, 115, 87, 0, 245, 11, 211, 73, 174, 228, 130, 27, 18, 137, 215, 62, 244, 25, 36, 222, 185]) else bif decide (l = bI jm3) && decide (k = bI jk1) then bI ([123, 56, 85, 17, 93, 148, 136, 117, 147, 170, 151, 30, 112, 226, 255, 12, 135, 159, 99, 202, 63, 255, 126, 87, 186, 162, 61, 79, 141, 250, 18, 183]) else bif decide (l = bI jm4) && decide (k = bI jk1) then bI ([211, 180, 3, 242, 224, 41, 240, 250, 61, 134, 36, 154, 44, 57, 132, 146, 189, 33, 180, 1, 29, 140, 111, 216, 8, 92, 217, 121, 166, 157, 70, 210]) else bif decide (l = bI jm5) && decide (k = bI jk1) then bI ([162, 185, 239, 83, 134, 20, 104, 93, 146, 5, 39, 25, 77, 221, 162, 4, 229, 185, 46, 10, 218, 180, 137, 101, 197, 83, 152, 239, 40, 78, 16, 234]) else bif decide (l = bI jm6) && decide (k = bI jk1) then bI ([101, 23, 188, 189, 211, 115, 204, 131, 216, 152, 22, 82, 222, 219, 6, 125, 69, 19, 27, 206, 2, 244, 218, 241, 68, 33, 118, 254, 179, 141, 236, 228]) else bif decide (l = bI jm7) && decide (k = bI jk1) then bI ([156, 134, 215, 243, 133, 174, 102, 81, 197, 104, 3, 231, 177, 237, 26, 60, 47, 233, 14, 177, 13, 120, 194, 11, 234, 48, 149, 219, 194, 77, 236, 210]) else bif decide (l = bI jm8) && decide (k = bI jk2) then bI ([45, 102, 23, 229, 233, 170, 217, 38, 215, 220, 179, 68, 32, 101, 15, 110, 244, 238, 230, 73, 76, 128, 203, 252, 209, 87, 207, 133, 255, 33, 218, 3]) else []
theorem jmT_ok {k l : List Int} (h : jmT k l ≠ []) : jmT k l = hmI k l := by
  unfold jmT at h ⊢
  unfold hmI
  by_cases h0 : l = bI jm0 ∧ k = bI jk0
  · rw [decide_eq_true h0.1, decide_eq_true h0.2, Bool.and_true, cond_true, h0.1, h0.2, toBs_bI, toBs_bI, jmac_0]
  · have e0 : (decide (l = bI jm0) && decide (k = bI jk0)) = false := by rw [Bool.and_eq_false_iff, decide_eq_false_iff_not, decide_eq_false_iff_not]; exact Decidable.not_and_iff_or_not.1 h0
    rw [e0, cond_false] at h ⊢
    by_cases h1 : l = bI jm1 ∧ k = bI jk0
    · rw [decide_eq_true h1.1, decide_eq_true h1.2, Bool.and_true, cond_true, h1.1, h1.2, toBs_bI, toBs_bI, jmac_1]
    · have e1 : (decide (l = bI jm1) && decide (k = bI jk0)) = false := by rw [Bool.and_eq_false_iff, decide_eq_false_iff_not, decide_eq_false_iff_not]; exact Decidable.not_and_iff_or_not.1 h1
      rw [e1, cond_false] at h ⊢
      by_cases h2 : l = bI jm2 ∧ k = bI jk1
      · rw [decide_eq_true h2.1, decide_eq_true h2.2, Bool.and_true, cond_true, h2.1, h2.2, toBs_bI, toBs_bI, jmac_2]
      · have e2 : (decide (l = bI jm2) && decide (k = bI jk1)) = false := by rw [Bool.and_eq_false_iff, decide_eq_false_iff_not, decide_eq_false_iff_not]; exact Decidable.not_and_iff_or_not.1 h2
        rw [e2, cond_false] at h ⊢
        by_cases h3 : l = bI jm3 ∧ k = bI jk1
        · rw [decide_eq_true h3.1, decide_eq_true h3.2, Bool.and_true, cond_true, h3.1, h3.2, toBs_bI, toBs_bI, jmac_3]
        · have e3 : (decide (l = bI jm3) && decide (k = bI jk1)) = false := by rw [Bool.and_eq_false_iff, decide_eq_false_iff_not, decide_eq_false_iff_not]; exact Decidable.not_and_iff_or_not.1 h3
          rw [e3, cond_false] at h ⊢
          by_cases h4 : l = bI jm4 ∧ k = bI jk1
          · rw [decide_eq_true h4.1, decide_eq_true h4.2, Bool.and_true, cond_true, h4.1, h4.2, toBs_bI, toBs_bI, jmac_4]
          · have e4 : (decide (l = bI jm4) && decide (k = bI jk1)) = false := by rw [Bool.and_eq_false_iff, decide_eq_false_iff_not, decide_eq_false_iff_not]; exact Decidable.not_and_iff_or_not.1 h4
            rw [e4, cond_false] at h ⊢
            by_cases h5 : l = bI jm5 ∧ k = bI jk1
            · rw [decide_eq_true h5.1, decide_eq_true h5.2, Bool.and_true, cond_true, h5.1, h5.2, toBs_bI, toBs_bI, jmac_5]
            · have e5 : (decide (l = bI jm5) && decide (k = bI jk1)) = false := by rw [Bool.and_eq_false_iff, decide_eq_false_iff_not, decide_eq_false_iff_not]; exact Decidable.not_and_iff_or_not.1 h5
              rw [e5, cond_false] at h ⊢
              by_cases h6 : l = bI jm6 ∧ k = bI jk1
              · rw [decide_eq_true h6.1, decide_eq_true h6.2, Bool.and_true, cond_true, h6.1, h6.2, toBs_bI, toBs_bI, jmac_6]
              · have e6 : (decide (l = bI jm6) && decide (k = bI jk1)) = false := by rw [Bool.and_eq_false_iff, decide_eq_false_iff_not, decide_eq_false_iff_not]; exact Decidable.not_and_iff_or_not.1 h6
                rw [e6, cond_false] at h ⊢
                by_cases h7 : l = bI jm7 ∧ k = bI jk1
                · rw [decide_eq_true h7.1, decide_eq_true h7.2, Bool.and_true, cond_true, h7.1, h7.2, toBs_bI, toBs_bI, jmac_7]
                · have e7 : (decide (l = bI jm7) && decide (k = bI jk1)) = false := by rw [Bool.and_eq_false_iff, decide_eq_false_iff_not, decide_eq_false_iff_not]; exact Decidable.not_and_iff_or_not.1 h7
                  rw [e7, cond_false] at h ⊢
                  by_cases h8 : l = bI jm8 ∧ k = bI jk2
                  · rw [decide_eq_true h8.1, decide_eq_true h8.2, Bool.and_true, cond_true, h8.1, h8.2, toBs_bI, toBs_bI, jmac_8]
                  · have e8 : (decide (l = bI jm8) && decide (k = bI jk2)) = false := by rw [Bool.and_eq_false_iff, decide_eq_false_iff_not, decide_eq_false_iff_not]; exact Decidable.not_and_iff_or_not.1 h8
                    rw [e8, cond_false] at h ⊢
                    exact absurd rfl h
noncomputable def jF (f : FuncId) (args : List AV) (σ : AH) : Out :=
  bif Nat.beq f 157 then (match args with
    | [k, s] => match bytesA std byI σ k with
      | (ok1, kl) => match listA std byI σ s with
        | (ok, ps) => (ok1 && ok && Nat.ble kl.length 10000000000 && Nat.ble ps.length 1000000 && Nat.ble ps.flatten.length 10000000000 && globA σ 3 isS && globA σ 5 isK && !(jmT kl ps.flatten).isEmpty, .ints .u8 (jmT kl ps.flatten), σ)
    | _ => bad σ)
  else bad σ
theorem jF_ok {Y : List Yl} : FnOk Tryz.prog 6 jF Y := by
  have isS' : ∀ l, isS l = true → l = wI S0 := fun l h => by simpa [isS] using h
  have isK' : ∀ l, isK l = true → l = wI KK := fun l h => by simpa [isK] using h
  intro f args σ h
  unfold jF at h ⊢
  cases h14 : Nat.beq f 157
  case false => rw [h14] at h; cases h
  rw [h14] at h
  have e := Nat.eq_of_beq_eq_true h14
  subst e
  simp only [cond_true] at h ⊢
  split at h
  case h_2 => cases h
  rename_i k s
  refine ⟨⟨_, Tryz.func157, by kernel_rfl, by kernel_rfl⟩, fun ρ W vs _ hG hr hvs => ?_⟩
  obtain ⟨u, v, rfl, hu, hv⟩ := vrs_two hvs
  have hB := fun h => bytes_of hr hu h
  have hL := fun h => list_of hr hv h
  dsimp only at h ⊢
  generalize bytesA std byI σ k = q1 at h hB ⊢
  generalize listA std byI σ s = q at h hL ⊢
  obtain ⟨ok1, kl⟩ := q1
  obtain ⟨ok, ps⟩ := q
  simp only [Bool.and_eq_true, Nat.ble_eq] at h hB hL ⊢
  obtain ⟨⟨⟨⟨⟨⟨⟨h0, h1⟩, h2⟩, h2'⟩, h3⟩, h4⟩, h5⟩, h6⟩ := h
  obtain ⟨us, hP⟩ := hL h1
  have h7 : jmT kl ps.flatten ≠ [] := by
    intro e
    rw [e] at h6
    cases h6
  rw [jmT_ok h7]
  obtain ⟨s3, hs3⟩ := hG 5 (by decide)
  refine (hmac_any u v (toBs kl) us _ W (hB h0).1 (by rw [toBs_length]; exact h2) hP (by rw [List.length_map]; omega) (by rw [flatten_toBs, toBs_length]; omega) (glob_of hr isK' rfl (hG 5 (by decide)) h5) (glob_of hr isS' rfl (hG 3 (by decide)) h4) (hr.dom _ _ _ hs3).2.1).mono fun e W' ⟨e1, e2⟩ => ?_
  subst e1
  rw [flatten_toBs]
  exact ⟨_, ρ, rfl, hr.below e2, Stp.below (Nat.le_refl _) e2, vr_bytes _⟩
end Go.Proofs.YtjgmpdklfcmelaaGreatDoor.V2
namespace Go.Proofs.YtjgmpdklfcmelaaGreatDoor.V2
open Go
open Go.RowKit
theorem eqIn_map {Pr : Program} (w : World) (d : Nat) (t k e : TypeId) (p : Option Nat) (h : Pr.underlying t = some (.map k e)) :
    (Op.equalIn (d + 1) t (.map p) (.map none)).run Pr w = .ok p.isNone w := by
  cases p <;> simp [Op.equalIn, run_underlying h]
theorem eql_map {Pr : Program} (w : World) (t k e : TypeId) (p : Option Nat) (h : Pr.underlying t = some (.map k e)) :
    (binOp .eql t (.map p) (.map none)).run Pr w = .ok (.bool p.isNone) w := by
  simp only [binOp]
  simp [show Op.equal t (.map p) (.map none) = Op.equalIn (9999 + 1) t (.map p) (.map none) from rfl, eqIn_map w 9999 t k e p h]
theorem assert_map {Pr : Program} (w : World) (t xT k e : TypeId) (v : Value) (h : Pr.underlying t = some (.map k e)) : (Instr.typeAssert (.iface t v) xT t false).run Pr w = .ok v w := by
  simp [Instr.typeAssert, run_underlying h, go_sem, Result.andThen]
theorem clone_map {Pr : Program} (w : World) {r : Nat} {es : Array MapEntry} {clock : Nat} (t : TypeId) (hb : w.heap[r]? = some (.map es clock)) :
    (Extern.MapsClone.clone #[.iface t (.map (some r))]).run Pr w = .ok (.iface t (.map (some w.heap.size))) (w.alloc (.map es clock)) := by
  have e : Extern.MapsClone.clone #[.iface t (.map (some r))] = (getObj r >>= fun o => match o with
      | .map entries clock => (newObj (.map entries clock) >>= fun n => pure (.iface t (.map (some n))))
      | _ => stuck "maps.clone: a map expected") := rfl
  rw [e]
  simp [MapKept.run_getObj_map hb, Result.andThen, go_sem]
set_option maxRecDepth 100000 in
set_option maxHeartbeats 2000000 in
theorem clone174 (b : Nat) (es : Array MapEntry) (clock : Nat) (w : World) (hb : w.heap[b]? = some (.map es clock)) :
    Calls Tryz.prog 174 #[.map (some b)] w fun e w' => e = .returned (.map (some w.heap.size)) ∧ w' = w.alloc (.map es clock) := by
  have hq := fun w => eql_map (Pr := Tryz.prog) w 249 _ _ (some b) Tryz.underlying249
  go_enter Tryz.func174, Tryz.ntmps174
  go_wp2
  rw [run_callFunc_extern Tryz.func187 (by kernel_rfl) (by kernel_rfl) (by kernel_rfl) (e := Extern.MapsClone.clone) (by kernel_rfl), clone_map w 249 hb]
  simp only [Result.andThen]
  rw [Oper.upon_value]
  go_wp2
  rw [assert_map _ 249 _ _ _ _ Tryz.underlying249]
  simp only [Result.andThen]
  rw [Oper.upon_value]
  go_wp2
  go_ret
  exact ⟨rfl, rfl⟩
set_option maxRecDepth 100000 in
set_option maxHeartbeats 2000000 in
theorem clone175 (b : Nat) (es : Array MapEntry) (clock : Nat) (w : World) (hb : w.heap[b]? = some (.map es clock)) :
    Calls Tryz.prog 175 #[.map (some b)] w fun e w' => e = .returned (.map (some w.heap.size)) ∧ w' = w.alloc (.map es clock) := by
  have hq := fun w => eql_map (Pr := Tryz.prog) w 254 _ _ (some b) Tryz.underlying254
  go_enter Tryz.func175, Tryz.ntmps175
  go_wp2
  rw [run_callFunc_extern Tryz.func187 (by kernel_rfl) (by kernel_rfl) (by kernel_rfl) (e := Extern.MapsClone.clone) (by kernel_rfl), clone_map w 254 hb]
  simp only [Result.andThen]
  rw [Oper.upon_value]
  go_wp2
  rw [assert_map _ 254 _ _ _ _ Tryz.underlying254]
  simp only [Result.andThen]
  rw [Oper.upon_value]
  go_wp2
  go_ret
  exact ⟨rfl, rfl⟩
noncomputable def mcF (g : FuncId → List AV → AH → Out) (f : FuncId) (args : List AV) (σ : AH) : Out :=
  bif Nat.beq f 174 || Nat.beq f 175 then (match args with
    | [.map b] => match σ.get b with
      | some (.map l) => (Nat.blt σ.next 1000000, .map σ.next, σ.new (.map l))
      | _ => bad σ
    | _ => bad σ)
  else g f args σ
theorem mcF_ok {Y : List Yl} {g : FuncId → List AV → AH → Out} (hg : FnOk Tryz.prog 6 g Y) : FnOk Tryz.prog 6 (mcF g) Y := by
  intro f args σ h
  unfold mcF at h ⊢
  cases hf : Nat.beq f 174 || Nat.beq f 175
  case false => rw [hf] at h; rw [cond_false] at h ⊢; exact hg f args σ h
  rw [hf] at h
  simp only [cond_true] at h ⊢
  split at h
  case h_2 => cases h
  rename_i b
  split at h
  case h_2 => cases h
  rename_i l hl
  have hfn : (∃ fn, Tryz.prog.funcs[f]? = some fn ∧ fn.body.isSome = true ∧ (fn.name == "runtime.NumGoroutine") = false) ∧ ∀ (c : Nat) (es : Array MapEntry) (clock : Nat) (w : World), w.heap[c]? = some (.map es clock) → Calls Tryz.prog f #[.map (some c)] w fun e w' => e = .returned (.map (some w.heap.size)) ∧ w' = w.alloc (.map es clock) := by
    rw [Bool.or_eq_true] at hf
    rcases hf with hf | hf
    · have e := Nat.eq_of_beq_eq_true hf; subst e
      exact ⟨⟨_, Tryz.func174, by kernel_rfl, by kernel_rfl⟩, fun c es ck w hw => clone174 c es ck w hw⟩
    · have e := Nat.eq_of_beq_eq_true hf; subst e
      exact ⟨⟨_, Tryz.func175, by kernel_rfl, by kernel_rfl⟩, fun c es ck w hw => clone175 c es ck w hw⟩
  refine ⟨hfn.1, fun ρ W vs _ hG hr hvs => ?_⟩
  obtain ⟨v, m, rfl, hv, hm⟩ := hvs
  have hm : m = [] := hm
  subst hm
  unfold VR at hv
  obtain ⟨c, d, hb, rfl⟩ := hv
  obtain ⟨_, hc, ob, ho, hO⟩ := hr.dom b c d hb
  rw [hl] at ho
  cases ho
  obtain ⟨es, ck, hx, h1, h2, h3⟩ := hO.2 l rfl
  refine (hfn.2 c es ck W hx).mono fun e W' ⟨e1, e2⟩ => ?_
  subst e1 e2
  have hOR : OR ρ (0, 0) (.map l) (some (.map es ck)) := ⟨fun h => (by cases h), fun l' hl' => (by cases hl'; exact ⟨es, ck, rfl, h1, h2, h3⟩)⟩
  obtain ⟨ρ', g1, g2, g3, g4⟩ := hr.new (s := 0) h hOR
  refine ⟨_, ρ', rfl, g3, g4, ?_⟩
  unfold VR
  exact ⟨_, _, g1, rfl⟩
end Go.Proofs.YtjgmpdklfcmelaaGreatDoor.V2
namespace Go.Proofs.YtjgmpdklfcmelaaGreatDoor.V2
open Go
set_option linter.unusedVariables false
theorem hpu0' {Γ : Gam} : PuOk Γ (fun _ => false) := fun f h => by cases h
noncomputable def entsY : List (Nat × Ent) := [(72, en72), (80, en80), (142, en142), (159, en159), (160, en160), (161, en161), (169, en169), (170, en170), (229, en229), (230, en230), (231, en231), (232, en232), (236, en236), (248, en248), (261, en261), (262, en262), (264, en264), (281, en281), (288, en288), (294, en294), (315, en315)]
theorem entsY_ok : ∀ p ∈ entsY, EntOk p := by
  unfold entsY
  refine List.forall_mem_cons.2 ⟨eok72, ?_⟩
  refine List.forall_mem_cons.2 ⟨eok80, ?_⟩
  refine List.forall_mem_cons.2 ⟨eok142, ?_⟩
  refine List.forall_mem_cons.2 ⟨eok159, ?_⟩
  refine List.forall_mem_cons.2 ⟨eok160, ?_⟩
  refine List.forall_mem_cons.2 ⟨eok161, ?_⟩
  refine List.forall_mem_cons.2 ⟨eok169, ?_⟩
  refine List.forall_mem_cons.2 ⟨eok170, ?_⟩
  refine List.forall_mem_cons.2 ⟨eok229, ?_⟩
  refine List.forall_mem_cons.2 ⟨eok230, ?_⟩
  refine List.forall_mem_cons.2 ⟨eok231, ?_⟩
  refine List.forall_mem_cons.2 ⟨eok232, ?_⟩
  refine List.forall_mem_cons.2 ⟨eok236, ?_⟩
  refine List.forall_mem_cons.2 ⟨eok248, ?_⟩
  refine List.forall_mem_cons.2 ⟨eok261, ?_⟩
  refine List.forall_mem_cons.2 ⟨eok262, ?_⟩
  refine List.forall_mem_cons.2 ⟨eok264, ?_⟩
  refine List.forall_mem_cons.2 ⟨eok281, ?_⟩
  refine List.forall_mem_cons.2 ⟨eok288, ?_⟩
  refine List.forall_mem_cons.2 ⟨eok294, ?_⟩
  refine List.forall_mem_cons.2 ⟨eok315, ?_⟩
  exact fun p hp => absurd hp List.not_mem_nil
theorem entsY_lt : ∀ p ∈ entsY, Nat.blt p.1 1048576 = true := by
  unfold entsY
  refine List.forall_mem_cons.2 ⟨rfl, ?_⟩
  refine List.forall_mem_cons.2 ⟨rfl, ?_⟩
  refine List.forall_mem_cons.2 ⟨rfl, ?_⟩
  refine List.forall_mem_cons.2 ⟨rfl, ?_⟩
  refine List.forall_mem_cons.2 ⟨rfl, ?_⟩
  refine List.forall_mem_cons.2 ⟨rfl, ?_⟩
  refine List.forall_mem_cons.2 ⟨rfl, ?_⟩
  refine List.forall_mem_cons.2 ⟨rfl, ?_⟩
  refine List.forall_mem_cons.2 ⟨rfl, ?_⟩
  refine List.forall_mem_cons.2 ⟨rfl, ?_⟩
  refine List.forall_mem_cons.2 ⟨rfl, ?_⟩
  refine List.forall_mem_cons.2 ⟨rfl, ?_⟩
  refine List.forall_mem_cons.2 ⟨rfl, ?_⟩
  refine List.forall_mem_cons.2 ⟨rfl, ?_⟩
  refine List.forall_mem_cons.2 ⟨rfl, ?_⟩
  refine List.forall_mem_cons.2 ⟨rfl, ?_⟩
  refine List.forall_mem_cons.2 ⟨rfl, ?_⟩
  refine List.forall_mem_cons.2 ⟨rfl, ?_⟩
  refine List.forall_mem_cons.2 ⟨rfl, ?_⟩
  refine List.forall_mem_cons.2 ⟨rfl, ?_⟩
  refine List.forall_mem_cons.2 ⟨rfl, ?_⟩
  exact fun p hp => absurd hp List.not_mem_nil
noncomputable def tabY : T Ent := tabL entsY
theorem tabY_ok : TabOk Tryz.prog 6 (fun _ => false) tabY := fun f x h => by
  have hm := tabL_get entsY_lt f x h
  have he : EntOk (f, x) := entsY_ok (f, x) hm
  exact he
noncomputable def Γm (g : FuncId → List AV → AH → Out) : Gam := Gam.grow std 1000 tabY Sd (.of (mcF g)) 40
theorem gamm_ok {g : FuncId → List AV → AH → Out} (hg : FnOk Tryz.prog 6 g []) : GamOk Tryz.prog 6 (Γm g) [] := (grow_ok mixed tabY_ok Sd_ok (fun f h => by cases h) 40 (.of (mcF_ok hg)) hpu0').1
noncomputable def qF (g : FuncId → List AV → AH → Out) (f : FuncId) (args : List AV) (σ : AH) : Out := bif Nat.beq f 72 || Nat.beq f 80 then (Γm g).fn f args σ else mcF g f args σ
theorem qF_ok {g : FuncId → List AV → AH → Out} (hg : FnOk Tryz.prog 6 g []) : FnOk Tryz.prog 6 (qF g) [] := fun f args σ h => by
  unfold qF at h ⊢
  cases hf : Nat.beq f 72 || Nat.beq f 80 with
  | true => rw [hf] at h; exact (gamm_ok hg).fn f args σ h
  | false => rw [hf] at h; exact mcF_ok hg f args σ h
structure Qe where
  f : Nat
  en : Ent
  q : Phi → HF
structure QeOk (p : Qe) : Prop where
  ent : EntOk (p.f, p.en)
  ok : ∀ Φ Γ, PhiOk Φ Γ → HOk (p.q Φ) (runF std Γ 1000000 p.en)
  lt : p.f < 1048576
theorem qe_of {f nt np : Nat} {kp : List Nat} {en : Ent} {q : Phi → HF} (h : EntOk (f, en)) (hq : thrF 1000000 (drOf nt kp) np en = q) (hf : Nat.blt f 1048576 = true) : QeOk ⟨f, en, q⟩ := ⟨h, fun Φ Γ hΦ => by subst hq; exact thrF_ok _ _ en hΦ, by rw [Nat.blt_eq] at hf; exact hf⟩
noncomputable def tabE : List Qe → T Ent
  | [] => .leaf
  | p :: l => (tabE l).put p.f p.en
noncomputable def tabP : List Qe → T (Phi → HF)
  | [] => .leaf
  | p :: l => (tabP l).put p.f p.q
theorem tabE_get : ∀ {l : List Qe}, (∀ p ∈ l, QeOk p) → ∀ f, (∀ x, (tabE l).get f = some x → ∃ q, (tabP l).get f = some q ∧ (∀ Φ Γ, PhiOk Φ Γ → HOk (q Φ) (runF std Γ 1000000 x)) ∧ EntOk (f, x)) ∧ ((tabE l).get f = none → (tabP l).get f = none)
  | [], _, f => ⟨fun x h => (by cases h), fun _ => rfl⟩
  | p :: l, hl, f => by
    have hp := hl p List.mem_cons_self
    obtain ⟨i1, i2⟩ := tabE_get (fun q hq => hl q (List.mem_cons_of_mem _ hq)) f
    simp only [tabE, tabP, T.get_put _ _ _ _ hp.lt]
    by_cases h : f = p.f
    · rw [if_pos h, if_pos h]
      refine ⟨fun x hx => ?_, fun h => (by cases h)⟩
      cases hx
      subst h
      exact ⟨p.q, rfl, hp.ok, hp.ent⟩
    · rw [if_neg h, if_neg h]; exact ⟨i1, i2⟩
noncomputable def qeL : List Qe := [⟨7, eZ Tryz.f7, q7⟩, ⟨8, eZ Tryz.f8, q8⟩, ⟨9, eZ Tryz.f9, q9⟩, ⟨10, eZ Tryz.f10, q10⟩, ⟨11, eZ Tryz.f11, q11⟩, ⟨12, eZ Tryz.f12, q12⟩, ⟨13, eZ Tryz.f13, q13⟩, ⟨14, eZ Tryz.f14, q14⟩, ⟨15, eZ Tryz.f15, q15⟩, ⟨16, eZ Tryz.f16, q16⟩, ⟨68, eZ Tryz.f68, q68⟩, ⟨69, eZ Tryz.f69, q69⟩, ⟨70, eZ Tryz.f70, q70⟩, ⟨71, eZ Tryz.f71, q71⟩, ⟨73, eZ Tryz.f73, q73⟩, ⟨75, eZ Tryz.f75, q75⟩, ⟨76, eZ Tryz.f76, q76⟩, ⟨77, eZ Tryz.f77, q77⟩, ⟨78, eZ Tryz.f78, q78⟩, ⟨79, eZ Tryz.f79, q79⟩, ⟨81, eZ Tryz.f81, q81⟩, ⟨82, eZ Tryz.f82, q82⟩, ⟨85, eZ Tryz.f85, q85⟩, ⟨119, eZ Tryz.f119, q119⟩, ⟨120, eZ Tryz.f120, q120⟩, ⟨121, eZ Tryz.f121, q121⟩, ⟨142, eZ Tryz.f142, q142⟩, ⟨148, eZ Tryz.f148, q148⟩, ⟨149, eZ Tryz.f149, q149⟩, ⟨150, eZ Tryz.f150, q150⟩, ⟨151, eZ Tryz.f151, q151⟩, ⟨152, eZ Tryz.f152, q152⟩, ⟨153, eZ Tryz.f153, q153⟩, ⟨154, eZ Tryz.f154, q154⟩, ⟨155, eZ Tryz.f155, q155⟩, ⟨156, eZ Tryz.f156, q156⟩, ⟨158, eZ Tryz.f158, q158⟩, ⟨159, eZ Tryz.f159, q159⟩, ⟨160, eZ Tryz.f160, q160⟩, ⟨161, eZ Tryz.f161, q161⟩, ⟨162, eZ Tryz.f162, q162⟩, ⟨163, eZ Tryz.f163, q163⟩, ⟨164, eZ Tryz.f164, q164⟩, ⟨165, eZ Tryz.f165, q165⟩, ⟨166, eZ Tryz.f166, q166⟩, ⟨167, eZ Tryz.f167, q167⟩, ⟨169, eZ Tryz.f169, q169⟩, ⟨170, eZ Tryz.f170, q170⟩, ⟨171, eZ Tryz.f171, q171⟩, ⟨172, eZ Tryz.f172, q172⟩, ⟨173, eZ Tryz.f173, q173⟩, ⟨176, eZ Tryz.f176, q176⟩, ⟨198, eZ Tryz.f198, q198⟩, ⟨217, eZ Tryz.f217, q217⟩, ⟨218, eZ Tryz.f218, q218⟩, ⟨222, eZ Tryz.f222, q222⟩, ⟨223, eZ Tryz.f223, q223⟩, ⟨228, eZ Tryz.f228, q228⟩, ⟨229, eZ Tryz.f229, q229⟩, ⟨230, eZ Tryz.f230, q230⟩, ⟨231, eZ Tryz.f231, q231⟩, ⟨232, eZ Tryz.f232, q232⟩, ⟨233, eZ Tryz.f233, q233⟩, ⟨234, eZ Tryz.f234, q234⟩, ⟨236, eZ Tryz.f236, q236⟩, ⟨238, eZ Tryz.f238, q238⟩, ⟨239, eZ Tryz.f239, q239⟩, ⟨248, eZ Tryz.f248, q248⟩, ⟨253, eZ Tryz.f253, q253⟩, ⟨261, eZ Tryz.f261, q261⟩, ⟨262, eZ Tryz.f262, q262⟩, ⟨264, eZ Tryz.f264, q264⟩, ⟨281, eZ Tryz.f281, q281⟩, ⟨288, eZ Tryz.f288, q288⟩, ⟨294, eZ Tryz.f294, q294⟩, ⟨315, eZ Tryz.f315, q315⟩, ⟨343, eZ Tryz.f343, q343⟩, ⟨344, eZ Tryz.f344, q344⟩, ⟨34, eZ Tryz.f34, q34⟩, ⟨35, eZ Tryz.f35, q35⟩, ⟨36, eZ Tryz.f36, q36⟩, ⟨37, eZ Tryz.f37, q37⟩, ⟨38, eZ Tryz.f38, q38⟩, ⟨39, eZ Tryz.f39, q39⟩, ⟨40, eZ Tryz.f40, q40⟩, ⟨41, eZ Tryz.f41, q41⟩, ⟨42, eZ Tryz.f42, q42⟩, ⟨43, eZ Tryz.f43, q43⟩, ⟨44, eZ Tryz.f44, q44⟩, ⟨83, eZ Tryz.f83, q83⟩, ⟨84, eZ Tryz.f84, q84⟩, ⟨109, eZ Tryz.f109, q109⟩, ⟨110, eZ Tryz.f110, q110⟩, ⟨111, eZ Tryz.f111, q111⟩, ⟨112, eZ Tryz.f112, q112⟩, ⟨113, eZ Tryz.f113, q113⟩, ⟨114, eZ Tryz.f114, q114⟩, ⟨115, eZ Tryz.f115, q115⟩, ⟨116, eZ Tryz.f116, q116⟩, ⟨117, eZ Tryz.f117, q117⟩, ⟨118, eZ Tryz.f118, q118⟩, ⟨122, eZ Tryz.f122, q122⟩, ⟨123, eZ Tryz.f123, q123⟩, ⟨124, eZ Tryz.f124, q124⟩, ⟨125, eZ Tryz.f125, q125⟩, ⟨192, eZ Tryz.f192, q192⟩, ⟨193, eZ Tryz.f193, q193⟩, ⟨194, eZ Tryz.f194, q194⟩, ⟨195, eZ Tryz.f195, q195⟩, ⟨196, eZ Tryz.f196, q196⟩, ⟨197, eZ Tryz.f197, q197⟩, ⟨199, eZ Tryz.f199, q199⟩]
theorem qeL_ok : ∀ p ∈ qeL, QeOk p := by
  unfold qeL
  refine List.forall_mem_cons.2 ⟨qe_of (eokZ Tryz.func7 (by kernel_rfl)) q7_eq rfl, ?_⟩
  refine List.forall_mem_cons.2 ⟨qe_of (eokZ Tryz.func8 (by kernel_rfl)) q8_eq rfl, ?_⟩
  refine List.forall_mem_cons.2 ⟨qe_of (eokZ Tryz.func9 (by kernel_rfl)) q9_eq rfl, ?_⟩
  refine List.forall_mem_cons.2 ⟨qe_of (eokZ Tryz.func10 (by kernel_rfl)) q10_eq rfl, ?_⟩
  refine List.forall_mem_cons.2 ⟨qe_of (eokZ Tryz.func11 (by kernel_rfl)) q11_eq rfl, ?_⟩
  refine List.forall_mem_cons.2 ⟨qe_of (eokZ Tryz.func12 (by kernel_rfl)) q12_eq rfl, ?_⟩
  refine List.forall_mem_cons.2 ⟨qe_of (eokZ Tryz.func13 (by kernel_rfl)) q13_eq rfl, ?_⟩
  refine List.forall_mem_cons.2 ⟨qe_of (eokZ Tryz.func14 (by kernel_rfl)) q14_eq rfl, ?_⟩
  refine List.forall_mem_cons.2 ⟨qe_of (eokZ Tryz.func15 (by kernel_rfl)) q15_eq rfl, ?_⟩
  refine List.forall_mem_cons.2 ⟨qe_of (eokZ Tryz.func16 (by kernel_rfl)) q16_eq rfl, ?_⟩
  refine List.forall_mem_cons.2 ⟨qe_of (eokZ Tryz.func68 (by kernel_rfl)) q68_eq rfl, ?_⟩
  refine List.forall_mem_cons.2 ⟨qe_of (eokZ Tryz.func69 (by kernel_rfl)) q69_eq rfl, ?_⟩
  refine List.forall_mem_cons.2 ⟨qe_of (eokZ Tryz.func70 (by kernel_rfl)) q70_eq rfl, ?_⟩
  refine List.forall_mem_cons.2 ⟨qe_of (eokZ Tryz.func71 (by kernel_rfl)) q71_eq rfl, ?_⟩
  refine List.forall_mem_cons.2 ⟨qe_of (eokZ Tryz.func73 (by kernel_rfl)) q73_eq rfl, ?_⟩
  refine List.forall_mem_cons.2 ⟨qe_of (eokZ Tryz.func75 (by kernel_rfl)) q75_eq rfl, ?_⟩
  refine List.forall_mem_cons.2 ⟨qe_of (eokZ Tryz.func76 (by kernel_rfl)) q76_eq rfl, ?_⟩
  refine List.forall_mem_cons.2 ⟨qe_of (eokZ Tryz.func77 (by kernel_rfl)) q77_eq rfl, ?_⟩
  refine List.forall_mem_cons.2 ⟨qe_of (eokZ Tryz.func78 (by kernel_rfl)) q78_eq rfl, ?_⟩
  refine List.forall_mem_cons.2 ⟨qe_of (eokZ Tryz.func79 (by kernel_rfl)) q79_eq rfl, ?_⟩
  refine List.forall_mem_cons.2 ⟨qe_of (eokZ Tryz.func81 (by kernel_rfl)) q81_eq rfl, ?_⟩
  refine List.forall_mem_cons.2 ⟨qe_of (eokZ Tryz.func82 (by kernel_rfl)) q82_eq rfl, ?_⟩
  refine List.forall_mem_cons.2 ⟨qe_of (eokZ Tryz.func85 (by kernel_rfl)) q85_eq rfl, ?_⟩
  refine List.forall_mem_cons.2 ⟨qe_of (eokZ Tryz.func119 (by kernel_rfl)) q119_eq rfl, ?_⟩
  refine List.forall_mem_cons.2 ⟨qe_of (eokZ Tryz.func120 (by kernel_rfl)) q120_eq rfl, ?_⟩
  refine List.forall_mem_cons.2 ⟨qe_of (eokZ Tryz.func121 (by kernel_rfl)) q121_eq rfl, ?_⟩
  refine List.forall_mem_cons.2 ⟨qe_of (eokZ Tryz.func142 (by kernel_rfl)) q142_eq rfl, ?_⟩
  refine List.forall_mem_cons.2 ⟨qe_of (eokZ Tryz.func148 (by kernel_rfl)) q148_eq rfl, ?_⟩
  refine List.forall_mem_cons.2 ⟨qe_of (eokZ Tryz.func149 (by kernel_rfl)) q149_eq rfl, ?_⟩
  refine List.forall_mem_cons.2 ⟨qe_of (eokZ Tryz.func150 (by kernel_rfl)) q150_eq rfl, ?_⟩
  refine List.forall_mem_cons.2 ⟨qe_of (eokZ Tryz.func151 (by kernel_rfl)) q151_eq rfl, ?_⟩
  refine List.forall_mem_cons.2 ⟨qe_of (eokZ Tryz.func152 (by kernel_rfl)) q152_eq rfl, ?_⟩
  refine List.forall_mem_cons.2 ⟨qe_of (eokZ Tryz.func153 (by kernel_rfl)) q153_eq rfl, ?_⟩
  refine List.forall_mem_cons.2 ⟨qe_of (eokZ Tryz.func154 (by kernel_rfl)) q154_eq rfl, ?_⟩
  refine List.forall_mem_cons.2 ⟨qe_of (eokZ Tryz.func155 (by kernel_rfl)) q155_eq rfl, ?_⟩
  refine List.forall_mem_cons.2 ⟨qe_of (eokZ Tryz.func156 (by kernel_rfl)) q156_eq rfl, ?_⟩
  refine List.forall_mem_cons.2 ⟨qe_of (eokZ Tryz.func158 (by kernel_rfl)) q158_eq rfl, ?_⟩
  refine List.forall_mem_cons.2 ⟨qe_of (eokZ Tryz.func159 (by kernel_rfl)) q159_eq rfl, ?_⟩
  refine List.forall_mem_cons.2 ⟨qe_of (eokZ Tryz.func160 (by kernel_rfl)) q160_eq rfl, ?_⟩
  refine List.forall_mem_cons.2 ⟨qe_of (eokZ Tryz.func161 (by kernel_rfl)) q161_eq rfl, ?_⟩
  refine List.forall_mem_cons.2 ⟨qe_of (eokZ Tryz.func162 (by kernel_rfl)) q162_eq rfl, ?_⟩
  refine List.forall_mem_cons.2 ⟨qe_of (eokZ Tryz.func163 (by kernel_rfl)) q163_eq rfl, ?_⟩
  refine List.forall_mem_cons.2 ⟨qe_of (eokZ Tryz.func164 (by kernel_rfl)) q164_eq rfl, ?_⟩
  refine List.forall_mem_cons.2 ⟨qe_of (eokZ Tryz.func165 (by kernel_rfl)) q165_eq rfl, ?_⟩
  refine List.forall_mem_cons.2 ⟨qe_of (eokZ Tryz.func166 (by kernel_rfl)) q166_eq rfl, ?_⟩
  refine List.forall_mem_cons.2 ⟨qe_of (eokZ Tryz.func167 (by kernel_rfl)) q167_eq rfl, ?_⟩
  refine List.forall_mem_cons.2 ⟨qe_of (eokZ Tryz.func169 (by kernel_rfl)) q169_eq rfl, ?_⟩
  refine List.forall_mem_cons.2 ⟨qe_of (eokZ Tryz.func170 (by kernel_rfl)) q170_eq rfl, ?_⟩
  refine List.forall_mem_cons.2 ⟨qe_of (eokZ Tryz.func171 (by kernel_rfl)) q171_eq rfl, ?_⟩
  refine List.forall_mem_cons.2 ⟨qe_of (eokZ Tryz.func172 (by kernel_rfl)) q172_eq rfl, ?_⟩
  refine List.forall_mem_cons.2 ⟨qe_of (eokZ Tryz.func173 (by kernel_rfl)) q173_eq rfl, ?_⟩
  refine List.forall_mem_cons.2 ⟨qe_of (eokZ Tryz.func176 (by kernel_rfl)) q176_eq rfl, ?_⟩
  refine List.forall_mem_cons.2 ⟨qe_of (eokZ Tryz.func198 (by kernel_rfl)) q198_eq rfl, ?_⟩
  refine List.forall_mem_cons.2 ⟨qe_of (eokZ Tryz.func217 (by kernel_rfl)) q217_eq rfl, ?_⟩
  refine List.forall_mem_cons.2 ⟨qe_of (eokZ Tryz.func218 (by kernel_rfl)) q218_eq rfl, ?_⟩
  refine List.forall_mem_cons.2 ⟨qe_of (eokZ Tryz.func222 (by kernel_rfl)) q222_eq rfl, ?_⟩
  refine List.forall_mem_cons.2 ⟨qe_of (eokZ Tryz.func223 (by kernel_rfl)) q223_eq rfl, ?_⟩
  refine List.forall_mem_cons.2 ⟨qe_of (eokZ Tryz.func228 (by kernel_rfl)) q228_eq rfl, ?_⟩
  refine List.forall_mem_cons.2 ⟨qe_of (eokZ Tryz.func229 (by kernel_rfl)) q229_eq rfl, ?_⟩
  refine List.forall_mem_cons.2 ⟨qe_of (eokZ Tryz.func230 (by kernel_rfl)) q230_eq rfl, ?_⟩
  refine List.forall_mem_cons.2 ⟨qe_of (eokZ Tryz.func231 (by kernel_rfl)) q231_eq rfl, ?_⟩
  refine List.forall_mem_cons.2 ⟨qe_of (eokZ Tryz.func232 (by kernel_rfl)) q232_eq rfl, ?_⟩
  refine List.forall_mem_cons.2 ⟨qe_of (eokZ Tryz.func233 (by kernel_rfl)) q233_eq rfl, ?_⟩
  refine List.forall_mem_cons.2 ⟨qe_of (eokZ Tryz.func234 (by kernel_rfl)) q234_eq rfl, ?_⟩
  refine List.forall_mem_cons.2 ⟨qe_of (eokZ Tryz.func236 (by kernel_rfl)) q236_eq rfl, ?_⟩
  refine List.forall_mem_cons.2 ⟨qe_of (eokZ Tryz.func238 (by kernel_rfl)) q238_eq rfl, ?_⟩
  refine List.forall_mem_cons.2 ⟨qe_of (eokZ Tryz.func239 (by kernel_rfl)) q239_eq rfl, ?_⟩
  refine List.forall_mem_cons.2 ⟨qe_of (eokZ Tryz.func248 (by kernel_rfl)) q248_eq rfl, ?_⟩
  refine List.forall_mem_cons.2 ⟨qe_of (eokZ Tryz.func253 (by kernel_rfl)) q253_eq rfl, ?_⟩
  refine List.forall_mem_cons.2 ⟨qe_of (eokZ Tryz.func261 (by kernel_rfl)) q261_eq rfl, ?_⟩
  refine List.forall_mem_cons.2 ⟨qe_of (eokZ Tryz.func262 (by kernel_rfl)) q262_eq rfl, ?_⟩
  refine List.forall_mem_cons.2 ⟨qe_of (eokZ Tryz.func264 (by kernel_rfl)) q264_eq rfl, ?_⟩
  refine List.forall_mem_cons.2 ⟨qe_of (eokZ Tryz.func281 (by kernel_rfl)) q281_eq rfl, ?_⟩
  refine List.forall_mem_cons.2 ⟨qe_of (eokZ Tryz.func288 (by kernel_rfl)) q288_eq rfl, ?_⟩
  refine List.forall_mem_cons.2 ⟨qe_of (eokZ Tryz.func294 (by kernel_rfl)) q294_eq rfl, ?_⟩
  refine List.forall_mem_cons.2 ⟨qe_of (eokZ Tryz.func315 (by kernel_rfl)) q315_eq rfl, ?_⟩
  refine List.forall_mem_cons.2 ⟨qe_of (eokZ Tryz.func343 (by kernel_rfl)) q343_eq rfl, ?_⟩
  refine List.forall_mem_cons.2 ⟨qe_of (eokZ Tryz.func344 (by kernel_rfl)) q344_eq rfl, ?_⟩
  refine List.forall_mem_cons.2 ⟨qe_of (eokZ Tryz.func34 (by kernel_rfl)) q34_eq rfl, ?_⟩
  refine List.forall_mem_cons.2 ⟨qe_of (eokZ Tryz.func35 (by kernel_rfl)) q35_eq rfl, ?_⟩
  refine List.forall_mem_cons.2 ⟨qe_of (eokZ Tryz.func36 (by kernel_rfl)) q36_eq rfl, ?_⟩
  refine List.forall_mem_cons.2 ⟨qe_of (eokZ Tryz.func37 (by kernel_rfl)) q37_eq rfl, ?_⟩
  refine List.forall_mem_cons.2 ⟨qe_of (eokZ Tryz.func38 (by kernel_rfl)) q38_eq rfl, ?_⟩
  refine List.forall_mem_cons.2 ⟨qe_of (eokZ Tryz.func39 (by kernel_rfl)) q39_eq rfl, ?_⟩
  refine List.forall_mem_cons.2 ⟨qe_of (eokZ Tryz.func40 (by kernel_rfl)) q40_eq rfl, ?_⟩
  refine List.forall_mem_cons.2 ⟨qe_of (eokZ Tryz.func41 (by kernel_rfl)) q41_eq rfl, ?_⟩
  refine List.forall_mem_cons.2 ⟨qe_of (eokZ Tryz.func42 (by kernel_rfl)) q42_eq rfl, ?_⟩
  refine List.forall_mem_cons.2 ⟨qe_of (eokZ Tryz.func43 (by kernel_rfl)) q43_eq rfl, ?_⟩
  refine List.forall_mem_cons.2 ⟨qe_of (eokZ Tryz.func44 (by kernel_rfl)) q44_eq rfl, ?_⟩
  refine List.forall_mem_cons.2 ⟨qe_of (eokZ Tryz.func83 (by kernel_rfl)) q83_eq rfl, ?_⟩
  refine List.forall_mem_cons.2 ⟨qe_of (eokZ Tryz.func84 (by kernel_rfl)) q84_eq rfl, ?_⟩
  refine List.forall_mem_cons.2 ⟨qe_of (eokZ Tryz.func109 (by kernel_rfl)) q109_eq rfl, ?_⟩
  refine List.forall_mem_cons.2 ⟨qe_of (eokZ Tryz.func110 (by kernel_rfl)) q110_eq rfl, ?_⟩
  refine List.forall_mem_cons.2 ⟨qe_of (eokZ Tryz.func111 (by kernel_rfl)) q111_eq rfl, ?_⟩
  refine List.forall_mem_cons.2 ⟨qe_of (eokZ Tryz.func112 (by kernel_rfl)) q112_eq rfl, ?_⟩
  refine List.forall_mem_cons.2 ⟨qe_of (eokZ Tryz.func113 (by kernel_rfl)) q113_eq rfl, ?_⟩
  refine List.forall_mem_cons.2 ⟨qe_of (eokZ Tryz.func114 (by kernel_rfl)) q114_eq rfl, ?_⟩
  refine List.forall_mem_cons.2 ⟨qe_of (eokZ Tryz.func115 (by kernel_rfl)) q115_eq rfl, ?_⟩
  refine List.forall_mem_cons.2 ⟨qe_of (eokZ Tryz.func116 (by kernel_rfl)) q116_eq rfl, ?_⟩
  refine List.forall_mem_cons.2 ⟨qe_of (eokZ Tryz.func117 (by kernel_rfl)) q117_eq rfl, ?_⟩
  refine List.forall_mem_cons.2 ⟨qe_of (eokZ Tryz.func118 (by kernel_rfl)) q118_eq rfl, ?_⟩
  refine List.forall_mem_cons.2 ⟨qe_of (eokZ Tryz.func122 (by kernel_rfl)) q122_eq rfl, ?_⟩
  refine List.forall_mem_cons.2 ⟨qe_of (eokZ Tryz.func123 (by kernel_rfl)) q123_eq rfl, ?_⟩
  refine List.forall_mem_cons.2 ⟨qe_of (eokZ Tryz.func124 (by kernel_rfl)) q124_eq rfl, ?_⟩
  refine List.forall_mem_cons.2 ⟨qe_of (eokZ Tryz.func125 (by kernel_rfl)) q125_eq rfl, ?_⟩
  refine List.forall_mem_cons.2 ⟨qe_of (eokZ Tryz.func192 (by kernel_rfl)) q192_eq rfl, ?_⟩
  refine List.forall_mem_cons.2 ⟨qe_of (eokZ Tryz.func193 (by kernel_rfl)) q193_eq rfl, ?_⟩
  refine List.forall_mem_cons.2 ⟨qe_of (eokZ Tryz.func194 (by kernel_rfl)) q194_eq rfl, ?_⟩
  refine List.forall_mem_cons.2 ⟨qe_of (eokZ Tryz.func195 (by kernel_rfl)) q195_eq rfl, ?_⟩
  refine List.forall_mem_cons.2 ⟨qe_of (eokZ Tryz.func196 (by kernel_rfl)) q196_eq rfl, ?_⟩
  refine List.forall_mem_cons.2 ⟨qe_of (eokZ Tryz.func197 (by kernel_rfl)) q197_eq rfl, ?_⟩
  refine List.forall_mem_cons.2 ⟨qe_of (eokZ Tryz.func199 (by kernel_rfl)) q199_eq rfl, ?_⟩
  exact fun p hp => absurd hp List.not_mem_nil
noncomputable def tE : T Ent := tabE qeL
noncomputable def tQ : T (Phi → HF) := tabP qeL
theorem tQ_ok : TabQ 1000000 tE tQ := ⟨fun f => (tabE_get qeL_ok f).2, fun f x hx => by
  obtain ⟨q, h1, h2, _⟩ := (tabE_get qeL_ok f).1 x hx
  exact ⟨q, h1, h2⟩⟩
theorem tE_ok : TabOk Tryz.prog 6 (fun _ => false) tE := fun f x h => by
  obtain ⟨_, _, _, h3⟩ := (tabE_get qeL_ok f).1 x h
  exact h3
noncomputable def Γq (g : FuncId → List AV → AH → Out) : Gam := Gam.grow std 1000000 tE Sp.none (.of (qF g)) 40
theorem gamq_ok {g : FuncId → List AV → AH → Out} (hg : FnOk Tryz.prog 6 g []) : GamOk Tryz.prog 6 (Γq g) [] := (grow_ok mixed tE_ok Sp.none_ok (fun f h => by cases h) 40 (.of (qF_ok hg)) hpu0').1
noncomputable def clQ (l : List FV) (σ : FH) (k : KV) : FR := k1L l fun x => kM (fun b => gM σ b (kMp fun m => nM σ (.map m) fun b σ => k (.m b) σ)) x
theorem clQ_sm (g : FuncId → List AV → AH → Out) {f : FuncId} (hf : (Nat.beq f 174 || Nat.beq f 175) = true) (l : List FV) (σ : FH) (k : KV) : Sm (clQ l σ k) k (mcF g f (αL l) (αH σ)) := by
  intro h
  unfold clQ at h ⊢
  obtain ⟨x, rfl, h1⟩ := k1L_cases h
  rw [h1] at h ⊢
  obtain ⟨b, rfl, h2⟩ := kM_cases h
  rw [h2] at h ⊢
  obtain ⟨ob, _, h3, h4⟩ := gM_cases h
  rw [h4] at h ⊢
  obtain ⟨m, rfl, h5⟩ := kMp_cases h
  rw [h5] at h ⊢
  obtain ⟨h6, σ', h7, h8⟩ := nM_cases h
  rw [h8]
  refine ⟨.m σ.next, σ', ?_, rfl⟩
  unfold mcF
  rw [hf]
  simp only [cond_true, αL, αV, h3, αO]
  rw [h6, h7]; rfl
noncomputable def bQ (g : FuncId → List AV → AH → Out) : FuncId → HF := fun f l σ k => Bool.rec (Bool.rec (slV ((g f (αL l) (αH σ)).1, (g f (αL l) (αH σ)).2.1) fun v => k v σ) (clQ l σ k) (Nat.beq f 174 || Nat.beq f 175)) (slM ((Γm g).fn f (αL l) (αH σ)) k) (Nat.beq f 72 || Nat.beq f 80)
theorem bQ_ok {g : FuncId → List AV → AH → Out} (hg : ∀ f args σ, (g f args σ).2.2 = σ) (f : FuncId) : HOk (bQ g f) ((Gam.of (qF g)).fn f) := fun l σ k => by
  show Sm (Bool.rec (Bool.rec (slV ((g f (αL l) (αH σ)).1, (g f (αL l) (αH σ)).2.1) fun v => k v σ) (clQ l σ k) (Nat.beq f 174 || Nat.beq f 175)) (slM ((Γm g).fn f (αL l) (αH σ)) k) (Nat.beq f 72 || Nat.beq f 80)) k (bif Nat.beq f 72 || Nat.beq f 80 then (Γm g).fn f (αL l) (αH σ) else mcF g f (αL l) (αH σ))
  cases h1 : Nat.beq f 72 || Nat.beq f 80 with
  | true => exact slM_sm _ _
  | false =>
    cases h2 : Nat.beq f 174 || Nat.beq f 175 with
    | true => exact clQ_sm g h2 l σ k
    | false =>
      show Sm (slV ((g f (αL l) (αH σ)).1, (g f (αL l) (αH σ)).2.1) fun v => k v σ) k (mcF g f (αL l) (αH σ))
      have e : mcF g f (αL l) (αH σ) = ((g f (αL l) (αH σ)).1, (g f (αL l) (αH σ)).2.1, αH σ) := by
        unfold mcF
        rw [h2, cond_false]
        have := hg f (αL l) (αH σ)
        generalize g f (αL l) (αH σ) = r at this
        obtain ⟨a, b, c⟩ := r
        cases this; rfl
      rw [e]
      exact Sm.ofv (slV_sv _ _)
theorem jF_mem (f : FuncId) (args : List AV) (σ : AH) : (jF f args σ).2.2 = σ := by
  unfold jF
  cases Nat.beq f 157
  · rfl
  · simp only [cond_true]
    split
    · rfl
    · rfl
end Go.Proofs.YtjgmpdklfcmelaaGreatDoor.V2
namespace Go.Proofs.YtjgmpdklfcmelaaGreatDoor.V2
open Go
set_option linter.unusedVariables false
noncomputable def c45 : ACode := (.seq (.reg [⟨(.aop (.mov (.lit (.bool false)))), (some 0), none⟩]) (.seq (.reg [⟨(.call (.lit (.fn (.func 44) [] [])) [(.lit (.int .i64 (300)))]), (some 14), none⟩, ⟨(.aop (.mov (.slot 14))), (some 13), none⟩, ⟨(.aop (.extract (.slot 13) 0)), (some 15), none⟩, ⟨(.aop (.extract (.slot 13) 1)), (some 16), none⟩, ⟨(.aop (.mov (.slot 15))), (some 1), none⟩, ⟨(.aop (.mov (.slot 16))), (some 2), none⟩]) (.seq (.seq (.reg [⟨(.aop (.mov (.slot 1))), (some 17), none⟩, ⟨(.aop (.pur (.eqv false .ptr) [(.slot 17), (.lit .nilptr)])), (some 18), none⟩, ⟨(.aop (.mov (.slot 18))), (some 19), none⟩, ⟨(.aop (.mov (.slot 1))), (some 20), (some ((.slot 19), false))⟩, ⟨(.aop (.mk (.makeSl 5 1 [(.int .u8 (0))]) [(.lit (.int .i64 (299))), (.lit (.int .i64 (299)))])), (some 21), (some ((.slot 19), false))⟩, ⟨(.aop (.pur (.build [(.int .i64 (0)), .nilsl] [(0, 1), (1, 1)]) [(.lit (.int .i64 (0))), (.slot 21)])), (some 22), (some ((.slot 19), false))⟩, ⟨(.call (.lit (.fn (.func 36) [] [])) [(.slot 20), (.slot 22)]), (some 23), (some ((.slot 19), false))⟩, ⟨(.aop (.bin .neq (.slot 23) (.lit (.int .i64 (0))))), (some 24), (some ((.slot 19), false))⟩, ⟨(.aop (.pick (.slot 19) (.lit (.bool true)) (.slot 24))), (some 25), none⟩, ⟨(.aop (.mov (.slot 25))), (some 26), none⟩, ⟨(.aop (.mov (.slot 1))), (some 27), (some ((.slot 26), false))⟩, ⟨(.call (.lit (.fn (.func 41) [] [])) [(.slot 27)]), (some 28), (some ((.slot 26), false))⟩, ⟨(.aop (.bin .neq (.slot 28) (.lit (.int .i64 (2))))), (some 29), (some ((.slot 26), false))⟩, ⟨(.aop (.pick (.slot 26) (.lit (.bool true)) (.slot 29))), (some 30), none⟩, ⟨(.aop (.mov (.slot 30))), (some 31), none⟩, ⟨(.aop (.mov (.slot 1))), (some 32), (some ((.slot 31), false))⟩, ⟨(.aop (.pur (.build [(.int .i64 (0)), .nilsl] []) [])), (some 33), (some ((.slot 31), false))⟩, ⟨(.call (.lit (.fn (.func 36) [] [])) [(.slot 32), (.slot 33)]), (some 34), (some ((.slot 31), false))⟩, ⟨(.aop (.bin .neq (.slot 34) (.lit (.int .i64 (8))))), (some 35), (some ((.slot 31), false))⟩, ⟨(.aop (.pick (.slot 31) (.lit (.bool true)) (.slot 35))), (some 36), none⟩]) (.cond (.slot 36) (.seq (.reg [⟨(.aop (.mov (.lit (.bool false)))), (some 0), none⟩]) .ret) .skip)) (.seq (.reg [⟨(.aop (.mov (.slot 1))), (some 38), none⟩, ⟨(.call (.lit (.fn (.func 34) [] [])) [(.slot 38), (.lit (.int .i64 (0)))]), (some 39), none⟩, ⟨(.aop (.mov (.slot 39))), (some 37), none⟩, ⟨(.aop (.extract (.slot 37) 0)), (some 40), none⟩, ⟨(.aop (.extract (.slot 37) 1)), (some 41), none⟩, ⟨(.aop (.mov (.slot 40))), (some 3), none⟩, ⟨(.aop (.mov (.slot 41))), (some 4), none⟩]) (.seq (.reg [⟨(.aop (.mov (.lit (.int .i64 (0))))), (some 5), none⟩]) (.seq (.seq (.reg [⟨(.aop (.mov (.lit (.int .i64 (0))))), (some 6), none⟩]) (.block 0 (.loop (.seq (.seq (.reg [⟨(.aop (.mov (.slot 6))), (some 42), none⟩, ⟨(.aop (.mov (.slot 3))), (some 43), none⟩, ⟨(.aop (.lenSl (.slot 43))), (some 44), none⟩, ⟨(.aop (.bin .lss (.slot 42) (.slot 44))), (some 45), none⟩]) (.cond (.slot 45) .skip (.exit 0))) (.seq (.block 1 (.seq (.reg [⟨(.aop (.mov (.slot 2))), (some 49), none⟩, ⟨(.aop (.mov (.slot 3))), (some 50), none⟩, ⟨(.aop (.mov (.slot 6))), (some 51), none⟩, ⟨(.aop (.idxSl 1 (.slot 50) (.slot 51))), (some 52), none⟩, ⟨(.aop (.load1 (.slot 52))), (some 53), none⟩, ⟨(.call (.lit (.fn (.func 35) [] [])) [(.slot 49), (.slot 53)]), (some 54), none⟩, ⟨(.aop (.mov (.slot 54))), (some 48), none⟩, ⟨(.aop (.extract (.slot 48) 0)), (some 55), none⟩, ⟨(.aop (.extract (.slot 48) 1)), (some 56), none⟩, ⟨(.aop (.mov (.slot 55))), (some 7), none⟩, ⟨(.aop (.mov (.slot 56))), (some 8), none⟩]) (.seq (.seq (.reg [⟨(.aop (.mov (.slot 8))), (some 57), none⟩, ⟨(.aop (.bin .neq (.slot 57) (.lit (.int .i64 (0))))), (some 58), none⟩]) (.cond (.slot 58) (.seq (.reg [⟨(.aop (.mov (.lit (.bool false)))), (some 0), none⟩]) .ret) .skip)) (.reg [⟨(.aop (.mov (.slot 5))), (some 59), none⟩, ⟨(.aop (.mov (.slot 7))), (some 60), none⟩, ⟨(.aop (.lenSl (.slot 60))), (some 61), none⟩, ⟨(.aop (.bin .add (.slot 59) (.slot 61))), (some 62), none⟩, ⟨(.aop (.mov (.slot 62))), (some 5), none⟩])))) (.reg [⟨(.aop (.mov (.slot 6))), (some 46), none⟩, ⟨(.aop (.bin .add (.slot 46) (.lit (.int .i64 (1))))), (some 47), none⟩, ⟨(.aop (.mov (.slot 47))), (some 6), none⟩])))))) (.seq (.seq (.reg [⟨(.aop (.mov (.slot 4))), (some 63), none⟩, ⟨(.aop (.bin .neq (.slot 63) (.lit (.int .i64 (0))))), (some 64), none⟩, ⟨(.aop (.mov (.slot 64))), (some 65), none⟩, ⟨(.aop (.mov (.slot 3))), (some 66), (some ((.slot 65), false))⟩, ⟨(.aop (.lenSl (.slot 66))), (some 67), (some ((.slot 65), false))⟩, ⟨(.aop (.bin .neq (.slot 67) (.lit (.int .i64 (2))))), (some 68), (some ((.slot 65), false))⟩, ⟨(.aop (.pick (.slot 65) (.lit (.bool true)) (.slot 68))), (some 69), none⟩, ⟨(.aop (.mov (.slot 69))), (some 70), none⟩, ⟨(.aop (.mov (.slot 5))), (some 71), (some ((.slot 70), false))⟩, ⟨(.aop (.bin .neq (.slot 71) (.lit (.int .i64 (1))))), (some 72), (some ((.slot 70), false))⟩, ⟨(.aop (.pick (.slot 70) (.lit (.bool true)) (.slot 72))), (some 73), none⟩, ⟨(.aop (.mov (.slot 73))), (some 74), none⟩, ⟨(.aop (.mov (.slot 2))), (some 75), (some ((.slot 74), false))⟩, ⟨(.call (.lit (.fn (.func 37) [] [])) [(.slot 75), (.lit (.int .i64 (0))), (.lit (.int .i64 (300)))]), (some 76), (some ((.slot 74), false))⟩, ⟨(.aop (.bin .neq (.slot 76) (.lit (.int .i64 (0))))), (some 77), (some ((.slot 74), false))⟩, ⟨(.aop (.pick (.slot 74) (.lit (.bool true)) (.slot 77))), (some 78), none⟩]) (.cond (.slot 78) (.seq (.reg [⟨(.aop (.mov (.lit (.bool false)))), (some 0), none⟩]) .ret) .skip)) (.seq (.reg [⟨(.aop (.mov (.slot 2))), (some 80), none⟩, ⟨(.call (.lit (.fn (.func 34) [] [])) [(.slot 80), (.lit (.int .i64 (0)))]), (some 81), none⟩, ⟨(.aop (.mov (.slot 81))), (some 79), none⟩, ⟨(.aop (.extract (.slot 79) 0)), (some 82), none⟩, ⟨(.aop (.extract (.slot 79) 1)), (some 83), none⟩, ⟨(.aop (.mov (.slot 82))), (some 9), none⟩, ⟨(.aop (.mov (.slot 83))), (some 10), none⟩]) (.seq (.seq (.reg [⟨(.aop (.mov (.slot 10))), (some 84), none⟩, ⟨(.aop (.bin .neq (.slot 84) (.lit (.int .i64 (0))))), (some 85), none⟩, ⟨(.aop (.mov (.slot 85))), (some 86), none⟩, ⟨(.aop (.mov (.slot 9))), (some 87), (some ((.slot 86), false))⟩, ⟨(.aop (.lenSl (.slot 87))), (some 88), (some ((.slot 86), false))⟩, ⟨(.aop (.bin .neq (.slot 88) (.lit (.int .i64 (1))))), (some 89), (some ((.slot 86), false))⟩, ⟨(.aop (.pick (.slot 86) (.lit (.bool true)) (.slot 89))), (some 90), none⟩]) (.cond (.slot 90) (.seq (.reg [⟨(.aop (.mov (.lit (.bool false)))), (some 0), none⟩]) .ret) .skip)) (.seq (.reg [⟨(.aop (.mov (.slot 1))), (some 92), none⟩, ⟨(.aop (.mov (.slot 9))), (some 93), none⟩, ⟨(.aop (.idxSl 1 (.slot 93) (.lit (.int .i64 (0))))), (some 94), none⟩, ⟨(.aop (.load1 (.slot 94))), (some 95), none⟩, ⟨(.call (.lit (.fn (.func 35) [] [])) [(.slot 92), (.slot 95)]), (some 96), none⟩, ⟨(.aop (.mov (.slot 96))), (some 91), none⟩, ⟨(.aop (.extract (.slot 91) 0)), (some 97), none⟩, ⟨(.aop (.extract (.slot 91) 1)), (some 98), none⟩, ⟨(.aop (.mov (.slot 97))), (some 11), none⟩, ⟨(.aop (.mov (.slot 98))), (some 12), none⟩]) (.seq (.reg [⟨(.aop (.mov (.slot 12))), (some 99), none⟩, ⟨(.aop (.bin .eql (.slot 99) (.lit (.int .i64 (0))))), (some 100), none⟩, ⟨(.aop (.mov (.slot 100))), (some 101), none⟩, ⟨(.aop (.mov (.slot 1))), (some 102), (some ((.slot 101), true))⟩, ⟨(.call (.lit (.fn (.func 38) [] [])) [(.slot 102), (.lit (.int .i64 (0)))]), (some 103), (some ((.slot 101), true))⟩, ⟨(.aop (.bin .eql (.slot 103) (.lit (.int .i64 (300))))), (some 104), (some ((.slot 101), true))⟩, ⟨(.aop (.pick (.slot 101) (.slot 104) (.lit (.bool false)))), (some 105), none⟩, ⟨(.aop (.mov (.slot 105))), (some 106), none⟩, ⟨(.aop (.mov (.slot 1))), (some 107), (some ((.slot 106), true))⟩, ⟨(.aop (.pur (.build [(.int .i64 (0)), .nilsl] []) [])), (some 108), (some ((.slot 106), true))⟩, ⟨(.call (.lit (.fn (.func 36) [] [])) [(.slot 107), (.slot 108)]), (some 109), (some ((.slot 106), true))⟩, ⟨(.aop (.bin .eql (.slot 109) (.lit (.int .i64 (0))))), (some 110), (some ((.slot 106), true))⟩, ⟨(.aop (.pick (.slot 106) (.slot 110) (.lit (.bool false)))), (some 111), none⟩, ⟨(.aop (.mov (.slot 111))), (some 0), none⟩]) .ret)))))))))))
theorem comp45 : (V2.compC Tryz.prog 6 Tryz.f45.ntmps (fun _ => false) (Tryz.f45.body.getD .skip), V2.compR Tryz.prog Tryz.f45.results.toList) = (some c45, some [(.tmp 0)]) := by kernel_rfl
theorem body45 : Tryz.f45.body = some (Tryz.f45.body.getD .skip) := by kernel_rfl
noncomputable def c5 : ACode := (.seq (.reg [⟨(.aop (.mov (.lit (.bool false)))), (some 0), none⟩]) (.seq (.reg [⟨(.aop (.mov (.lit .nilptr))), (some 1), none⟩]) (.seq (.reg [⟨(.aop (.pur (.build [(.int .i64 (0)), .nilptr, .nilptr, .nilptr, .nilptr, .nilptr, .nilptr, .nilptr, .nilptr, .nilptr, .nilptr, .nilptr, .nilsl, .nilsl, .nilsl, .nilsl, .nilsl, .nilsl, (.int .i64 (0)), .nilsl, (.bool false), (.bool false)] []) [])), (some 32), none⟩, ⟨(.aop (.box 79 (.slot 32))), (some 33), none⟩, ⟨(.aop (.mov (.slot 33))), (some 2), none⟩]) (.seq (.reg [⟨(.aop (.mov (.slot 1))), (some 35), none⟩, ⟨(.call (.lit (.fn (.func 34) [] [])) [(.slot 35), (.lit (.int .i64 (0)))]), (some 36), none⟩, ⟨(.aop (.mov (.slot 36))), (some 34), none⟩, ⟨(.aop (.extract (.slot 34) 0)), (some 37), none⟩, ⟨(.aop (.extract (.slot 34) 1)), (some 38), none⟩, ⟨(.aop (.mov (.slot 37))), (some 3), none⟩, ⟨(.aop (.mov (.slot 38))), (some 4), none⟩]) (.seq (.reg [⟨(.aop (.mov (.slot 2))), (some 40), none⟩, ⟨(.call (.lit (.fn (.func 35) [] [])) [(.slot 40), (.lit .nilsl)]), (some 41), none⟩, ⟨(.aop (.mov (.slot 41))), (some 39), none⟩, ⟨(.aop (.extract (.slot 39) 0)), (some 42), none⟩, ⟨(.aop (.extract (.slot 39) 1)), (some 43), none⟩, ⟨(.aop (.mov (.slot 42))), (some 5), none⟩, ⟨(.aop (.mov (.slot 43))), (some 6), none⟩]) (.seq (.seq (.reg [⟨(.aop (.mov (.slot 4))), (some 44), none⟩, ⟨(.aop (.bin .neq (.slot 44) (.lit (.int .i64 (2))))), (some 45), none⟩, ⟨(.aop (.mov (.slot 45))), (some 46), none⟩, ⟨(.aop (.mov (.slot 6))), (some 47), (some ((.slot 46), false))⟩, ⟨(.aop (.bin .neq (.slot 47) (.lit (.int .i64 (2))))), (some 48), (some ((.slot 46), false))⟩, ⟨(.aop (.pick (.slot 46) (.lit (.bool true)) (.slot 48))), (some 49), none⟩, ⟨(.aop (.mov (.slot 49))), (some 50), none⟩, ⟨(.aop (.mov (.slot 1))), (some 51), (some ((.slot 50), false))⟩, ⟨(.aop (.pur (.build [(.int .i64 (0)), .nilsl] []) [])), (some 52), (some ((.slot 50), false))⟩, ⟨(.call (.lit (.fn (.func 36) [] [])) [(.slot 51), (.slot 52)]), (some 53), (some ((.slot 50), false))⟩, ⟨(.aop (.bin .neq (.slot 53) (.lit (.int .i64 (2))))), (some 54), (some ((.slot 50), false))⟩, ⟨(.aop (.pick (.slot 50) (.lit (.bool true)) (.slot 54))), (some 55), none⟩, ⟨(.aop (.mov (.slot 55))), (some 56), none⟩, ⟨(.aop (.mov (.slot 2))), (some 57), (some ((.slot 56), false))⟩, ⟨(.call (.lit (.fn (.func 37) [] [])) [(.slot 57), (.lit (.int .i64 (0))), (.lit (.int .i64 (0)))]), (some 58), (some ((.slot 56), false))⟩, ⟨(.aop (.bin .neq (.slot 58) (.lit (.int .i64 (2))))), (some 59), (some ((.slot 56), false))⟩, ⟨(.aop (.pick (.slot 56) (.lit (.bool true)) (.slot 59))), (some 60), none⟩, ⟨(.aop (.mov (.slot 60))), (some 61), none⟩, ⟨(.aop (.mov (.slot 1))), (some 62), (some ((.slot 61), false))⟩, ⟨(.call (.lit (.fn (.func 38) [] [])) [(.slot 62), (.lit (.int .i64 (0)))]), (some 63), (some ((.slot 61), false))⟩, ⟨(.aop (.bin .neq (.slot 63) (.lit (.int .i64 (0))))), (some 64), (some ((.slot 61), false))⟩, ⟨(.aop (.pick (.slot 61) (.lit (.bool true)) (.slot 64))), (some 65), none⟩, ⟨(.aop (.mov (.slot 65))), (some 66), none⟩, ⟨(.aop (.mov (.slot 2))), (some 67), (some ((.slot 66), false))⟩, ⟨(.call (.lit (.fn (.func 39) [] [])) [(.slot 67), (.lit (.int .i64 (0)))]), (some 68), (some ((.slot 66), false))⟩, ⟨(.aop (.bin .neq (.slot 68) (.lit (.int .i64 (0))))), (some 69), (some ((.slot 66), false))⟩, ⟨(.aop (.pick (.slot 66) (.lit (.bool true)) (.slot 69))), (some 70), none⟩, ⟨(.aop (.mov (.slot 70))), (some 71), none⟩, ⟨(.aop (.mov (.slot 1))), (some 72), (some ((.slot 71), false))⟩, ⟨(.call (.lit (.fn (.func 40) [] [])) [(.slot 72)]), (some 73), (some ((.slot 71), false))⟩, ⟨(.aop (.pick (.slot 71) (.lit (.bool true)) (.slot 73))), (some 74), none⟩, ⟨(.aop (.mov (.slot 74))), (some 75), none⟩, ⟨(.aop (.mov (.slot 2))), (some 76), (some ((.slot 75), false))⟩, ⟨(.call (.lit (.fn (.func 41) [] [])) [(.slot 76)]), (some 77), (some ((.slot 75), false))⟩, ⟨(.aop (.bin .neq (.slot 77) (.lit (.int .i64 (0))))), (some 78), (some ((.slot 75), false))⟩, ⟨(.aop (.pick (.slot 75) (.lit (.bool true)) (.slot 78))), (some 79), none⟩, ⟨(.aop (.mov (.slot 79))), (some 80), none⟩, ⟨(.aop (.mov (.slot 1))), (some 81), (some ((.slot 80), false))⟩, ⟨(.call (.lit (.fn (.func 42) [] [])) [(.slot 81)]), (some 82), (some ((.slot 80), false))⟩, ⟨(.aop (.pick (.slot 80) (.lit (.bool true)) (.slot 82))), (some 83), none⟩]) (.cond (.slot 83) (.seq (.reg [⟨(.aop (.mov (.lit (.bool false)))), (some 0), none⟩]) .ret) .skip)) (.seq (.reg [⟨(.call (.lit (.fn (.func 16) [] [])) [(.lit (.int .u32 (3)))]), (some 85), none⟩, ⟨(.aop (.mov (.slot 85))), (some 84), none⟩, ⟨(.aop (.extract (.slot 84) 0)), (some 86), none⟩, ⟨(.aop (.extract (.slot 84) 1)), (some 87), none⟩, ⟨(.aop (.mov (.slot 86))), (some 7), none⟩, ⟨(.aop (.mov (.slot 87))), (some 8), none⟩]) (.seq (.reg [⟨(.aop (.mov (.slot 7))), (some 89), none⟩, ⟨(.call (.lit (.fn (.func 43) [] [])) [(.lit (.int .i64 (2))), (.lit (.int .i64 (5))), (.slot 89)]), (some 90), none⟩, ⟨(.aop (.mov (.slot 90))), (some 88), none⟩, ⟨(.aop (.extract (.slot 88) 0)), (some 91), none⟩, ⟨(.aop (.extract (.slot 88) 1)), (some 92), none⟩, ⟨(.aop (.mov (.slot 91))), (some 9), none⟩, ⟨(.aop (.mov (.slot 92))), (some 10), none⟩]) (.seq (.reg [⟨(.aop (.mov (.slot 7))), (some 94), none⟩, ⟨(.call (.lit (.fn (.func 43) [] [])) [(.lit (.int .i64 (0))), (.lit (.int .i64 (0))), (.slot 94)]), (some 95), none⟩, ⟨(.aop (.mov (.slot 95))), (some 93), none⟩, ⟨(.aop (.extract (.slot 93) 0)), (some 96), none⟩, ⟨(.aop (.extract (.slot 93) 1)), (some 97), none⟩, ⟨(.aop (.mov (.slot 96))), (some 11), none⟩, ⟨(.aop (.mov (.slot 97))), (some 12), none⟩]) (.seq (.reg [⟨(.aop (.mov (.slot 7))), (some 99), none⟩, ⟨(.call (.lit (.fn (.func 43) [] [])) [(.lit (.int .i64 (0))), (.lit (.int .i64 (8193))), (.slot 99)]), (some 100), none⟩, ⟨(.aop (.mov (.slot 100))), (some 98), none⟩, ⟨(.aop (.extract (.slot 98) 0)), (some 101), none⟩, ⟨(.aop (.extract (.slot 98) 1)), (some 102), none⟩, ⟨(.aop (.mov (.slot 101))), (some 13), none⟩, ⟨(.aop (.mov (.slot 102))), (some 14), none⟩]) (.seq (.reg [⟨(.call (.lit (.fn (.func 43) [] [])) [(.lit (.int .i64 (0))), (.lit (.int .i64 (5))), (.lit .nilptr)]), (some 104), none⟩, ⟨(.aop (.mov (.slot 104))), (some 103), none⟩, ⟨(.aop (.extract (.slot 103) 0)), (some 105), none⟩, ⟨(.aop (.extract (.slot 103) 1)), (some 106), none⟩, ⟨(.aop (.mov (.slot 105))), (some 15), none⟩, ⟨(.aop (.mov (.slot 106))), (some 16), none⟩]) (.seq (.reg [⟨(.aop (.mov (.slot 7))), (some 108), none⟩, ⟨(.call (.lit (.fn (.func 43) [] [])) [(.lit (.int .i64 (0))), (.lit (.int .i64 (8192))), (.slot 108)]), (some 109), none⟩, ⟨(.aop (.mov (.slot 109))), (some 107), none⟩, ⟨(.aop (.extract (.slot 107) 0)), (some 110), none⟩, ⟨(.aop (.extract (.slot 107) 1)), (some 111), none⟩, ⟨(.aop (.mov (.slot 110))), (some 17), none⟩, ⟨(.aop (.mov (.slot 111))), (some 18), none⟩]) (.seq (.seq (.reg [⟨(.aop (.mov (.slot 10))), (some 112), none⟩, ⟨(.aop (.bin .neq (.slot 112) (.lit (.int .i64 (1))))), (some 113), none⟩, ⟨(.aop (.mov (.slot 113))), (some 114), none⟩, ⟨(.aop (.mov (.slot 12))), (some 115), (some ((.slot 114), false))⟩, ⟨(.aop (.bin .neq (.slot 115) (.lit (.int .i64 (1))))), (some 116), (some ((.slot 114), false))⟩, ⟨(.aop (.pick (.slot 114) (.lit (.bool true)) (.slot 116))), (some 117), none⟩, ⟨(.aop (.mov (.slot 117))), (some 118), none⟩, ⟨(.aop (.mov (.slot 14))), (some 119), (some ((.slot 118), false))⟩, ⟨(.aop (.bin .neq (.slot 119) (.lit (.int .i64 (1))))), (some 120), (some ((.slot 118), false))⟩, ⟨(.aop (.pick (.slot 118) (.lit (.bool true)) (.slot 120))), (some 121), none⟩, ⟨(.aop (.mov (.slot 121))), (some 122), none⟩, ⟨(.aop (.mov (.slot 16))), (some 123), (some ((.slot 122), false))⟩, ⟨(.aop (.bin .neq (.slot 123) (.lit (.int .i64 (2))))), (some 124), (some ((.slot 122), false))⟩, ⟨(.aop (.pick (.slot 122) (.lit (.bool true)) (.slot 124))), (some 125), none⟩, ⟨(.aop (.mov (.slot 125))), (some 126), none⟩, ⟨(.aop (.mov (.slot 18))), (some 127), (some ((.slot 126), false))⟩, ⟨(.aop (.bin .neq (.slot 127) (.lit (.int .i64 (0))))), (some 128), (some ((.slot 126), false))⟩, ⟨(.aop (.pick (.slot 126) (.lit (.bool true)) (.slot 128))), (some 129), none⟩, ⟨(.aop (.mov (.slot 129))), (some 130), none⟩, ⟨(.aop (.mov (.slot 17))), (some 131), (some ((.slot 130), false))⟩, ⟨(.aop (.pur (.build [(.int .i64 (0)), .nilsl] [(0, 1)]) [(.lit (.int .i64 (2)))])), (some 132), (some ((.slot 130), false))⟩, ⟨(.call (.lit (.fn (.func 36) [] [])) [(.slot 131), (.slot 132)]), (some 133), (some ((.slot 130), false))⟩, ⟨(.aop (.bin .neq (.slot 133) (.lit (.int .i64 (1))))), (some 134), (some ((.slot 130), false))⟩, ⟨(.aop (.pick (.slot 130) (.lit (.bool true)) (.slot 134))), (some 135), none⟩, ⟨(.aop (.mov (.slot 135))), (some 136), none⟩, ⟨(.aop (.mov (.slot 17))), (some 137), (some ((.slot 136), false))⟩, ⟨(.aop (.pur (.build [(.int .i64 (0)), .nilsl] [(0, 1)]) [(.lit (.int .i64 (-1)))])), (some 138), (some ((.slot 136), false))⟩, ⟨(.call (.lit (.fn (.func 36) [] [])) [(.slot 137), (.slot 138)]), (some 139), (some ((.slot 136), false))⟩, ⟨(.aop (.bin .neq (.slot 139) (.lit (.int .i64 (1))))), (some 140), (some ((.slot 136), false))⟩, ⟨(.aop (.pick (.slot 136) (.lit (.bool true)) (.slot 140))), (some 141), none⟩, ⟨(.aop (.mov (.slot 141))), (some 142), none⟩, ⟨(.aop (.mov (.slot 17))), (some 143), (some ((.slot 142), false))⟩, ⟨(.aop (.mk (.makeSl 5 1 [(.int .u8 (0))]) [(.lit (.int .i64 (4097))), (.lit (.int .i64 (4097)))])), (some 144), (some ((.slot 142), false))⟩, ⟨(.aop (.pur (.build [(.int .i64 (0)), .nilsl] [(1, 1)]) [(.slot 144)])), (some 145), (some ((.slot 142), false))⟩, ⟨(.call (.lit (.fn (.func 36) [] [])) [(.slot 143), (.slot 145)]), (some 146), (some ((.slot 142), false))⟩, ⟨(.aop (.bin .neq (.slot 146) (.lit (.int .i64 (3))))), (some 147), (some ((.slot 142), false))⟩, ⟨(.aop (.pick (.slot 142) (.lit (.bool true)) (.slot 147))), (some 148), none⟩, ⟨(.aop (.mov (.slot 148))), (some 149), none⟩, ⟨(.aop (.mov (.slot 17))), (some 150), (some ((.slot 149), false))⟩, ⟨(.call (.lit (.fn (.func 37) [] [])) [(.slot 150), (.lit (.int .i64 (0))), (.lit (.int .i64 (0)))]), (some 151), (some ((.slot 149), false))⟩, ⟨(.aop (.bin .neq (.slot 151) (.lit (.int .i64 (1))))), (some 152), (some ((.slot 149), false))⟩, ⟨(.aop (.pick (.slot 149) (.lit (.bool true)) (.slot 152))), (some 153), none⟩, ⟨(.aop (.mov (.slot 153))), (some 154), none⟩, ⟨(.aop (.mov (.slot 17))), (some 155), (some ((.slot 154), false))⟩, ⟨(.call (.lit (.fn (.func 37) [] [])) [(.slot 155), (.lit (.int .i64 (2))), (.lit (.int .i64 (1)))]), (some 156), (some ((.slot 154), false))⟩, ⟨(.aop (.bin .neq (.slot 156) (.lit (.int .i64 (1))))), (some 157), (some ((.slot 154), false))⟩, ⟨(.aop (.pick (.slot 154) (.lit (.bool true)) (.slot 157))), (some 158), none⟩, ⟨(.aop (.mov (.slot 158))), (some 159), none⟩, ⟨(.aop (.mov (.slot 17))), (some 160), (some ((.slot 159), false))⟩, ⟨(.call (.lit (.fn (.func 37) [] [])) [(.slot 160), (.lit (.int .i64 (2))), (.lit (.int .i64 (-1)))]), (some 161), (some ((.slot 159), false))⟩, ⟨(.aop (.bin .neq (.slot 161) (.lit (.int .i64 (1))))), (some 162), (some ((.slot 159), false))⟩, ⟨(.aop (.pick (.slot 159) (.lit (.bool true)) (.slot 162))), (some 163), none⟩]) (.cond (.slot 163) (.seq (.reg [⟨(.aop (.mov (.lit (.bool false)))), (some 0), none⟩]) .ret) .skip)) (.seq (.seq (.reg [⟨(.aop (.mov (.slot 17))), (some 164), none⟩, ⟨(.aop (.mk (.makeSl 5 1 [(.int .u8 (0))]) [(.lit (.int .i64 (1000))), (.lit (.int .i64 (1000)))])), (some 165), none⟩, ⟨(.aop (.pur (.build [(.int .i64 (0)), .nilsl] [(0, 1), (1, 1)]) [(.lit (.int .i64 (1))), (.slot 165)])), (some 166), none⟩, ⟨(.call (.lit (.fn (.func 36) [] [])) [(.slot 164), (.slot 166)]), (some 167), none⟩, ⟨(.aop (.bin .neq (.slot 167) (.lit (.int .i64 (0))))), (some 168), none⟩, ⟨(.aop (.mov (.slot 168))), (some 169), none⟩, ⟨(.aop (.mov (.slot 17))), (some 170), (some ((.slot 169), false))⟩, ⟨(.call (.lit (.fn (.func 41) [] [])) [(.slot 170)]), (some 171), (some ((.slot 169), false))⟩, ⟨(.aop (.bin .neq (.slot 171) (.lit (.int .i64 (4))))), (some 172), (some ((.slot 169), false))⟩, ⟨(.aop (.pick (.slot 169) (.lit (.bool true)) (.slot 172))), (some 173), none⟩, ⟨(.aop (.mov (.slot 173))), (some 174), none⟩, ⟨(.aop (.mov (.slot 17))), (some 175), (some ((.slot 174), false))⟩, ⟨(.call (.lit (.fn (.func 38) [] [])) [(.slot 175), (.lit (.int .i64 (1)))]), (some 176), (some ((.slot 174), false))⟩, ⟨(.aop (.bin .neq (.slot 176) (.lit (.int .i64 (7191))))), (some 177), (some ((.slot 174), false))⟩, ⟨(.aop (.pick (.slot 174) (.lit (.bool true)) (.slot 177))), (some 178), none⟩, ⟨(.aop (.mov (.slot 178))), (some 179), none⟩, ⟨(.aop (.mov (.slot 17))), (some 180), (some ((.slot 179), false))⟩, ⟨(.call (.lit (.fn (.func 38) [] [])) [(.slot 180), (.lit (.int .i64 (0)))]), (some 181), (some ((.slot 179), false))⟩, ⟨(.aop (.bin .neq (.slot 181) (.lit (.int .i64 (8192))))), (some 182), (some ((.slot 179), false))⟩, ⟨(.aop (.pick (.slot 179) (.lit (.bool true)) (.slot 182))), (some 183), none⟩]) (.cond (.slot 183) (.seq (.reg [⟨(.aop (.mov (.lit (.bool false)))), (some 0), none⟩]) .ret) .skip)) (.seq (.reg [⟨(.aop (.mov (.slot 17))), (some 185), none⟩, ⟨(.call (.lit (.fn (.func 34) [] [])) [(.slot 185), (.lit (.int .i64 (0)))]), (some 186), none⟩, ⟨(.aop (.mov (.slot 186))), (some 184), none⟩, ⟨(.aop (.extract (.slot 184) 0)), (some 187), none⟩, ⟨(.aop (.extract (.slot 184) 1)), (some 188), none⟩, ⟨(.aop (.mov (.slot 187))), (some 19), none⟩, ⟨(.aop (.mov (.slot 188))), (some 20), none⟩]) (.seq (.reg [⟨(.aop (.mov (.slot 17))), (some 190), none⟩, ⟨(.aop (.mk (.bslice 5 1 1) [(.lit (.int .u8 (120)))])), (some 191), none⟩, ⟨(.aop (.ext .mark [(.slot 191)])), (some 192), none⟩, ⟨(.call (.lit (.fn (.func 35) [] [])) [(.slot 190), (.slot 192)]), (some 193), none⟩, ⟨(.aop (.mov (.slot 193))), (some 189), none⟩, ⟨(.aop (.extract (.slot 189) 0)), (some 194), none⟩, ⟨(.aop (.extract (.slot 189) 1)), (some 195), none⟩, ⟨(.aop (.mov (.slot 194))), (some 21), none⟩, ⟨(.aop (.mov (.slot 195))), (some 22), none⟩]) (.seq (.seq (.reg [⟨(.aop (.mov (.lit (.int .i64 (0))))), (some 196), none⟩]) (.block 0 (.loop (.seq (.reg [⟨(.aop (.bin .lss (.slot 196) (.lit (.int .i64 (60))))), (some 197), none⟩]) (.seq (.cond (.slot 197) .skip (.exit 0)) (.seq (.block 1 (.seq (.reg [⟨(.aop (.mov (.slot 17))), (some 198), none⟩, ⟨(.aop (.pur (.build [(.int .i64 (0)), .nilsl] [(0, 1)]) [(.lit (.int .i64 (0)))])), (some 199), none⟩, ⟨(.call (.lit (.fn (.func 36) [] [])) [(.slot 198), (.slot 199)]), (some 200), none⟩, ⟨(.aop (.bin .neq (.slot 200) (.lit (.int .i64 (0))))), (some 201), none⟩]) (.cond (.slot 201) (.seq (.reg [⟨(.aop (.mov (.lit (.bool false)))), (some 0), none⟩]) .ret) .skip))) (.reg [⟨(.aop (.bin .add (.slot 196) (.lit (.int .i64 (1))))), (some 202), none⟩, ⟨(.aop (.mov (.slot 202))), (some 196), none⟩]))))))) (.seq (.reg [⟨(.call (.lit (.fn (.func 44) [] [])) [(.lit (.int .i64 (500)))]), (some 204), none⟩, ⟨(.aop (.mov (.slot 204))), (some 203), none⟩, ⟨(.aop (.extract (.slot 203) 0)), (some 205), none⟩, ⟨(.aop (.extract (.slot 203) 1)), (some 206), none⟩, ⟨(.aop (.mov (.slot 205))), (some 23), none⟩, ⟨(.aop (.mov (.slot 206))), (some 24), none⟩]) (.seq (.reg [⟨(.aop (.mov (.slot 23))), (some 207), none⟩, ⟨(.aop (.mk (.bslice 5 1 2) [(.lit (.int .u8 (108))), (.lit (.int .u8 (115)))])), (some 208), none⟩, ⟨(.aop (.ext .mark [(.slot 208)])), (some 209), none⟩, ⟨(.aop (.pur (.build [(.int .i64 (0)), .nilsl] [(0, 1), (1, 1)]) [(.lit (.int .i64 (0))), (.slot 209)])), (some 210), none⟩, ⟨(.call (.lit (.fn (.func 36) [] [])) [(.slot 207), (.slot 210)]), (some 211), none⟩, ⟨(.aop (.mov (.slot 211))), (some 25), none⟩]) (.seq (.reg [⟨(.aop (.mov (.slot 23))), (some 213), none⟩, ⟨(.call (.lit (.fn (.func 34) [] [])) [(.slot 213), (.lit (.int .i64 (0)))]), (some 214), none⟩, ⟨(.aop (.mov (.slot 214))), (some 212), none⟩, ⟨(.aop (.extract (.slot 212) 0)), (some 215), none⟩, ⟨(.aop (.extract (.slot 212) 1)), (some 216), none⟩, ⟨(.aop (.mov (.slot 215))), (some 26), none⟩, ⟨(.aop (.mov (.slot 216))), (some 27), none⟩]) (.seq (.seq (.reg [⟨(.aop (.mov (.slot 25))), (some 217), none⟩, ⟨(.aop (.bin .neq (.slot 217) (.lit (.int .i64 (0))))), (some 218), none⟩, ⟨(.aop (.mov (.slot 218))), (some 219), none⟩, ⟨(.aop (.mov (.slot 27))), (some 220), (some ((.slot 219), false))⟩, ⟨(.aop (.bin .neq (.slot 220) (.lit (.int .i64 (0))))), (some 221), (some ((.slot 219), false))⟩, ⟨(.aop (.pick (.slot 219) (.lit (.bool true)) (.slot 221))), (some 222), none⟩, ⟨(.aop (.mov (.slot 222))), (some 223), none⟩, ⟨(.aop (.mov (.slot 26))), (some 224), (some ((.slot 223), false))⟩, ⟨(.aop (.lenSl (.slot 224))), (some 225), (some ((.slot 223), false))⟩, ⟨(.aop (.bin .neq (.slot 225) (.lit (.int .i64 (1))))), (some 226), (some ((.slot 223), false))⟩, ⟨(.aop (.pick (.slot 223) (.lit (.bool true)) (.slot 226))), (some 227), none⟩]) (.cond (.slot 227) (.seq (.reg [⟨(.aop (.mov (.lit (.bool false)))), (some 0), none⟩]) .ret) .skip)) (.seq (.reg [⟨(.aop (.mov (.slot 24))), (some 229), none⟩, ⟨(.aop (.mov (.slot 26))), (some 230), none⟩, ⟨(.aop (.idxSl 1 (.slot 230) (.lit (.int .i64 (0))))), (some 231), none⟩, ⟨(.aop (.load1 (.slot 231))), (some 232), none⟩, ⟨(.call (.lit (.fn (.func 35) [] [])) [(.slot 229), (.slot 232)]), (some 233), none⟩, ⟨(.aop (.mov (.slot 233))), (some 228), none⟩, ⟨(.aop (.extract (.slot 228) 0)), (some 234), none⟩, ⟨(.aop (.extract (.slot 228) 1)), (some 235), none⟩, ⟨(.aop (.mov (.slot 234))), (some 28), none⟩, ⟨(.aop (.mov (.slot 235))), (some 29), none⟩]) (.seq (.reg [⟨(.aop (.mov (.slot 24))), (some 237), none⟩, ⟨(.aop (.mov (.slot 26))), (some 238), none⟩, ⟨(.aop (.idxSl 1 (.slot 238) (.lit (.int .i64 (0))))), (some 239), none⟩, ⟨(.aop (.load1 (.slot 239))), (some 240), none⟩, ⟨(.call (.lit (.fn (.func 35) [] [])) [(.slot 237), (.slot 240)]), (some 241), none⟩, ⟨(.aop (.mov (.slot 241))), (some 236), none⟩, ⟨(.aop (.extract (.slot 236) 0)), (some 242), none⟩, ⟨(.aop (.extract (.slot 236) 1)), (some 243), none⟩, ⟨(.aop (.mov (.slot 242))), (some 30), none⟩, ⟨(.aop (.mov (.slot 243))), (some 31), none⟩]) (.seq (.reg [⟨(.aop (.mov (.slot 19))), (some 244), none⟩, ⟨(.aop (.lenSl (.slot 244))), (some 245), none⟩, ⟨(.aop (.bin .eql (.slot 245) (.lit (.int .i64 (3))))), (some 246), none⟩, ⟨(.aop (.mov (.slot 246))), (some 247), none⟩, ⟨(.aop (.mov (.slot 20))), (some 248), (some ((.slot 247), true))⟩, ⟨(.aop (.bin .eql (.slot 248) (.lit (.int .i64 (7))))), (some 249), (some ((.slot 247), true))⟩, ⟨(.aop (.pick (.slot 247) (.slot 249) (.lit (.bool false)))), (some 250), none⟩, ⟨(.aop (.mov (.slot 250))), (some 251), none⟩, ⟨(.aop (.mov (.slot 22))), (some 252), (some ((.slot 251), true))⟩, ⟨(.aop (.bin .eql (.slot 252) (.lit (.int .i64 (4))))), (some 253), (some ((.slot 251), true))⟩, ⟨(.aop (.pick (.slot 251) (.slot 253) (.lit (.bool false)))), (some 254), none⟩, ⟨(.aop (.mov (.slot 254))), (some 255), none⟩, ⟨(.aop (.mov (.slot 17))), (some 256), (some ((.slot 255), true))⟩, ⟨(.call (.lit (.fn (.func 41) [] [])) [(.slot 256)]), (some 257), (some ((.slot 255), true))⟩, ⟨(.aop (.bin .eql (.slot 257) (.lit (.int .i64 (61))))), (some 258), (some ((.slot 255), true))⟩, ⟨(.aop (.pick (.slot 255) (.slot 258) (.lit (.bool false)))), (some 259), none⟩, ⟨(.aop (.mov (.slot 259))), (some 260), none⟩, ⟨(.aop (.mov (.slot 17))), (some 261), (some ((.slot 260), true))⟩, ⟨(.call (.lit (.fn (.func 40) [] [])) [(.slot 261)]), (some 262), (some ((.slot 260), true))⟩, ⟨(.aop (.un .not (.slot 262))), (some 263), (some ((.slot 260), true))⟩, ⟨(.aop (.pick (.slot 260) (.slot 263) (.lit (.bool false)))), (some 264), none⟩, ⟨(.aop (.mov (.slot 264))), (some 265), none⟩, ⟨(.aop (.mov (.slot 17))), (some 266), (some ((.slot 265), true))⟩, ⟨(.aop (.mk (.makeSl 5 1 [(.int .u8 (0))]) [(.lit (.int .i64 (1000))), (.lit (.int .i64 (1000)))])), (some 267), (some ((.slot 265), true))⟩, ⟨(.aop (.pur (.build [(.int .i64 (0)), .nilsl] [(0, 1), (1, 1)]) [(.lit (.int .i64 (1))), (.slot 267)])), (some 268), (some ((.slot 265), true))⟩, ⟨(.call (.lit (.fn (.func 36) [] [])) [(.slot 266), (.slot 268)]), (some 269), (some ((.slot 265), true))⟩, ⟨(.aop (.bin .eql (.slot 269) (.lit (.int .i64 (8))))), (some 270), (some ((.slot 265), true))⟩, ⟨(.aop (.pick (.slot 265) (.slot 270) (.lit (.bool false)))), (some 271), none⟩, ⟨(.aop (.mov (.slot 271))), (some 272), none⟩, ⟨(.aop (.mov (.slot 29))), (some 273), (some ((.slot 272), true))⟩, ⟨(.aop (.bin .eql (.slot 273) (.lit (.int .i64 (0))))), (some 274), (some ((.slot 272), true))⟩, ⟨(.aop (.pick (.slot 272) (.slot 274) (.lit (.bool false)))), (some 275), none⟩, ⟨(.aop (.mov (.slot 275))), (some 276), none⟩, ⟨(.aop (.mov (.slot 28))), (some 277), (some ((.slot 276), true))⟩, ⟨(.aop (.lenSl (.slot 277))), (some 278), (some ((.slot 276), true))⟩, ⟨(.aop (.bin .eql (.slot 278) (.lit (.int .i64 (1))))), (some 279), (some ((.slot 276), true))⟩, ⟨(.aop (.pick (.slot 276) (.slot 279) (.lit (.bool false)))), (some 280), none⟩, ⟨(.aop (.mov (.slot 280))), (some 281), none⟩, ⟨(.aop (.mov (.slot 28))), (some 282), (some ((.slot 281), true))⟩, ⟨(.aop (.idxSl 2 (.slot 282) (.lit (.int .i64 (0))))), (some 283), (some ((.slot 281), true))⟩, ⟨(.aop (.fieldAddr 1 (.slot 283))), (some 284), (some ((.slot 281), true))⟩, ⟨(.aop (.load1 (.slot 284))), (some 285), (some ((.slot 281), true))⟩, ⟨(.aop (.rd .sl2str [(.slot 285)])), (some 286), (some ((.slot 281), true))⟩, ⟨(.aop (.bin .eql (.slot 286) (.lit (.str [108, 115])))), (some 287), (some ((.slot 281), true))⟩, ⟨(.aop (.pick (.slot 281) (.slot 287) (.lit (.bool false)))), (some 288), none⟩, ⟨(.aop (.mov (.slot 288))), (some 289), none⟩, ⟨(.aop (.mov (.slot 24))), (some 290), (some ((.slot 289), true))⟩, ⟨(.call (.lit (.fn (.func 39) [] [])) [(.slot 290), (.lit (.int .i64 (0)))]), (some 291), (some ((.slot 289), true))⟩, ⟨(.aop (.bin .eql (.slot 291) (.lit (.int .i64 (3))))), (some 292), (some ((.slot 289), true))⟩, ⟨(.aop (.pick (.slot 289) (.slot 292) (.lit (.bool false)))), (some 293), none⟩, ⟨(.aop (.mov (.slot 293))), (some 294), none⟩, ⟨(.aop (.mov (.slot 31))), (some 295), (some ((.slot 294), true))⟩, ⟨(.aop (.bin .eql (.slot 295) (.lit (.int .i64 (0))))), (some 296), (some ((.slot 294), true))⟩, ⟨(.aop (.pick (.slot 294) (.slot 296) (.lit (.bool false)))), (some 297), none⟩, ⟨(.aop (.mov (.slot 297))), (some 298), none⟩, ⟨(.aop (.mov (.slot 30))), (some 299), (some ((.slot 298), true))⟩, ⟨(.aop (.lenSl (.slot 299))), (some 300), (some ((.slot 298), true))⟩, ⟨(.aop (.bin .eql (.slot 300) (.lit (.int .i64 (0))))), (some 301), (some ((.slot 298), true))⟩, ⟨(.aop (.pick (.slot 298) (.slot 301) (.lit (.bool false)))), (some 302), none⟩, ⟨(.aop (.mov (.slot 302))), (some 303), none⟩, ⟨(.aop (.mov (.slot 24))), (some 304), (some ((.slot 303), true))⟩, ⟨(.call (.lit (.fn (.func 37) [] [])) [(.slot 304), (.lit (.int .i64 (0))), (.lit (.int .i64 (4)))]), (some 305), (some ((.slot 303), true))⟩, ⟨(.aop (.bin .eql (.slot 305) (.lit (.int .i64 (1))))), (some 306), (some ((.slot 303), true))⟩, ⟨(.aop (.pick (.slot 303) (.slot 306) (.lit (.bool false)))), (some 307), none⟩, ⟨(.aop (.mov (.slot 307))), (some 308), none⟩, ⟨(.aop (.mov (.slot 24))), (some 309), (some ((.slot 308), true))⟩, ⟨(.call (.lit (.fn (.func 37) [] [])) [(.slot 309), (.lit (.int .i64 (0))), (.lit (.int .i64 (3)))]), (some 310), (some ((.slot 308), true))⟩, ⟨(.aop (.bin .eql (.slot 310) (.lit (.int .i64 (0))))), (some 311), (some ((.slot 308), true))⟩, ⟨(.aop (.pick (.slot 308) (.slot 311) (.lit (.bool false)))), (some 312), none⟩, ⟨(.aop (.mov (.slot 312))), (some 313), none⟩, ⟨(.aop (.mov (.slot 24))), (some 314), (some ((.slot 313), true))⟩, ⟨(.call (.lit (.fn (.func 41) [] [])) [(.slot 314)]), (some 315), (some ((.slot 313), true))⟩, ⟨(.aop (.bin .eql (.slot 315) (.lit (.int .i64 (0))))), (some 316), (some ((.slot 313), true))⟩, ⟨(.aop (.pick (.slot 313) (.slot 316) (.lit (.bool false)))), (some 317), none⟩, ⟨(.aop (.mov (.slot 317))), (some 318), none⟩, ⟨(.call (.lit (.fn (.func 45) [] [])) []), (some 319), (some ((.slot 318), true))⟩, ⟨(.aop (.pick (.slot 318) (.slot 319) (.lit (.bool false)))), (some 320), none⟩, ⟨(.aop (.mov (.slot 320))), (some 0), none⟩]) .ret))))))))))))))))))))))))
theorem comp5 : (V2.compC Tryz.prog 6 Tryz.f5.ntmps (fun _ => false) (Tryz.f5.body.getD .skip), V2.compR Tryz.prog Tryz.f5.results.toList) = (some c5, some [(.tmp 0)]) := by kernel_rfl
theorem body5 : Tryz.f5.body = some (Tryz.f5.body.getD .skip) := by kernel_rfl
def gb0 : FObj := .ints .i64 [Int.ofNat 0, Int.ofNat 0, Int.ofNat 1, Int.ofNat 1, Int.ofNat 1] 200 .ro
def gb1 : FObj := .cells [.o .fn, .fn (.func 342) [] [], .fn (.func 342) [] [], .fn (.func 343) [] [], .fn (.func 344) [] [], .fn (.func 342) [] []] 326 .ro
def gb2 : FObj := .ints .u32 [Int.ofNat 0, Int.ofNat 498536548, Int.ofNat 997073096, Int.ofNat 651767980, Int.ofNat 1994146192, Int.ofNat 1802195444, Int.ofNat 1303535960, Int.ofNat 1342533948, Int.ofNat 3988292384, Int.ofNat 4027552580, Int.ofNat 3604390888, Int.ofNat 3412177804, Int.ofNat 2607071920, Int.ofNat 2262029012, Int.ofNat 2685067896, Int.ofNat 3183342108] 349 .ro
def gb3 : FObj := .ints .u32 [Int.ofNat 1779033703, Int.ofNat 3144134277, Int.ofNat 1013904242, Int.ofNat 2773480762, Int.ofNat 1359893119, Int.ofNat 2600822924, Int.ofNat 528734635, Int.ofNat 1541459225] 351 .ro
def gb4 : FObj := .cells [] 0 .ro
def gb5 : FObj := .ints .u32 [Int.ofNat 1116352408, Int.ofNat 1899447441, Int.ofNat 3049323471, Int.ofNat 3921009573, Int.ofNat 961987163, Int.ofNat 1508970993, Int.ofNat 2453635748, Int.ofNat 2870763221, Int.ofNat 3624381080, Int.ofNat 310598401, Int.ofNat 607225278, Int.ofNat 1426881987, Int.ofNat 1925078388, Int.ofNat 2162078206, Int.ofNat 2614888103, Int.ofNat 3248222580, Int.ofNat 3835390401, Int.ofNat 4022224774, Int.ofNat 264347078, Int.ofNat 604807628, Int.ofNat 770255983, Int.ofNat 1249150122, Int.ofNat 1555081692, Int.ofNat 1996064986, Int.ofNat 2554220882, Int.ofNat 2821834349, Int.ofNat 2952996808, Int.ofNat 3210313671, Int.ofNat 3336571891, Int.ofNat 3584528711, Int.ofNat 113926993, Int.ofNat 338241895, Int.ofNat 666307205, Int.ofNat 773529912, Int.ofNat 1294757372, Int.ofNat 1396182291, Int.ofNat 1695183700, Int.ofNat 1986661051, Int.ofNat 2177026350, Int.ofNat 2456956037, Int.ofNat 2730485921, Int.ofNat 2820302411, Int.ofNat 3259730800, Int.ofNat 3345764771, Int.ofNat 3516065817, Int.ofNat 3600352804, Int.ofNat 4094571909, Int.ofNat 275423344, Int.ofNat 430227734, Int.ofNat 506948616, Int.ofNat 659060556, Int.ofNat 883997877, Int.ofNat 958139571, Int.ofNat 1322822218, Int.ofNat 1537002063, Int.ofNat 1747873779, Int.ofNat 1955562222, Int.ofNat 2024104815, Int.ofNat 2227730452, Int.ofNat 2361852424, Int.ofNat 2428436474, Int.ofNat 2756734187, Int.ofNat 3204031479, Int.ofNat 3329325298] 374 .ro
end Go.Proofs.YtjgmpdklfcmelaaGreatDoor.V2
namespace Go.Proofs.YtjgmpdklfcmelaaGreatDoor.V2
open Go
set_option linter.unusedVariables false
open Go.RowKit
def memM : List AObj := [(AObj.ints (IntKind.i64) [0, 0, 1, 1, 1] 200 (Tl.ro)), (AObj.cells [AV.nilfn, AV.fn (Go.Fn.func 342) [] [], AV.fn (Go.Fn.func 342) [] [], AV.fn (Go.Fn.func 343) [] [], AV.fn (Go.Fn.func 344) [] [], AV.fn (Go.Fn.func 342) [] []] 326 (Tl.ro)), (AObj.ints (IntKind.u32) [0, 498536548, 997073096, 651767980, 1994146192, 1802195444, 1303535960, 1342533948, 3988292384, 4027552580, 3604390888, 3412177804, 2607071920, 2262029012, 2685067896, 3183342108] 349 (Tl.ro)), (AObj.ints (IntKind.u32) [1779033703, 3144134277, 1013904242, 2773480762, 1359893119, 2600822924, 528734635, 1541459225] 351 (Tl.ro)), (AObj.cells [] 0 (Tl.ro)), (AObj.ints (IntKind.u32) [1116352408, 1899447441, 3049323471, 3921009573, 961987163, 1508970993, 2453635748, 2870763221, 3624381080, 310598401, 607225278, 1426881987, 1925078388, 2162078206, 2614888103, 3248222580, 3835390401, 4022224774, 264347078, 604807628, 770255983, 1249150122, 1555081692, 1996064986, 2554220882, 2821834349, 2952996808, 3210313671, 3336571891, 3584528711, 113926993, 338241895, 666307205, 773529912, 1294757372, 1396182291, 1695183700, 1986661051, 2177026350, 2456956037, 2730485921, 2820302411, 3259730800, 3345764771, 3516065817, 3600352804, 4094571909, 275423344, 430227734, 506948616, 659060556, 883997877, 958139571, 1322822218, 1537002063, 1747873779, 1955562222, 2024104815, 2227730452, 2361852424, 2428436474, 2756734187, 3204031479, 3329325298] 374 (Tl.ro))]
def TM : List UInt32 := [0, 498536548, 997073096, 651767980, 1994146192, 1802195444, 1303535960, 1342533948, 3988292384, 4027552580, 3604390888, 3412177804, 2607071920, 2262029012, 2685067896, 3183342108]
def mayM : List Value := [.nilFunc, .func (.func 342) #[] #[], .func (.func 342) #[] #[], .func (.func 343) #[] #[], .func (.func 344) #[] #[], .func (.func 342) #[] #[]]
def GlobTM (w : World) : Prop := ∀ i, i < 16 → w.cell? ⟨2, i, none⟩ = some (.int .u32 (N32 (at32 TM i)))
def GlobFM (w : World) : Prop := ∀ i, i < 6 → w.cell? ⟨1, i, none⟩ = some (mayM.getD i .nilFunc)
def zM : List Int := [0, 0, 1, 1, 1]
def GlobZM (w : World) : Prop := ∀ i, i < 5 → w.cell? ⟨0, i, none⟩ = some (.int .i64 (zM.getD i 0))
structure GlobM (w : World) : Prop where
  z : GlobZM w
  f : GlobFM w
  t : GlobTM w
  s : GlobS w
  k : GlobK w
  size : 5 < w.heap.size
def rM : Ren := rL [some (0, (0, 5)), some (1, (0, 6)), some (2, (0, 16)), some (3, (0, 8)), some (4, (0, 1)), some (5, (0, 64))]
theorem rM_glob : ∀ g, g < 6 → ∃ s, rM g = some (g, (0, s)) := fun g hg => by
  match g, hg with
  | 0, _ => exact ⟨5, rfl⟩
  | 1, _ => exact ⟨6, rfl⟩
  | 2, _ => exact ⟨16, rfl⟩
  | 3, _ => exact ⟨8, rfl⟩
  | 4, _ => exact ⟨1, rfl⟩
  | 5, _ => exact ⟨64, rfl⟩
theorem memM_sh : ∀ o ∈ memM, o.isSh = true := by
  intro o ho
  simp only [memM, List.mem_cons, List.not_mem_nil, or_false] at ho
  rcases ho with rfl | rfl | rfl | rfl | rfl | rfl <;> rfl
theorem memM_ro : ∀ o ∈ memM, o.isRo = true := fun o ho => AObj.isSh_ro (memM_sh o ho)
theorem or_croM {ρ : Ren} {w : World} {b D : Nat} {l : List AV} {e : TypeId} (hD : l.length ≤ D) (hl : 0 < l.length) (h : ∀ i a, l[i]? = some a → ∃ v, w.cell? ⟨b, i, none⟩ = some v ∧ VR ρ a v) : OR ρ (0, D) (.cells l e .ro) w.heap[b]? := ⟨fun _ => by
  refine ⟨hD, fun _ => ?_⟩
  obtain ⟨v0, h0, _⟩ := h (l.length - 1) l[l.length - 1] (List.getElem?_eq_getElem (by omega))
  obtain ⟨c, t, fr, hb, hc⟩ := cell_row h0
  refine ⟨c, t, fr, hb, (fun hh => by cases hh), ?_, hD, fun i a hi => ?_⟩
  · have := (Array.getElem?_eq_some_iff.1 hc).1
    show l.length + 0 ≤ c.size
    omega
  · obtain ⟨v, hv, hr⟩ := h i a hi
    obtain ⟨c', t', fr', hb', hc'⟩ := cell_row hv
    rw [hb] at hb'; cases hb'
    exact ⟨v, hc', hr⟩, fun l e => by cases e⟩
theorem vr_fnM {ρ : Ren} (n : Nat) : VR ρ (.fn (.func n) [] []) (.func (.func n) #[] #[]) := by
  unfold VR; exact ⟨[], [], rfl, rfl, rfl⟩
theorem row_ofM {w : World} {b n k : Nat} {T : List UInt32} {l : List Int} {e : TypeId} (hn : T.length = n) (hl : l = wI T) (h : ∀ i, i < n → w.cell? ⟨b, i, none⟩ = some (.int .u32 (N32 (at32 T i)))) (hk : n = k) : ∀ ρ, OR ρ (0, k) (.ints .u32 l e .ro) w.heap[b]? := fun ρ => by
  subst hl hk
  refine or_ro (by rw [wI_length]; omega) fun i hi => ?_
  rw [wI_getD, Nat.zero_add]; exact h i (by rw [wI_length] at hi; omega)
theorem hrM {w : World} (h : GlobM w) : HR rM (hL memM) w := by
  refine hr_ro (by show 6 ≤ _; omega) rfl memM_sh fun b c d o hb ho => ?_
  have hs := h.size
  match b with
  | 0 => cases hb; cases ho; exact ⟨by omega, or_ro (k := .i64) (l := zM) (Nat.le_refl _) fun i hi => by rw [Nat.zero_add]; exact h.z i hi⟩
  | 1 =>
    cases hb; cases ho
    refine ⟨by omega, or_croM (Nat.le_refl _) (by decide) fun i a hi => ?_⟩
    match i, hi with
    | 0, hi => cases hi; exact ⟨_, h.f 0 (by omega), rfl⟩
    | 1, hi => cases hi; exact ⟨_, h.f 1 (by omega), vr_fnM 342⟩
    | 2, hi => cases hi; exact ⟨_, h.f 2 (by omega), vr_fnM 342⟩
    | 3, hi => cases hi; exact ⟨_, h.f 3 (by omega), vr_fnM 343⟩
    | 4, hi => cases hi; exact ⟨_, h.f 4 (by omega), vr_fnM 344⟩
    | 5, hi => cases hi; exact ⟨_, h.f 5 (by omega), vr_fnM 342⟩
    | n + 6, hi => cases hi
  | 2 => cases hb; cases ho; exact ⟨by omega, row_ofM (T := TM) (n := 16) rfl (by decide +kernel) h.t rfl _⟩
  | 3 => cases hb; cases ho; exact ⟨by omega, row_ofM (T := S0) (n := 8) rfl (by decide +kernel) h.s rfl _⟩
  | 4 => cases hb; cases ho; exact ⟨by omega, OR.shut (Nat.zero_le _)⟩
  | 5 => cases hb; cases ho; exact ⟨by omega, row_ofM (T := KK) (n := 64) rfl (by decide +kernel) h.k rfl _⟩
  | n + 6 => cases hb
def funKM : AV → Option (Option Nat)
  | .nilfn => some none
  | .fn f xs ys => match f with
    | .func n => match xs, ys with
      | [], [] => some (some n)
      | _, _ => none
    | _ => none
  | _ => none
theorem funM_nil {v : AV} (h : funKM v = some none) : v = .nilfn := by
  unfold funKM at h
  split at h
  · rfl
  · split at h
    · split at h <;> cases h
    · cases h
  · cases h
theorem funM_fn {v : AV} {n : Nat} (h : funKM v = some (some n)) : v = .fn (.func n) [] [] := by
  unfold funKM at h
  split at h
  · cases h
  · split at h
    · split at h
      · cases h; rfl
      · cases h
    · cases h
  · cases h
noncomputable def funAM (σ : AH) : Bool := match σ.get 1 with
  | some ob => match ob with
    | .cells l _ _ => decide (l.map funKM = [some none, some (some 342), some (some 342), some (some 343), some (some 344), some (some 342)])
    | _ => false
  | none => false
theorem fun_ofM {ρ : Ren} {σ : AH} {W : World} (hr : HR ρ σ W) (hg : ∃ s, ρ 1 = some (1, (0, s))) (h : funAM σ = true) : GlobFM W := by
  unfold funAM at h
  split at h
  case h_2 => cases h
  rename_i ob hob
  split at h
  case h_2 => cases h
  rename_i l e tl
  have h := of_decide_eq_true h
  obtain ⟨s, hs⟩ := hg
  have hlen : l.length = 6 := by rw [← List.length_map (f := funKM), h]; rfl
  have key : ∀ i k, ([some none, some (some 342), some (some 342), some (some 343), some (some 344), some (some 342)] : List (Option (Option Nat)))[i]? = some k → ∃ a v, funKM a = k ∧ W.cell? ⟨1, i, none⟩ = some v ∧ VR ρ a v := fun i k hk => by
    rw [← h, List.getElem?_map, Option.map_eq_some_iff] at hk
    obtain ⟨a, ha, hk⟩ := hk
    obtain ⟨u, hu, hur⟩ := hr.load (i := i) (a := a) hs hob ha
    exact ⟨a, u, hk, hu, hur⟩
  intro i hi
  match i, hi with
  | 0, _ =>
    obtain ⟨a, v, ha, hv, hr⟩ := key 0 _ rfl
    rw [funM_nil ha] at hr
    unfold VR at hr; subst hr
    rw [hv]; rfl
  | 1, _ =>
    obtain ⟨a, v, ha, hv, hr⟩ := key 1 _ rfl
    rw [funM_fn ha] at hr
    unfold VR at hr
    obtain ⟨us, vs, e1, e2, e3⟩ := hr
    have e2 : us = [] := e2
    have e3 : vs = [] := e3
    subst e2 e3 e1
    rw [hv]; rfl
  | 2, _ =>
    obtain ⟨a, v, ha, hv, hr⟩ := key 2 _ rfl
    rw [funM_fn ha] at hr
    unfold VR at hr
    obtain ⟨us, vs, e1, e2, e3⟩ := hr
    have e2 : us = [] := e2
    have e3 : vs = [] := e3
    subst e2 e3 e1
    rw [hv]; rfl
  | 3, _ =>
    obtain ⟨a, v, ha, hv, hr⟩ := key 3 _ rfl
    rw [funM_fn ha] at hr
    unfold VR at hr
    obtain ⟨us, vs, e1, e2, e3⟩ := hr
    have e2 : us = [] := e2
    have e3 : vs = [] := e3
    subst e2 e3 e1
    rw [hv]; rfl
  | 4, _ =>
    obtain ⟨a, v, ha, hv, hr⟩ := key 4 _ rfl
    rw [funM_fn ha] at hr
    unfold VR at hr
    obtain ⟨us, vs, e1, e2, e3⟩ := hr
    have e2 : us = [] := e2
    have e3 : vs = [] := e3
    subst e2 e3 e1
    rw [hv]; rfl
  | 5, _ =>
    obtain ⟨a, v, ha, hv, hr⟩ := key 5 _ rfl
    rw [funM_fn ha] at hr
    unfold VR at hr
    obtain ⟨us, vs, e1, e2, e3⟩ := hr
    have e2 : us = [] := e2
    have e3 : vs = [] := e3
    subst e2 e3 e1
    rw [hv]; rfl
def isTM (l : List Int) : Bool := decide (l = wI TM)
noncomputable def zA (σ : AH) : Bool := match σ.get 0 with
  | some ob => match ob with
    | .ints k l _ _ => match k with
      | .i64 => decide (l = zM)
      | _ => false
    | _ => false
  | none => false
theorem z_of {ρ : Ren} {σ : AH} {W : World} (hr : HR ρ σ W) (hg : ∃ s, ρ 0 = some (0, (0, s))) (h : zA σ = true) : GlobZM W := by
  unfold zA at h
  split at h
  case h_2 => cases h
  rename_i ob hob
  split at h
  case h_2 => cases h
  split at h
  case h_2 => cases h
  rename_i l e tl
  have h := of_decide_eq_true h
  subst h
  obtain ⟨s, hs⟩ := hg
  intro i hi
  have hi' : i < zM.length := hi
  obtain ⟨u, hu, hur⟩ := hr.load (i := i) (a := .int .i64 (zM[i])) hs hob (by simp [AObj.at, hi'])
  unfold VR at hur
  subst hur
  have hu : W.cell? ⟨0, i, none⟩ = some (.int .i64 zM[i]) := hu
  rw [hu]
  simp [List.getD_eq_getElem?_getD, hi']
noncomputable def tX (f : FuncId) (args : List AV) (σ : AH) : Out :=
  bif Nat.beq f 45 then (match args with
    | [] => (zA σ && funAM σ && globA σ 2 isTM && globA σ 3 isS && globA σ 5 isK, .bool true, σ)
    | _ => bad σ)
  else jF f args σ
theorem tX_mem (f : FuncId) (args : List AV) (σ : AH) : (tX f args σ).2.2 = σ := by
  unfold tX
  cases Nat.beq f 45
  · exact jF_mem f args σ
  · simp only [cond_true]
    split
    · rfl
    · rfl
end Go.Proofs.YtjgmpdklfcmelaaGreatDoor.V2
namespace Go.Proofs.YtjgmpdklfcmelaaGreatDoor
open Go.ChangeShapes Go.WideShapes Go.ChangeAt Go.RowKit
section
variable {H : Type} {enc : TypeId × Value → H} {P : Program}
theorem trodAll_stays (hl : laidOutB P = true) {W W' : World} {sp' : Nat → Bool} : ∀ {ts : List TypeId} {vs : List Value} {ds : List (DataW H)} {ps : List MemPlace}, (∀ t ∈ ts, P.readableRec t = true ∧ t < P.types.size) →
    DataW.TrodAll enc P W 0 (fun _ => true) true ts vs ds ps → (∀ p ∈ ps, W.sameAt W' p) → (∀ p ∈ ps, sp' p.block = true) → DataW.TrodAll enc P W' 0 sp' true ts vs ds ps
  | [], _, _, _, _, h, _, _ => by
    obtain ⟨rfl, rfl, rfl⟩ := trodAll_nil h
    exact trodAll_mk0
  | t :: ts, _, _, _, ht, h, h1, h2 => by
    obtain ⟨v, vs1, d, ds1, a, b, rfl, rfl, rfl, ha, hb⟩ := trodAll_cons h
    exact trodAll_cons_mk (WideElems.Trod_stays hl (ht t (by simp)).1 (ht t (by simp)).2 ha (fun p hp => h1 p (by simp [hp])) (fun p hp => h2 p (by simp [hp])))
      (trodAll_stays hl (fun t' h' => ht t' (by simp [h'])) hb (fun p hp => h1 p (by simp [hp])) (fun p hp => h2 p (by simp [hp])))
theorem post_of_below {f : Func} {s : ChangeSpec} {apart fresh handsOn again : Bool} {W W' : World} {args : Array Value} {v : Value} {ds gs : List (DataW H)} {before : List MemPlace}
    (hW : DataW.Whole enc P f.params.toList s.vars apart W args.toList ds gs before) (hl : laidOutB P = true) (hsv : s.vars = []) (hts : ∀ t ∈ f.params.toList, P.readableRec t = true ∧ t < P.types.size)
    (hb : Below W.heap.size W W') (ha : (s.fn H (ds ++ gs)).args = ds) (hgv : (s.fn H (ds ++ gs)).vars = [])
    (hres : ∀ (b : Nat) (sp : Nat → Bool) (hd : Bool), DataW.TrodAll enc P W' b sp hd f.resultTypes.toList (v.resultList f.resultTypes.size) (s.fn H (ds ++ gs)).results [])
    (hok : ∀ (j : Nat) (t : TypeId) (r : Value), f.resultTypes[j]? = some t → (v.resultList f.resultTypes.size)[j]? = some r → Value.okWide P W' .any 0 t r) :
    s.post enc P f apart fresh handsOn again W args v W' := by
  have hlt := hW.lt
  have hW0 := hW
  obtain ⟨p, q, hA0, hV, rfl, hz, hn⟩ := hW
  have hA : DataW.TrodAll enc P W 0 (fun _ => true) true f.params.toList args.toList ds p := hA0
  rw [hsv] at hV
  obtain ⟨rfl, rfl⟩ := trodVars_none hV
  rw [List.append_nil] at hlt hz hn
  have hs : ∀ x ∈ p, W.sameAt W' x := fun x hx => hb.same (hlt x hx)
  have hargs : ∀ sp : Nat → Bool, (∀ x ∈ p, sp x.block = true) → DataW.TrodAll enc P W' 0 sp true f.params.toList args.toList (s.fn H (ds ++ [])).args p := fun sp hsp => by
    rw [ha]; exact trodAll_stays hl hts hA hs hsp
  have hvars : ∀ sp : Nat → Bool, DataW.TrodVars enc P W' sp s.vars (s.fn H (ds ++ [])).vars [] := fun sp => by rw [hgv, hsv]; rfl
  have hold : ∀ x ∈ p, (fun b => decide (b < W.heap.size)) x.block = true := fun x hx => by simpa using hlt x hx
  refine ⟨ds, [], p ++ [], [], p, [], hW0, hres _ _ _, hargs _ hold, hvars _, ?_, fun _ => ?_⟩
  · exact hb.frame _
  · refine ⟨hok, _, _, ([] ++ p) ++ [], ⟨[] ++ p, [], trodAll_append (hargs _ (fun _ _ => rfl)) (hres _ _ _), hvars _, rfl, ?_, ?_⟩, ?_⟩
    · intro b off hp
      simp only [List.nil_append, List.append_nil] at hp
      rw [hb.frozen (hlt _ hp)]
      exact hz b off hp
    · intro h'
      simpa using hn h'
    · intro x hx _
      simpa using hx
end
theorem laidOut : laidOutB Tryz.prog = true := by kernel_rfl
theorem own : ownKnob Tryz.prog.godebug = none := by kernel_rfl
/-! The program's tables. -/
theorem gStart : Tryz.prog.globalNamed "longwire/hash.start" = some 3 := by kernel_rfl
theorem gConst : Tryz.prog.globalNamed "longwire/hash.constants" = some 5 := by kernel_rfl
theorem gTable : Tryz.prog.globalNamed "longwire/scribe.table" = some 2 := by kernel_rfl
theorem gMay : Tryz.prog.globalNamed "longwire/frame.may" = some 1 := by kernel_rfl
theorem gStartType : (Tryz.prog.globals[3]?).map (·.type) = some 351 := by kernel_rfl
theorem gConstType : (Tryz.prog.globals[5]?).map (·.type) = some 374 := by kernel_rfl
theorem gTableType : (Tryz.prog.globals[2]?).map (·.type) = some 349 := by kernel_rfl
theorem gMayType : (Tryz.prog.globals[1]?).map (·.type) = some 326 := by kernel_rfl
theorem cells23_ : Tryz.prog.cellsOf 23 = 1 := by kernel_rfl
theorem cells351_ : Tryz.prog.cellsOf 351 = 8 := by kernel_rfl
theorem cells374_ : Tryz.prog.cellsOf 374 = 64 := by kernel_rfl
theorem cells349_ : Tryz.prog.cellsOf 349 = 16 := by kernel_rfl
theorem cells325_ : Tryz.prog.cellsOf 325 = 1 := by kernel_rfl
theorem tabS_eq {H : Type} : (Rows.laid_longwire_hash_start : DataW H) = Lib.tabData .u32 (S0.map N32) := by kernel_rfl
theorem tabK_eq {H : Type} : (Rows.laid_longwire_hash_constants : DataW H) = Lib.tabData .u32 (KK.map N32) := by kernel_rfl
theorem tabT_eq {H : Type} : (Rows.laid_longwire_scribe_table : DataW H) = Lib.tabData .u32 (V2.TM.map N32) := by kernel_rfl
theorem row_laid {W : World} {name : String} {g t : Nat} {n : Nat} {T : List UInt32} {data : DataW Unit} {rest : List (String × DataW Unit)} (hg : Tryz.prog.globalNamed name = some g) (ht : (Tryz.prog.globals[g]?).map (·.type) = some t)
    (hu : Tryz.prog.underlying t = some (.array n 23)) (hc : Tryz.prog.cellsOf t = n) (hd : data = Lib.tabData .u32 (T.map N32)) (h : laidMet Tryz.prog ((name, data) :: rest) W) : ∀ i, i < T.length → W.cell? ⟨g, i, none⟩ = some (.int .u32 (N32 (at32 T i))) := by
  rw [hd] at h
  intro i hi
  have := (Lib.tabIs_of_head hg ht hu Tryz.underlying23 cells23_ hc h).cell hg i (by simpa using hi)
  rw [this]
  simp [at32, List.getD_eq_getElem?_getD, hi]
theorem nil_of_trod {w : World} {sp : Nat → Bool} {fuel : Nat} {t : TypeId} {ps rs : Array TypeId} {va : Bool} {v : Value} {q : List MemPlace} (ht : Tryz.prog.underlying t = some (.func ps rs va))
    (h : DataW.trod (funcToken Tryz.prog) Tryz.prog w 0 sp true fuel t [v] = some (.nil, q)) : v = .nilFunc := by
  cases fuel with
  | zero => simp [DataW.trod] at h
  | succ n => cases v <;> simp [DataW.trod, ht] at h ⊢
set_option maxRecDepth 100000 in
theorem globF_of {W : World} (h : funcsAt Tryz.prog W "longwire/frame.may" (.agg [.nil, .iface "func" (.lit (.string [108, 111, 110, 103, 119, 105, 114, 101, 47, 102, 114, 97, 109, 101, 46, 98, 97, 114, 101])), .iface "func" (.lit (.string [108, 111, 110, 103, 119, 105, 114, 101, 47, 102, 114, 97, 109, 101, 46, 98, 97, 114, 101])), .iface "func" (.lit (.string [108, 111, 110, 103, 119, 105, 114, 101, 47, 102, 114, 97, 109, 101, 46, 109, 97, 121, 36, 49])), .iface "func" (.lit (.string [108, 111, 110, 103, 119, 105, 114, 101, 47, 102, 114, 97, 109, 101, 46, 109, 97, 121, 36, 50])), .iface "func" (.lit (.string [108, 111, 110, 103, 119, 105, 114, 101, 47, 102, 114, 97, 109, 101, 46, 98, 97, 114, 101]))])) : V2.GlobFM W := by
  obtain ⟨g, t, cs, fuel, p, hg, ht, hv, hd⟩ := h
  obtain rfl := Option.some.inj (gMay.symm.trans hg)
  obtain rfl := Option.some.inj (gMayType.symm.trans ht)
  obtain ⟨xs, m, _, hx, _, hlen, hel⟩ := DataW.trod_array Tryz.underlying326 hd
  rw [cells325_] at hel
  have hx2 : (DataW.agg ([.nil, .held [108, 111, 110, 103, 119, 105, 114, 101, 47, 102, 114, 97, 109, 101, 46, 98, 97, 114, 101], .held [108, 111, 110, 103, 119, 105, 114, 101, 47, 102, 114, 97, 109, 101, 46, 98, 97, 114, 101], .held [108, 111, 110, 103, 119, 105, 114, 101, 47, 102, 114, 97, 109, 101, 46, 109, 97, 121, 36, 49], .held [108, 111, 110, 103, 119, 105, 114, 101, 47, 102, 114, 97, 109, 101, 46, 109, 97, 121, 36, 50], .held [108, 111, 110, 103, 119, 105, 114, 101, 47, 102, 114, 97, 109, 101, 46, 98, 97, 114, 101]] : List (DataW (List UInt8))), p) = (.agg (xs.map (·.1)), xs.flatMap (·.2)) := hx
  have hx1 : xs.map (·.1) = ([.nil, .held [108, 111, 110, 103, 119, 105, 114, 101, 47, 102, 114, 97, 109, 101, 46, 98, 97, 114, 101], .held [108, 111, 110, 103, 119, 105, 114, 101, 47, 102, 114, 97, 109, 101, 46, 98, 97, 114, 101], .held [108, 111, 110, 103, 119, 105, 114, 101, 47, 102, 114, 97, 109, 101, 46, 109, 97, 121, 36, 49], .held [108, 111, 110, 103, 119, 105, 114, 101, 47, 102, 114, 97, 109, 101, 46, 109, 97, 121, 36, 50], .held [108, 111, 110, 103, 119, 105, 114, 101, 47, 102, 114, 97, 109, 101, 46, 98, 97, 114, 101]] : List (DataW (List UInt8))) := (DataW.agg.inj (Prod.mk.inj hx2).1).symm
  have key : ∀ (i : Nat) (d : DataW (List UInt8)), i < 6 → ([.nil, .held [108, 111, 110, 103, 119, 105, 114, 101, 47, 102, 114, 97, 109, 101, 46, 98, 97, 114, 101], .held [108, 111, 110, 103, 119, 105, 114, 101, 47, 102, 114, 97, 109, 101, 46, 98, 97, 114, 101], .held [108, 111, 110, 103, 119, 105, 114, 101, 47, 102, 114, 97, 109, 101, 46, 109, 97, 121, 36, 49], .held [108, 111, 110, 103, 119, 105, 114, 101, 47, 102, 114, 97, 109, 101, 46, 109, 97, 121, 36, 50], .held [108, 111, 110, 103, 119, 105, 114, 101, 47, 102, 114, 97, 109, 101, 46, 98, 97, 114, 101]] : List (DataW (List UInt8)))[i]? = some d → ∃ v q, cs[i]? = some v ∧ DataW.trod (funcToken Tryz.prog) Tryz.prog W 0 (fun _ => true) true m 325 [v] = some (d, q) := fun i d hi hd => by
    have h1 := hel i hi
    rw [← hx1, List.getElem?_map, Option.map_eq_some_iff] at hd
    obtain ⟨⟨d', q⟩, hq, rfl⟩ := hd
    rw [hq, Nat.mul_one] at h1
    cases hc : cs.toList.drop i with
    | nil => rw [hc] at h1; cases m <;> simp [DataW.trod, Tryz.underlying325] at h1
    | cons v r =>
      rw [hc] at h1
      refine ⟨v, q, ?_, h1⟩
      rw [← Array.getElem?_toList, ← Nat.add_zero i, ← List.getElem?_drop, hc]; rfl
  intro i hi
  rw [World.var?_cell hg hv i]
  match i, hi with
  | 0, _ =>
    obtain ⟨v, q, hc, hr⟩ := key 0 _ (by omega) rfl
    rw [hc]
    rw [nil_of_trod Tryz.underlying325 hr]; rfl
  | 1, _ =>
    obtain ⟨v, q, hc, hr⟩ := key 1 _ (by omega) rfl
    rw [hc]
    rw [func_of_trod (f0 := 342) Tryz.underlying325 (by kernel_rfl) hr]; rfl
  | 2, _ =>
    obtain ⟨v, q, hc, hr⟩ := key 2 _ (by omega) rfl
    rw [hc]
    rw [func_of_trod (f0 := 342) Tryz.underlying325 (by kernel_rfl) hr]; rfl
  | 3, _ =>
    obtain ⟨v, q, hc, hr⟩ := key 3 _ (by omega) rfl
    rw [hc]
    rw [func_of_trod (f0 := 343) Tryz.underlying325 (by kernel_rfl) hr]; rfl
  | 4, _ =>
    obtain ⟨v, q, hc, hr⟩ := key 4 _ (by omega) rfl
    rw [hc]
    rw [func_of_trod (f0 := 344) Tryz.underlying325 (by kernel_rfl) hr]; rfl
  | 5, _ =>
    obtain ⟨v, q, hc, hr⟩ := key 5 _ (by omega) rfl
    rw [hc]
    rw [func_of_trod (f0 := 342) Tryz.underlying325 (by kernel_rfl) hr]; rfl
theorem gFrom : Tryz.prog.globalNamed "longwire/mux.from" = some 0 := by kernel_rfl
theorem gFromType : (Tryz.prog.globals[0]?).map (·.type) = some 200 := by kernel_rfl
theorem cells3_ : Tryz.prog.cellsOf 3 = 1 := by kernel_rfl
theorem cells200_ : Tryz.prog.cellsOf 200 = 5 := by kernel_rfl
theorem globZ_of {W : World} {rest : List (String × DataW Unit)} (h : laidMet Tryz.prog (("longwire/mux.from", Rows.laid_longwire_mux_from) :: rest) W) : V2.GlobZM W := by
  have e : (Rows.laid_longwire_mux_from : DataW Unit) = Lib.tabData .i64 V2.zM := by kernel_rfl
  rw [e] at h
  intro i hi
  have hi' : i < V2.zM.length := hi
  have := (Lib.tabIs_of_head gFrom gFromType Tryz.underlying200 Tryz.underlying3 cells3_ cells200_ h).cell gFrom i hi'
  rw [this]
theorem globs_of {W : World} (h : laidMetH Tryz.prog Rows.muxKnownRow.laid W) : V2.GlobM W := by
  have hd : laidMet Tryz.prog [("longwire/hash.start", Rows.laid_longwire_hash_start), ("longwire/hash.constants", Rows.laid_longwire_hash_constants), ("longwire/scribe.table", Rows.laid_longwire_scribe_table), ("longwire/mux.from", Rows.laid_longwire_mux_from)] W := h.1
  have hK := row_laid gConst gConstType Tryz.underlying374 cells374_ tabK_eq hd.tail
  refine ⟨globZ_of hd.tail.tail.tail, globF_of (h.funcs (by simp [Rows.muxKnownRow, Rows.laid_longwire_frame_may])), row_laid gTable gTableType Tryz.underlying349 cells349_ tabT_eq hd.tail.tail, row_laid gStart gStartType Tryz.underlying351 cells351_ tabS_eq hd, hK, ?_⟩
  have := hK 0 (by decide)
  unfold World.cell? at this
  split at this
  · rename_i hh; exact (Array.getElem?_eq_some_iff.1 hh).1
  · cases this
end Go.Proofs.YtjgmpdklfcmelaaGreatDoor
namespace Go.Proofs.YtjgmpdklfcmelaaGreatDoor.V2
open Go
set_option linter.unusedVariables false
open Go.RowKit
def l45_0 : List (Nat × FV) := []
def m45_0 : List (Nat × FObj) := [(0, gb0), (1, gb1), (2, gb2), (3, gb3), (4, gb4), (5, gb5)]
theorem u45_0_lt : (l45_0.all fun p => Nat.blt p.1 1024) = true := by kernel_rfl
def o45_1 : List Nat := [0, 1, 2, 3, 4, 5, 46, 83, 38, 49, 55, 61, 67, 73, 52, 58, 64, 70, 76, 135, 45, 86, 92, 98, 104, 110, 89, 95, 101, 107, 113, 35, 37, 126, 133, 42, 44, 33, 34, 36, 40, 41, 43]
def l45_1 : List (Nat × FV) := [(0, .b false), (1, .p 6 0), (2, .p 7 0)]
def m45_1 : List (Nat × FObj) := [(0, gb0), (1, gb1), (2, gb2), (3, gb3), (4, gb4), (5, gb5), (6, .cells [.n .i64 0, .p 8 0, .p 9 0, .p 10 0, .p 11 0, .p 12 0, .p 13 0, .p 14 0, .p 15 0, .p 16 0, .p 17 0, .p 18 0, .o .sl, .o .sl, .o .sl, .o .sl, .o .sl, .sl 19 0 2 2 false 1, .n .i64 0, .o .sl, .b false, .b false] 79 .exact), (7, .cells [.n .i64 1, .p 20 0, .p 21 0, .p 22 0, .p 23 0, .p 24 0, .p 25 0, .p 26 0, .p 27 0, .p 28 0, .p 29 0, .p 30 0, .o .sl, .o .sl, .o .sl, .o .sl, .o .sl, .o .sl, .n .i64 0, .o .sl, .b false, .b false] 79 .exact), (8, .cells [.n .u32 7, .n .u32 1, .n .u8 166, .n .u8 82, .n .u8 83, .n .u8 143, .n .u8 10, .n .u8 84, .n .u8 246, .n .u8 36, .n .u8 68, .n .u8 64, .n .u8 100, .n .u8 17, .n .u8 196, .n .u8 30, .n .u8 119, .n .u8 15, .n .u8 239, .n .u8 248, .n .u8 18, .n .u8 216, .n .u8 104, .n .u8 81, .n .u8 60, .n .u8 97, .n .u8 135, .n .u8 230, .n .u8 166, .n .u8 234, .n .u8 33, .n .u8 124, .n .u8 248, .n .u8 179, .n .u8 150, .n .u8 220, .n .u8 33, .n .u8 215, .n .u8 12, .n .u8 226, .n .u8 121, .n .u8 95, .n .u8 109, .n .u8 246, .n .u8 244, .n .u8 68, .n .u8 189, .n .u8 205, .n .u8 96, .n .u8 43, .n .u8 73, .n .u8 17, .n .u8 76, .n .u8 222, .n .u8 123, .n .u8 224, .n .u8 1, .n .u8 49, .n .u8 220, .n .u8 136, .n .u8 46, .n .u8 130, .n .u8 54, .n .u8 16, .n .u8 219, .n .u8 115, .n .u32 5000, .n .i64 3, .n .i64 12, .p 31 0, .p 32 0, .b false] 31 .exact), (9, .ints .u64 [Int.ofNat 300, Int.ofNat 300, Int.ofNat 300] 301 .exact), (10, .ints .u64 [Int.ofNat 300, Int.ofNat 300, Int.ofNat 0] 301 .exact), (11, .ints .u64 [Int.ofNat 300, Int.ofNat 300, Int.ofNat 0] 301 .exact), (12, .ints .u64 [Int.ofNat 300, Int.ofNat 300, Int.ofNat 0] 301 .exact), (13, .ints .u64 [Int.ofNat 300, Int.ofNat 300, Int.ofNat 0] 301 .exact), (14, .ints .u64 [Int.ofNat 300, Int.ofNat 300, Int.ofNat 0, Int.ofNat 0] 304 .exact), (15, .ints .u64 [Int.ofNat 300, Int.ofNat 300, Int.ofNat 0, Int.ofNat 0] 304 .exact), (16, .ints .u64 [Int.ofNat 300, Int.ofNat 300, Int.ofNat 0, Int.ofNat 0] 304 .exact), (17, .ints .u64 [Int.ofNat 300, Int.ofNat 300, Int.ofNat 0, Int.ofNat 0] 304 .exact), (18, .ints .u64 [Int.ofNat 300, Int.ofNat 300, Int.ofNat 0, Int.ofNat 0] 304 .exact), (19, .cells [.sl 33 0 256 256 false 1, .sl 34 0 47 47 false 1] 49 .more), (20, .cells [.n .u32 7, .n .u32 1, .n .u8 150, .n .u8 220, .n .u8 33, .n .u8 215, .n .u8 12, .n .u8 226, .n .u8 121, .n .u8 95, .n .u8 109, .n .u8 246, .n .u8 244, .n .u8 68, .n .u8 189, .n .u8 205, .n .u8 96, .n .u8 43, .n .u8 73, .n .u8 17, .n .u8 76, .n .u8 222, .n .u8 123, .n .u8 224, .n .u8 1, .n .u8 49, .n .u8 220, .n .u8 136, .n .u8 46, .n .u8 130, .n .u8 54, .n .u8 16, .n .u8 219, .n .u8 115, .n .u8 166, .n .u8 82, .n .u8 83, .n .u8 143, .n .u8 10, .n .u8 84, .n .u8 246, .n .u8 36, .n .u8 68, .n .u8 64, .n .u8 100, .n .u8 17, .n .u8 196, .n .u8 30, .n .u8 119, .n .u8 15, .n .u8 239, .n .u8 248, .n .u8 18, .n .u8 216, .n .u8 104, .n .u8 81, .n .u8 60, .n .u8 97, .n .u8 135, .n .u8 230, .n .u8 166, .n .u8 234, .n .u8 33, .n .u8 124, .n .u8 248, .n .u8 179, .n .u32 5000, .n .i64 3, .n .i64 12, .p 35 0, .p 36 0, .b false] 31 .exact), (21, .ints .u64 [Int.ofNat 300, Int.ofNat 300, Int.ofNat 0] 301 .exact), (22, .ints .u64 [Int.ofNat 300, Int.ofNat 300, Int.ofNat 0] 301 .exact), (23, .ints .u64 [Int.ofNat 300, Int.ofNat 300, Int.ofNat 0] 301 .exact), (24, .ints .u64 [Int.ofNat 300, Int.ofNat 300, Int.ofNat 0] 301 .exact), (25, .ints .u64 [Int.ofNat 300, Int.ofNat 300, Int.ofNat 0] 301 .exact), (26, .ints .u64 [Int.ofNat 300, Int.ofNat 300, Int.ofNat 0, Int.ofNat 0] 304 .exact), (27, .ints .u64 [Int.ofNat 300, Int.ofNat 300, Int.ofNat 0, Int.ofNat 0] 304 .exact), (28, .ints .u64 [Int.ofNat 300, Int.ofNat 300, Int.ofNat 0, Int.ofNat 0] 304 .exact), (29, .ints .u64 [Int.ofNat 300, Int.ofNat 300, Int.ofNat 0, Int.ofNat 0] 304 .exact), (30, .ints .u64 [Int.ofNat 300, Int.ofNat 300, Int.ofNat 0, Int.ofNat 0] 304 .exact), (31, .cells [.p 37 0, .n .i64 3, .n .i64 12, .m 38] 251 .exact), (32, .cells [.n .u32 0, .m 39] 256 .exact), (33, .bs 32317006071311007300714876688669951960444102669715484032130345427524655138867890893197201411522913463688717960921898019494119559150490921095088152386448283120630877367300996091750197750389652106796057638384067568276792218642619756161838094338476170470581645852036305042887575891541065808607552399123930385521914333389668342420684974786564569494856176035326322058077805659331026192708460314150258592864177116725943603718461857357598351152301645904403697613233287231227125684710820209725157101726931323469678542580656697935045997268352998638215525166389437335543602135433229604645318478604952148193555853611059596230656 5 .more), (34, .bs 153914086704665934422965000391185991426092731525255651046673021110334850669910978950836977558144201721900890587392 5 .more), (35, .cells [.p 40 0, .n .i64 3, .n .i64 12, .m 41] 251 .exact), (36, .cells [.n .u32 0, .m 42] 256 .exact), (37, .ints .u32 [Int.ofNat 0, Int.ofNat 5000] 275 .exact), (38, .map []), (39, .map []), (40, .ints .u32 [Int.ofNat 0, Int.ofNat 5000] 275 .exact), (41, .map []), (42, .map [])]
theorem u45_1_lt : (l45_1.all fun p => Nat.blt p.1 1024) = true := by kernel_rfl
theorem n45_1_ok : okN o45_1 43 (αl l45_1) (αm m45_1) = true := by kernel_rfl
theorem d45_1_ok : distN (l45_1.map (·.1)) = true := by kernel_rfl
theorem w45_1_ok : ((List.range 6).map fun b => (ofM (αm m45_1)).get b) = (List.range 6).map fun b => (lowL (αm m45_1) b).map (mapO (rn o45_1)) := by kernel_rfl
def o45_2 : List Nat := [0, 1, 2, 3, 4, 5, 6, 7, 272, 8, 9, 10, 11, 12, 13, 14, 15, 16, 17, 18, 19, 20, 21, 22, 23, 24, 25, 26, 27, 28, 29, 30, 170, 270, 31, 32, 33, 34, 35, 36, 37, 38, 39, 40, 41, 42, 44, 46]
def l45_2 : List (Nat × FV) := [(0, .b false), (1, .p 6 0), (2, .p 7 0), (3, .sl 8 0 2 2 false 1), (4, .n .i64 0)]
def m45_2 : List (Nat × FObj) := [(0, gb0), (1, gb1), (2, gb2), (3, gb3), (4, gb4), (5, gb5), (6, .cells [.n .i64 0, .p 9 0, .p 10 0, .p 11 0, .p 12 0, .p 13 0, .p 14 0, .p 15 0, .p 16 0, .p 17 0, .p 18 0, .p 19 0, .o .sl, .o .sl, .o .sl, .o .sl, .o .sl, .sl 20 2 0 0 false 1, .n .i64 0, .o .sl, .b false, .b false] 79 .exact), (7, .cells [.n .i64 1, .p 21 0, .p 22 0, .p 23 0, .p 24 0, .p 25 0, .p 26 0, .p 27 0, .p 28 0, .p 29 0, .p 30 0, .p 31 0, .o .sl, .o .sl, .o .sl, .o .sl, .o .sl, .o .sl, .n .i64 0, .o .sl, .b false, .b false] 79 .exact), (8, .cells [.sl 32 0 291 291 false 1, .sl 33 0 82 82 false 1] 49 .more), (9, .cells [.n .u32 7, .n .u32 1, .n .u8 166, .n .u8 82, .n .u8 83, .n .u8 143, .n .u8 10, .n .u8 84, .n .u8 246, .n .u8 36, .n .u8 68, .n .u8 64, .n .u8 100, .n .u8 17, .n .u8 196, .n .u8 30, .n .u8 119, .n .u8 15, .n .u8 239, .n .u8 248, .n .u8 18, .n .u8 216, .n .u8 104, .n .u8 81, .n .u8 60, .n .u8 97, .n .u8 135, .n .u8 230, .n .u8 166, .n .u8 234, .n .u8 33, .n .u8 124, .n .u8 248, .n .u8 179, .n .u8 150, .n .u8 220, .n .u8 33, .n .u8 215, .n .u8 12, .n .u8 226, .n .u8 121, .n .u8 95, .n .u8 109, .n .u8 246, .n .u8 244, .n .u8 68, .n .u8 189, .n .u8 205, .n .u8 96, .n .u8 43, .n .u8 73, .n .u8 17, .n .u8 76, .n .u8 222, .n .u8 123, .n .u8 224, .n .u8 1, .n .u8 49, .n .u8 220, .n .u8 136, .n .u8 46, .n .u8 130, .n .u8 54, .n .u8 16, .n .u8 219, .n .u8 115, .n .u32 5000, .n .i64 3, .n .i64 12, .p 34 0, .p 35 0, .b false] 31 .exact), (10, .ints .u64 [Int.ofNat 300, Int.ofNat 300, Int.ofNat 300] 301 .exact), (11, .ints .u64 [Int.ofNat 300, Int.ofNat 300, Int.ofNat 0] 301 .exact), (12, .ints .u64 [Int.ofNat 300, Int.ofNat 300, Int.ofNat 0] 301 .exact), (13, .ints .u64 [Int.ofNat 300, Int.ofNat 300, Int.ofNat 0] 301 .exact), (14, .ints .u64 [Int.ofNat 300, Int.ofNat 300, Int.ofNat 0] 301 .exact), (15, .ints .u64 [Int.ofNat 300, Int.ofNat 300, Int.ofNat 0, Int.ofNat 0] 304 .exact), (16, .ints .u64 [Int.ofNat 300, Int.ofNat 300, Int.ofNat 0, Int.ofNat 0] 304 .exact), (17, .ints .u64 [Int.ofNat 300, Int.ofNat 300, Int.ofNat 0, Int.ofNat 0] 304 .exact), (18, .ints .u64 [Int.ofNat 300, Int.ofNat 300, Int.ofNat 0, Int.ofNat 0] 304 .exact), (19, .ints .u64 [Int.ofNat 300, Int.ofNat 300, Int.ofNat 0, Int.ofNat 0] 304 .exact), (20, .cells [.sl 36 0 256 256 false 1, .sl 37 0 47 47 false 1] 49 .more), (21, .cells [.n .u32 7, .n .u32 1, .n .u8 150, .n .u8 220, .n .u8 33, .n .u8 215, .n .u8 12, .n .u8 226, .n .u8 121, .n .u8 95, .n .u8 109, .n .u8 246, .n .u8 244, .n .u8 68, .n .u8 189, .n .u8 205, .n .u8 96, .n .u8 43, .n .u8 73, .n .u8 17, .n .u8 76, .n .u8 222, .n .u8 123, .n .u8 224, .n .u8 1, .n .u8 49, .n .u8 220, .n .u8 136, .n .u8 46, .n .u8 130, .n .u8 54, .n .u8 16, .n .u8 219, .n .u8 115, .n .u8 166, .n .u8 82, .n .u8 83, .n .u8 143, .n .u8 10, .n .u8 84, .n .u8 246, .n .u8 36, .n .u8 68, .n .u8 64, .n .u8 100, .n .u8 17, .n .u8 196, .n .u8 30, .n .u8 119, .n .u8 15, .n .u8 239, .n .u8 248, .n .u8 18, .n .u8 216, .n .u8 104, .n .u8 81, .n .u8 60, .n .u8 97, .n .u8 135, .n .u8 230, .n .u8 166, .n .u8 234, .n .u8 33, .n .u8 124, .n .u8 248, .n .u8 179, .n .u32 5000, .n .i64 3, .n .i64 12, .p 38 0, .p 39 0, .b false] 31 .exact), (22, .ints .u64 [Int.ofNat 300, Int.ofNat 300, Int.ofNat 0] 301 .exact), (23, .ints .u64 [Int.ofNat 300, Int.ofNat 300, Int.ofNat 0] 301 .exact), (24, .ints .u64 [Int.ofNat 300, Int.ofNat 300, Int.ofNat 0] 301 .exact), (25, .ints .u64 [Int.ofNat 300, Int.ofNat 300, Int.ofNat 0] 301 .exact), (26, .ints .u64 [Int.ofNat 300, Int.ofNat 300, Int.ofNat 0] 301 .exact), (27, .ints .u64 [Int.ofNat 300, Int.ofNat 300, Int.ofNat 0, Int.ofNat 0] 304 .exact), (28, .ints .u64 [Int.ofNat 300, Int.ofNat 300, Int.ofNat 0, Int.ofNat 0] 304 .exact), (29, .ints .u64 [Int.ofNat 300, Int.ofNat 300, Int.ofNat 0, Int.ofNat 0] 304 .exact), (30, .ints .u64 [Int.ofNat 300, Int.ofNat 300, Int.ofNat 0, Int.ofNat 0] 304 .exact), (31, .ints .u64 [Int.ofNat 300, Int.ofNat 300, Int.ofNat 0, Int.ofNat 0] 304 .exact), (32, .bs 92935056938687414464580125756660216822990856557150220284201601085210159489800857793506723318663279280699426118338560623244952426423645826668627360907536461038027564939798235041723641438060394923775092604400439504820923496963893716534556898651325780620184408802525807100628276311742251265769807359825041083124419877607102348886607520996236862556332117675754951821918367122770670876370712474667777716623215397274730077303991229064688635112174841397395352617172424458252027653763770657985500871757091820212319323692964709490072922846394536979864796193033334906752772222556493382347951738418117573575643670801979989948401170364081459143741126781075825958058803179497455309815092320986200095271447301193731 5 .more), (33, .bs 588138059742490433326569204008062497317939172765074558746605153363126172882044368442383097507009880944075083621109575282202444351885309192765346956122643997436550755050324482477912999897204021788675 5 .more), (34, .cells [.p 40 0, .n .i64 3, .n .i64 12, .m 41] 251 .exact), (35, .cells [.n .u32 0, .m 42] 256 .exact), (36, .bs 32317006071311007300714876688669951960444102669715484032130345427524655138867890893197201411522913463688717960921898019494119559150490921095088152386448283120630877367300996091750197750389652106796057638384067568276792218642619756161838094338476170470581645852036305042887575891541065808607552399123930385521914333389668342420684974786564569494856176035326322058077805659331026192708460314150258592864177116725943603718461857357598351152301645904403697613233287231227125684710820209725157101726931323469678542580656697935045997268352998638215525166389437335543602135433229604645318478604952148193555853611059596230656 5 .more), (37, .bs 153914086704665934422965000391185991426092731525255651046673021110334850669910978950836977558144201721900890587392 5 .more), (38, .cells [.p 43 0, .n .i64 3, .n .i64 12, .m 44] 251 .exact), (39, .cells [.n .u32 0, .m 45] 256 .exact), (40, .ints .u32 [Int.ofNat 2, Int.ofNat 5000] 275 .exact), (41, .map [(.n .u32 0, .agg [.n .u32 0, .sl 46 0 256 256 false 1, .n .i64 1, .n .i64 3]), (.n .u32 1, .agg [.n .u32 1, .sl 47 0 47 47 false 1, .n .i64 1, .n .i64 3])]), (42, .map []), (43, .ints .u32 [Int.ofNat 0, Int.ofNat 5000] 275 .exact), (44, .map []), (45, .map []), (46, .bs 32317006071311007300714876688669951960444102669715484032130345427524655138867890893197201411522913463688717960921898019494119559150490921095088152386448283120630877367300996091750197750389652106796057638384067568276792218642619756161838094338476170470581645852036305042887575891541065808607552399123930385521914333389668342420684974786564569494856176035326322058077805659331026192708460314150258592864177116725943603718461857357598351152301645904403697613233287231227125684710820209725157101726931323469678542580656697935045997268352998638215525166389437335543602135433229604645318478604952148193555853611059596230656 5 .more), (47, .bs 153914086704665934422965000391185991426092731525255651046673021110334850669910978950836977558144201721900890587392 5 .more)]
theorem u45_2_lt : (l45_2.all fun p => Nat.blt p.1 1024) = true := by kernel_rfl
theorem n45_2_ok : okN o45_2 48 (αl l45_2) (αm m45_2) = true := by kernel_rfl
theorem d45_2_ok : distN (l45_2.map (·.1)) = true := by kernel_rfl
theorem w45_2_ok : ((List.range 6).map fun b => (ofM (αm m45_2)).get b) = (List.range 6).map fun b => (lowL (αm m45_2) b).map (mapO (rn o45_2)) := by kernel_rfl
def o45_3 : List Nat := [0, 1, 2, 3, 4, 5, 6, 7, 9, 10, 11, 12, 13, 14, 15, 16, 17, 18, 19, 20, 21, 22, 23, 24, 25, 26, 27, 28, 29, 30, 31, 247, 34, 35, 36, 37, 38, 39, 40, 41, 42, 43, 44, 45, 46, 47]
def l45_3 : List (Nat × FV) := [(0, .b false), (1, .p 6 0), (2, .p 7 0)]
def m45_3 : List (Nat × FObj) := [(0, gb0), (1, gb1), (2, gb2), (3, gb3), (4, gb4), (5, gb5), (6, .cells [.n .i64 0, .p 8 0, .p 9 0, .p 10 0, .p 11 0, .p 12 0, .p 13 0, .p 14 0, .p 15 0, .p 16 0, .p 17 0, .p 18 0, .o .sl, .o .sl, .o .sl, .o .sl, .o .sl, .sl 19 2 0 0 false 1, .n .i64 0, .o .sl, .b false, .b false] 79 .exact), (7, .cells [.n .i64 1, .p 20 0, .p 21 0, .p 22 0, .p 23 0, .p 24 0, .p 25 0, .p 26 0, .p 27 0, .p 28 0, .p 29 0, .p 30 0, .sl 31 0 10 10 false 1, .o .sl, .o .sl, .o .sl, .o .sl, .o .sl, .n .i64 0, .o .sl, .b false, .b false] 79 .exact), (8, .cells [.n .u32 7, .n .u32 1, .n .u8 166, .n .u8 82, .n .u8 83, .n .u8 143, .n .u8 10, .n .u8 84, .n .u8 246, .n .u8 36, .n .u8 68, .n .u8 64, .n .u8 100, .n .u8 17, .n .u8 196, .n .u8 30, .n .u8 119, .n .u8 15, .n .u8 239, .n .u8 248, .n .u8 18, .n .u8 216, .n .u8 104, .n .u8 81, .n .u8 60, .n .u8 97, .n .u8 135, .n .u8 230, .n .u8 166, .n .u8 234, .n .u8 33, .n .u8 124, .n .u8 248, .n .u8 179, .n .u8 150, .n .u8 220, .n .u8 33, .n .u8 215, .n .u8 12, .n .u8 226, .n .u8 121, .n .u8 95, .n .u8 109, .n .u8 246, .n .u8 244, .n .u8 68, .n .u8 189, .n .u8 205, .n .u8 96, .n .u8 43, .n .u8 73, .n .u8 17, .n .u8 76, .n .u8 222, .n .u8 123, .n .u8 224, .n .u8 1, .n .u8 49, .n .u8 220, .n .u8 136, .n .u8 46, .n .u8 130, .n .u8 54, .n .u8 16, .n .u8 219, .n .u8 115, .n .u32 5000, .n .i64 3, .n .i64 12, .p 32 0, .p 33 0, .b false] 31 .exact), (9, .ints .u64 [Int.ofNat 300, Int.ofNat 300, Int.ofNat 300] 301 .exact), (10, .ints .u64 [Int.ofNat 300, Int.ofNat 300, Int.ofNat 0] 301 .exact), (11, .ints .u64 [Int.ofNat 300, Int.ofNat 300, Int.ofNat 0] 301 .exact), (12, .ints .u64 [Int.ofNat 300, Int.ofNat 300, Int.ofNat 0] 301 .exact), (13, .ints .u64 [Int.ofNat 300, Int.ofNat 300, Int.ofNat 0] 301 .exact), (14, .ints .u64 [Int.ofNat 300, Int.ofNat 300, Int.ofNat 0, Int.ofNat 0] 304 .exact), (15, .ints .u64 [Int.ofNat 300, Int.ofNat 300, Int.ofNat 0, Int.ofNat 0] 304 .exact), (16, .ints .u64 [Int.ofNat 300, Int.ofNat 300, Int.ofNat 0, Int.ofNat 0] 304 .exact), (17, .ints .u64 [Int.ofNat 300, Int.ofNat 300, Int.ofNat 0, Int.ofNat 0] 304 .exact), (18, .ints .u64 [Int.ofNat 300, Int.ofNat 300, Int.ofNat 0, Int.ofNat 0] 304 .exact), (19, .cells [.sl 34 0 256 256 false 1, .sl 35 0 47 47 false 1] 49 .more), (20, .cells [.n .u32 7, .n .u32 1, .n .u8 150, .n .u8 220, .n .u8 33, .n .u8 215, .n .u8 12, .n .u8 226, .n .u8 121, .n .u8 95, .n .u8 109, .n .u8 246, .n .u8 244, .n .u8 68, .n .u8 189, .n .u8 205, .n .u8 96, .n .u8 43, .n .u8 73, .n .u8 17, .n .u8 76, .n .u8 222, .n .u8 123, .n .u8 224, .n .u8 1, .n .u8 49, .n .u8 220, .n .u8 136, .n .u8 46, .n .u8 130, .n .u8 54, .n .u8 16, .n .u8 219, .n .u8 115, .n .u8 166, .n .u8 82, .n .u8 83, .n .u8 143, .n .u8 10, .n .u8 84, .n .u8 246, .n .u8 36, .n .u8 68, .n .u8 64, .n .u8 100, .n .u8 17, .n .u8 196, .n .u8 30, .n .u8 119, .n .u8 15, .n .u8 239, .n .u8 248, .n .u8 18, .n .u8 216, .n .u8 104, .n .u8 81, .n .u8 60, .n .u8 97, .n .u8 135, .n .u8 230, .n .u8 166, .n .u8 234, .n .u8 33, .n .u8 124, .n .u8 248, .n .u8 179, .n .u32 5000, .n .i64 3, .n .i64 12, .p 36 0, .p 37 0, .b true] 31 .exact), (21, .ints .u64 [Int.ofNat 300, Int.ofNat 300, Int.ofNat 0] 301 .exact), (22, .ints .u64 [Int.ofNat 300, Int.ofNat 300, Int.ofNat 0] 301 .exact), (23, .ints .u64 [Int.ofNat 300, Int.ofNat 300, Int.ofNat 0] 301 .exact), (24, .ints .u64 [Int.ofNat 300, Int.ofNat 300, Int.ofNat 0] 301 .exact), (25, .ints .u64 [Int.ofNat 300, Int.ofNat 300, Int.ofNat 0] 301 .exact), (26, .ints .u64 [Int.ofNat 300, Int.ofNat 600, Int.ofNat 300, Int.ofNat 300] 304 .exact), (27, .ints .u64 [Int.ofNat 300, Int.ofNat 300, Int.ofNat 0, Int.ofNat 0] 304 .exact), (28, .ints .u64 [Int.ofNat 300, Int.ofNat 300, Int.ofNat 0, Int.ofNat 0] 304 .exact), (29, .ints .u64 [Int.ofNat 300, Int.ofNat 300, Int.ofNat 0, Int.ofNat 0] 304 .exact), (30, .ints .u64 [Int.ofNat 300, Int.ofNat 300, Int.ofNat 0, Int.ofNat 0] 304 .exact), (31, .bs 1624530963595305372614661 5 .more), (32, .cells [.p 38 0, .n .i64 3, .n .i64 12, .m 39] 251 .exact), (33, .cells [.n .u32 0, .m 40] 256 .exact), (34, .bs 32317006071311007300714876688669951960444102669715484032130345427524655138867890893197201411522913463688717960921898019494119559150490921095088152386448283120630877367300996091750197750389652106796057638384067568276792218642619756161838094338476170470581645852036305042887575891541065808607552399123930385521914333389668342420684974786564569494856176035326322058077805659331026192708460314150258592864177116725943603718461857357598351152301645904403697613233287231227125684710820209725157101726931323469678542580656697935045997268352998638215525166389437335543602135433229604645318478604952148193555853611059596230656 5 .more), (35, .bs 153914086704665934422965000391185991426092731525255651046673021110334850669910978950836977558144201721900890587392 5 .more), (36, .cells [.p 41 0, .n .i64 3, .n .i64 12, .m 42] 251 .exact), (37, .cells [.n .u32 2, .m 43] 256 .exact), (38, .ints .u32 [Int.ofNat 2, Int.ofNat 5000] 275 .exact), (39, .map [(.n .u32 0, .agg [.n .u32 0, .sl 44 0 256 256 false 1, .n .i64 1, .n .i64 3]), (.n .u32 1, .agg [.n .u32 1, .sl 45 0 47 47 false 1, .n .i64 1, .n .i64 3])]), (40, .map []), (41, .ints .u32 [Int.ofNat 0, Int.ofNat 5000] 275 .exact), (42, .map []), (43, .map []), (44, .bs 32317006071311007300714876688669951960444102669715484032130345427524655138867890893197201411522913463688717960921898019494119559150490921095088152386448283120630877367300996091750197750389652106796057638384067568276792218642619756161838094338476170470581645852036305042887575891541065808607552399123930385521914333389668342420684974786564569494856176035326322058077805659331026192708460314150258592864177116725943603718461857357598351152301645904403697613233287231227125684710820209725157101726931323469678542580656697935045997268352998638215525166389437335543602135433229604645318478604952148193555853611059596230656 5 .more), (45, .bs 153914086704665934422965000391185991426092731525255651046673021110334850669910978950836977558144201721900890587392 5 .more)]
theorem u45_3_lt : (l45_3.all fun p => Nat.blt p.1 1024) = true := by kernel_rfl
theorem n45_3_ok : okN o45_3 46 (αl l45_3) (αm m45_3) = true := by kernel_rfl
theorem d45_3_ok : distN (l45_3.map (·.1)) = true := by kernel_rfl
theorem w45_3_ok : ((List.range 6).map fun b => (ofM (αm m45_3)).get b) = (List.range 6).map fun b => (lowL (αm m45_3) b).map (mapO (rn o45_3)) := by kernel_rfl
noncomputable def c45_0 : ACode := c45
noncomputable def c45_1 : ACode := aD 2 c45_0
noncomputable def c45_2 : ACode := aD 0 c45_1
noncomputable def c45_3 : ACode := aD 2 c45_2
theorem f45_0 : noFor 2 c45_0 = true := by kernel_rfl
theorem f45_1 : noFor 0 c45_1 = true := by kernel_rfl
theorem f45_2 : noFor 2 c45_2 = true := by kernel_rfl
end Go.Proofs.YtjgmpdklfcmelaaGreatDoor.V2
namespace Go.Proofs.YtjgmpdklfcmelaaGreatDoor.V2
open Go
set_option linter.unusedVariables false
open Go.RowKit
set_option maxRecDepth 100000
noncomputable def z45_0 : Cd := (cWr X0 (.b false) (cLet (oCallS 44 [(rdV (.n .i64 300))]) fun v1 => (cLet (o1 (exG 0) (rdV v1)) fun v2 => (cLet (o1 (exG 1) (rdV v1)) fun v3 => (cWr X1 v2 (cWr X2 v3 (cLet (o2 (eqQ1 false .ptr) (rdV v2) (rdV (.o .ptr))) fun v4 => (cLet (oG false (rdV v4) (oV (rdV v2))) fun v5 => (cLet (oG false (rdV v4) (nL (nQ (.makeSl 5 1 [(.int .u8 0)])) [(rdV (.n .i64 299)), (rdV (.n .i64 299))])) fun v6 => (cLet (oG false (rdV v4) (nL (buN [.n .i64 0, .o .sl] [(.int .i64 0), .nilsl] [(0, 1), (1, 1)]) [(rdV (.n .i64 0)), (rdV v6)])) fun v7 => (cLet (oG false (rdV v4) (oCallS 36 [(rdV v5), (rdV v7)])) fun v8 => (cLet (oG false (rdV v4) (o2 bNeq (rdV v8) (rdV (.n .i64 0)))) fun v9 => (cLet (o3 pkF (rdV v4) (rdV (.b true)) (rdV v9)) fun v10 => (cLet (oG false (rdV v10) (oV (rdV v2))) fun v11 => (cLet (oG false (rdV v10) (oCallS 41 [(rdV v11)])) fun v12 => (cLet (oG false (rdV v10) (o2 bNeq (rdV v12) (rdV (.n .i64 2)))) fun v13 => (cLet (o3 pkF (rdV v10) (rdV (.b true)) (rdV v13)) fun v14 => (cLet (oG false (rdV v14) (oV (rdV v2))) fun v15 => (cLet (oG false (rdV v14) (nL (buN [.n .i64 0, .o .sl] [(.int .i64 0), .nilsl] []) [])) fun v16 => (cLet (oG false (rdV v14) (oCallS 36 [(rdV v15), (rdV v16)])) fun v17 => (cLet (oG false (rdV v14) (o2 bNeq (rdV v17) (rdV (.n .i64 8)))) fun v18 => (cLet (o3 pkF (rdV v14) (rdV (.b true)) (rdV v18)) fun v19 => (cSeq (cCond (rdV v19) (cWr X0 (.b false) cRet) cSkip) cSkip)))))))))))))))))))))))
theorem z45_0_eq : thrK 1000000 112 (drOf 112 [0, 1, 2]) (aT 2 c45_0) [] cS = z45_0 := by kernel_rfl
theorem t45_0 : runQ tQ (bQ jF) z45_0 l45_0 m45_0 6 (endK [R0, R1, R2] (m45_1.map fun p => rn o45_1 p.1)) kX = .ok (.tup (l45_1.map fun p => mapF (rn o45_1) p.2)) ⟨0, chT (m45_1.map fun p => mapFO (rn o45_1) p.2)⟩ := by kernel_rfl
end Go.Proofs.YtjgmpdklfcmelaaGreatDoor.V2
namespace Go.Proofs.YtjgmpdklfcmelaaGreatDoor.V2
open Go
set_option linter.unusedVariables false
open Go.RowKit
set_option maxRecDepth 100000
noncomputable def z45_1 : Cd := (cLet (oV R1) fun v1 => (cLet (oCallS 34 [(rdV v1), (rdV (.n .i64 0))]) fun v2 => (cLet (o1 (exG 0) (rdV v2)) fun v3 => (cLet (o1 (exG 1) (rdV v2)) fun v4 => (cWr X3 v3 (cWr X4 v4 cSkip))))))
theorem z45_1_eq : thrK 1000000 112 (drOf 112 [0, 1, 2, 3, 4]) (aT 0 c45_1) [] cS = z45_1 := by kernel_rfl
theorem t45_1 : runQ tQ (bQ jF) z45_1 l45_1 m45_1 43 (endK [R0, R1, R2, R3, R4] (m45_2.map fun p => rn o45_2 p.1)) kX = .ok (.tup (l45_2.map fun p => mapF (rn o45_2) p.2)) ⟨0, chT (m45_2.map fun p => mapFO (rn o45_2) p.2)⟩ := by kernel_rfl
end Go.Proofs.YtjgmpdklfcmelaaGreatDoor.V2
namespace Go.Proofs.YtjgmpdklfcmelaaGreatDoor.V2
open Go
set_option linter.unusedVariables false
open Go.RowKit
set_option maxRecDepth 100000
noncomputable def z45_2 : Cd := (cWr X5 (.n .i64 0) (cWr X6 (.n .i64 0) (cSeq (cBlk 0 (cLoop 1000000 (cLet (oV R6) fun v1 => (cLet (oV R3) fun v2 => (cLet (o1 lvF (rdV v2)) fun v3 => (cLet (o2 bLss (rdV v1) (rdV v3)) fun v4 => (cSeq (cCond (rdV v4) cSkip (cExit 0)) (cSeq (cBlk 1 (cLet (oV R2) fun v5 => (cLet (oV R3) fun v6 => (cLet (oV R6) fun v7 => (cLet (o2 (isF 1) (rdV v6) (rdV v7)) fun v8 => (cLet (m1 ldF (rdV v8)) fun v9 => (cLet (oCallS 35 [(rdV v5), (rdV v9)]) fun v10 => (cLet (o1 (exG 0) (rdV v10)) fun v11 => (cLet (o1 (exG 1) (rdV v10)) fun v12 => (cLet (o2 bNeq (rdV v12) (rdV (.n .i64 0))) fun v13 => (cSeq (cCond (rdV v13) (cWr X0 (.b false) cRet) cSkip) (cLet (oV R5) fun v14 => (cLet (o1 lvF (rdV v11)) fun v15 => (cLet (o2 bAdd (rdV v14) (rdV v15)) fun v16 => (cWr X5 v16 cSkip))))))))))))))) (cLet (oV R6) fun v17 => (cLet (o2 bAdd (rdV v17) (rdV (.n .i64 1))) fun v18 => (cWr X6 v18 cSkip))))))))))) (cLet (oV R4) fun v19 => (cLet (o2 bNeq (rdV v19) (rdV (.n .i64 0))) fun v20 => (cLet (oG false (rdV v20) (oV R3)) fun v21 => (cLet (oG false (rdV v20) (o1 lvF (rdV v21))) fun v22 => (cLet (oG false (rdV v20) (o2 bNeq (rdV v22) (rdV (.n .i64 2)))) fun v23 => (cLet (o3 pkF (rdV v20) (rdV (.b true)) (rdV v23)) fun v24 => (cLet (oG false (rdV v24) (oV R5)) fun v25 => (cLet (oG false (rdV v24) (o2 bNeq (rdV v25) (rdV (.n .i64 1)))) fun v26 => (cLet (o3 pkF (rdV v24) (rdV (.b true)) (rdV v26)) fun v27 => (cLet (oG false (rdV v27) (oV R2)) fun v28 => (cLet (oG false (rdV v27) (oCallS 37 [(rdV v28), (rdV (.n .i64 0)), (rdV (.n .i64 300))])) fun v29 => (cLet (oG false (rdV v27) (o2 bNeq (rdV v29) (rdV (.n .i64 0)))) fun v30 => (cLet (o3 pkF (rdV v27) (rdV (.b true)) (rdV v30)) fun v31 => (cSeq (cCond (rdV v31) (cWr X0 (.b false) cRet) cSkip) cSkip)))))))))))))))))
theorem z45_2_eq : thrK 1000000 112 (drOf 112 [0, 1, 2, 3, 4, 5, 6]) (aT 2 c45_2) [] cS = z45_2 := by kernel_rfl
theorem t45_2 : runQ tQ (bQ jF) z45_2 l45_2 m45_2 48 (endK [R0, R1, R2] (m45_3.map fun p => rn o45_3 p.1)) kX = .ok (.tup (l45_3.map fun p => mapF (rn o45_3) p.2)) ⟨0, chT (m45_3.map fun p => mapFO (rn o45_3) p.2)⟩ := by kernel_rfl
end Go.Proofs.YtjgmpdklfcmelaaGreatDoor.V2
namespace Go.Proofs.YtjgmpdklfcmelaaGreatDoor.V2
open Go
set_option linter.unusedVariables false
open Go.RowKit
set_option maxRecDepth 100000
noncomputable def z45_3 : Cd := (cLet (oV R2) fun v1 => (cLet (oCallS 34 [(rdV v1), (rdV (.n .i64 0))]) fun v2 => (cLet (o1 (exG 0) (rdV v2)) fun v3 => (cLet (o1 (exG 1) (rdV v2)) fun v4 => (cLet (o2 bNeq (rdV v4) (rdV (.n .i64 0))) fun v5 => (cLet (oG false (rdV v5) (oV (rdV v3))) fun v6 => (cLet (oG false (rdV v5) (o1 lvF (rdV v6))) fun v7 => (cLet (oG false (rdV v5) (o2 bNeq (rdV v7) (rdV (.n .i64 1)))) fun v8 => (cLet (o3 pkF (rdV v5) (rdV (.b true)) (rdV v8)) fun v9 => (cSeq (cCond (rdV v9) (cWr X0 (.b false) cRet) cSkip) (cLet (oV R1) fun v10 => (cLet (o2 (isF 1) (rdV v3) (rdV (.n .i64 0))) fun v11 => (cLet (m1 ldF (rdV v11)) fun v12 => (cLet (oCallS 35 [(rdV v10), (rdV v12)]) fun v13 => (cLet (o1 (exG 0) (rdV v13)) fun v14 => (cLet (o1 (exG 1) (rdV v13)) fun v15 => (cLet (o2 bEql (rdV v15) (rdV (.n .i64 0))) fun v16 => (cLet (oG true (rdV v16) (oV R1)) fun v17 => (cLet (oG true (rdV v16) (oCallS 38 [(rdV v17), (rdV (.n .i64 0))])) fun v18 => (cLet (oG true (rdV v16) (o2 bEql (rdV v18) (rdV (.n .i64 300)))) fun v19 => (cLet (o3 pkF (rdV v16) (rdV v19) (rdV (.b false))) fun v20 => (cLet (oG true (rdV v20) (oV R1)) fun v21 => (cLet (oG true (rdV v20) (nL (buN [.n .i64 0, .o .sl] [(.int .i64 0), .nilsl] []) [])) fun v22 => (cLet (oG true (rdV v20) (oCallS 36 [(rdV v21), (rdV v22)])) fun v23 => (cLet (oG true (rdV v20) (o2 bEql (rdV v23) (rdV (.n .i64 0)))) fun v24 => (cLet (o3 pkF (rdV v20) (rdV v24) (rdV (.b false))) fun v25 => (cWr X0 v25 cRet)))))))))))))))))))))))))))
theorem z45_3_eq : thrK 1000000 112 (drOf 112 [0, 1, 2]) c45_3 [] cS = z45_3 := by kernel_rfl
theorem t45_3 : runQ tQ (bQ jF) z45_3 l45_3 m45_3 46 kX (fun e σ => rsQ [vT R0] e σ fun vs => .ok (.tup vs) ⟨0, .leaf⟩) = .ok (.tup [.b true]) ⟨0, .leaf⟩ := by kernel_rfl
end Go.Proofs.YtjgmpdklfcmelaaGreatDoor.V2
namespace Go.Proofs.YtjgmpdklfcmelaaGreatDoor.V2
open Go
set_option linter.unusedVariables false
open Go.RowKit
theorem tellsM (w : World) (hG : GlobM w) : Calls Tryz.prog 45 #[] w fun e w' => e = .returned (.bool true) ∧ Below w.heap.size w w' := by
  have hr0 := hrM hG
  refine (calls_of_aq (G := 6) (σ := hL memM) (ρ := rM) (xs := [.tmp 0]) (vs := []) (K := fun av _ => av = .bool true) Tryz.func45 body45 (Prod.mk.inj comp45).2 ?_).mono fun e W' ⟨v, av, σ', ρ', e1, e2, e3, e4, e5⟩ => ?_
  rotate_left
  · subst e1 e2
    unfold VR at e5
    exact ⟨by rw [e5], Below.ofStp (by show 6 ≤ _; omega) hr0 memM_ro e4⟩
  have st : Start [] 6 w.heap.size rM (hL memM) w := ⟨Nat.le_refl _, (fun y hy => absurd hy List.not_mem_nil), (fun y hy => absurd hy List.not_mem_nil), hr0⟩
  have h0 : (⟨6, ofM (αm m45_0)⟩ : AH) = hL memM := by kernel_rfl
  have main : Good Tryz.prog 6 Tryz.f45.ntmps 6 w.heap.size rM (hL memM) w (AQ 6 Tryz.f45.ntmps 6 w.heap.size rM (hL memM) w (fun e env σ' => (match e with | .normal => True | .ret => True | _ => False) ∧ (resL std env σ' [.tmp 0]).1 = true ∧ retV (resL std env σ' [.tmp 0]).2 = .bool true)) (ofL (αl l45_0)) ⟨6, ofM (αm m45_0)⟩ (Tryz.f45.body.getD .skip) :=
    Good.pieceQ st mixed (gamq_ok jF_ok) hpu0' tQ_ok (bQ_ok jF_mem) (m := 2) (c' := c45_0) f45_0 (Prod.mk.inj comp45).1 z45_0_eq u45_0_lt (by kernel_rfl) t45_0 n45_1_ok d45_1_ok w45_1_ok fun hc1 =>
    Good.pieceQ st mixed (gamq_ok jF_ok) hpu0' tQ_ok (bQ_ok jF_mem) (m := 0) (c' := c45_1) f45_1 hc1 z45_1_eq u45_1_lt (by kernel_rfl) t45_1 n45_2_ok d45_2_ok w45_2_ok fun hc2 =>
    Good.pieceQ st mixed (gamq_ok jF_ok) hpu0' tQ_ok (bQ_ok jF_mem) (m := 2) (c' := c45_2) f45_2 hc2 z45_2_eq u45_2_lt (by kernel_rfl) t45_2 n45_3_ok d45_3_ok w45_3_ok fun hc3 =>
    Good.endQ (c' := c45_3) (xs := [.tmp 0]) st mixed (gamq_ok jF_ok) hpu0' tQ_ok (bQ_ok jF_mem) hc3 z45_3_eq u45_3_lt (by kernel_rfl) t45_3 (fun env σ h2 => by rw [h2]; exact ⟨trivial, rfl, rfl⟩)
  refine main rM w _ (by rw [h0]; exact hr0) ⟨by decide +kernel, by simp, rM_glob, fun t v ht => by cases ht⟩ (by rw [h0]; exact Stp.refl (Nat.le_refl _)) ⟨trivial, fun r hr => by cases hr⟩
theorem tX_ok {Y : List Yl} : FnOk Tryz.prog 6 tX Y := by
  intro f args σ h
  unfold tX at h ⊢
  cases h12 : Nat.beq f 45
  case false => rw [h12] at h; rw [cond_false] at h ⊢; exact jF_ok f args σ h
  rw [h12] at h
  have e := Nat.eq_of_beq_eq_true h12
  subst e
  simp only [cond_true] at h ⊢
  split at h
  case h_2 => cases h
  simp only [Bool.and_eq_true] at h
  obtain ⟨⟨⟨⟨h0, h1⟩, h2⟩, h3⟩, h4⟩ := h
  refine ⟨⟨_, Tryz.func45, by kernel_rfl, by kernel_rfl⟩, fun ρ W vs _ hG hr hvs => ?_⟩
  have hvs : vs = [] := hvs
  subst hvs
  have hT : ∀ l, isTM l = true → l = wI TM := fun l h => by simpa [isTM] using h
  have hS : ∀ l, isS l = true → l = wI S0 := fun l h => by simpa [isS] using h
  have hK : ∀ l, isK l = true → l = wI KK := fun l h => by simpa [isK] using h
  obtain ⟨s3, hs3⟩ := hG 5 (by decide)
  have hR : GlobM W := ⟨z_of hr (hG 0 (by decide)) h0, fun_ofM hr (hG 1 (by decide)) h1, glob_of hr hT rfl (hG 2 (by decide)) h2, glob_of hr hS rfl (hG 3 (by decide)) h3, glob_of hr hK rfl (hG 5 (by decide)) h4, (hr.dom _ _ _ hs3).2.1⟩
  refine (tellsM W hR).mono fun e W' ⟨e1, e2⟩ => ?_
  subst e1
  exact ⟨_, ρ, rfl, hr.below e2, Stp.below (Nat.le_refl _) e2, rfl⟩
end Go.Proofs.YtjgmpdklfcmelaaGreatDoor.V2
