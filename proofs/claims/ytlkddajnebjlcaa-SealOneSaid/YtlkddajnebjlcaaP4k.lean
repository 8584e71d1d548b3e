/- The laws of layer 5 (seal): bytes that are known. -/
import Derived.Test.YtlkddajnebjlcaaP4
set_option linter.unusedVariables false
set_option maxRecDepth 1000000
namespace Go.Proofs.Ytlkddajnebjlcaa.Seal
open Go Vse Go.Proofs Gen
open Ctr (B16 flX)
open Mac (macF expF)

def keysA : List Int := [181, 6, 102, 57, 15, 53, 19, 88, 91, 43, 81, 177, 139, 204, 162, 185, 149, 173, 183, 35, 25, 71, 186, 6, 120, 32, 213, 17, 96, 39, 137, 44, 198, 201, 33, 191, 89, 144, 187, 90, 130, 158, 78, 111, 115, 182, 14, 40]
def keysB : List Int := [209, 49, 122, 25, 29, 6, 149, 94, 233, 98, 107, 202, 93, 220, 54, 230, 182, 119, 100, 86, 36, 176, 183, 56, 232, 209, 123, 47, 200, 52, 152, 25, 25, 210, 105, 214, 169, 117, 24, 120, 84, 34, 208, 249, 28, 161, 10, 249]
def frontA : List Int := [2, 0, 0, 0, 0, 0, 0, 0, 0, 0, 0, 0, 0, 0, 0, 0, 238, 110, 11]
def macA : List Int := [102, 29, 96, 174, 100, 191, 90, 175, 83, 234, 247, 227, 149, 134, 170, 44, 171, 107, 239, 135, 80, 123, 161, 159, 204, 196, 103, 206, 78, 98, 205, 145]
def macB : List Int := [29, 60, 171, 96, 167, 13, 129, 33, 170, 111, 8, 117, 231, 224, 196, 12, 56, 25, 195, 111, 170, 183, 65, 213, 179, 14, 254, 104, 149, 213, 64, 7]
theorem keysA_eq : keysF one16 sA = keysA := by kernel_rfl
theorem keysB_eq : keysF one16 sB = keysB := by kernel_rfl
theorem front_eq : two16 ++ flX (keysA.take 16) two16 xyz = frontA := by kernel_rfl
theorem macA_eq : macF (keysA.drop 16) frontA = macA := by kernel_rfl
theorem macB_eq : macF (keysB.drop 16) frontA = macB := by kernel_rfl

end Go.Proofs.Ytlkddajnebjlcaa.Seal
