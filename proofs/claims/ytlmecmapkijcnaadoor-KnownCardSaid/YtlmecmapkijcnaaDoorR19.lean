/- Known hashes and roots: the plain law, by counting. -/
import Derived.Test.YtlmecmapkijcnaaDoorR09
set_option linter.unusedVariables false
set_option maxRecDepth 100000
namespace Go.Proofs.YtlmecmapkijcnaaDoor
open KL

def abcS : ByteArray := { data := #[97, 98, 99] }
def abcH : ByteArray := { data := #[186, 120, 22, 191, 143, 1, 207, 234, 65, 65, 64, 222, 93, 174, 34, 35, 176, 3, 97, 163, 150, 23, 122, 156, 180, 16, 255, 97, 242, 0, 21, 173] }
def knownL : List ByteArray := [{ data := #[] }, { data := #[0] }, { data := #[16] }, { data := #[32, 33] }, { data := #[48, 49] }, { data := #[64, 65, 66, 67] }, { data := #[80, 81, 82, 83, 84, 85, 86, 87] }, { data := #[96, 97, 98, 99, 100, 101, 102, 103, 104, 105, 106, 107, 108, 109, 110, 111] }]
def wantL : List ByteArray := [{ data := #[227, 176, 196, 66, 152, 252, 28, 20, 154, 251, 244, 200, 153, 111, 185, 36, 39, 174, 65, 228, 100, 155, 147, 76, 164, 149, 153, 27, 120, 82, 184, 85] },
  { data := #[110, 52, 11, 156, 255, 179, 122, 152, 156, 165, 68, 230, 187, 120, 10, 44, 120, 144, 29, 63, 179, 55, 56, 118, 133, 17, 163, 6, 23, 175, 160, 29] },
  { data := #[250, 197, 66, 3, 231, 204, 105, 108, 240, 223, 203, 66, 201, 42, 29, 157, 186, 247, 10, 217, 230, 33, 244, 189, 141, 152, 102, 47, 0, 227, 193, 37] },
  { data := #[174, 182, 188, 254, 39, 75, 112, 161, 79, 176, 103, 165, 229, 87, 130, 100, 219, 15, 169, 181, 26, 245, 224, 186, 21, 145, 88, 243, 41, 224, 110, 119] },
  { data := #[211, 126, 228, 24, 151, 109, 217, 87, 83, 193, 199, 56, 98, 185, 57, 143, 162, 162, 207, 155, 79, 240, 253, 254, 139, 48, 205, 149, 32, 150, 20, 183] },
  { data := #[78, 59, 187, 31, 123, 71, 141, 207, 231, 31, 182, 49, 99, 21, 25, 163, 188, 161, 44, 154, 239, 202, 22, 18, 191, 206, 76, 19, 168, 98, 100, 212] },
  { data := #[118, 230, 125, 173, 188, 223, 30, 16, 225, 183, 77, 220, 96, 138, 189, 47, 152, 223, 177, 111, 188, 231, 82, 119, 181, 35, 42, 18, 127, 32, 135, 239] },
  { data := #[221, 184, 155, 228, 3, 128, 158, 50, 87, 80, 211, 210, 99, 205, 120, 146, 156, 41, 66, 183, 148, 42, 52, 183, 126, 18, 44, 149, 148, 167, 76, 140] },
  { data := #[93, 201, 218, 121, 167, 6, 89, 169, 173, 85, 156, 183, 1, 222, 217, 162, 171, 157, 130, 58, 173, 47, 73, 96, 207, 227, 112, 239, 244, 96, 67, 40] }]
theorem abc_eq : digT abcS = abcH := by decide +kernel
theorem abc_eq' : strOf (outL (stateOf kList hList (ints abcS)) 8) = abcH := abc_eq
theorem root_0 : rootF 1 (knownL.take 0) = wantL.getD 0 ByteArray.empty := by decide +kernel
theorem root_1 : rootF 2 (knownL.take 1) = wantL.getD 1 ByteArray.empty := by decide +kernel
theorem root_2 : rootF 3 (knownL.take 2) = wantL.getD 2 ByteArray.empty := by decide +kernel
theorem root_3 : rootF 4 (knownL.take 3) = wantL.getD 3 ByteArray.empty := by decide +kernel
theorem root_4 : rootF 5 (knownL.take 4) = wantL.getD 4 ByteArray.empty := by decide +kernel
theorem root_5 : rootF 6 (knownL.take 5) = wantL.getD 5 ByteArray.empty := by decide +kernel
theorem root_6 : rootF 7 (knownL.take 6) = wantL.getD 6 ByteArray.empty := by decide +kernel
theorem root_7 : rootF 8 (knownL.take 7) = wantL.getD 7 ByteArray.empty := by decide +kernel
theorem root_8 : rootF 9 (knownL.take 8) = wantL.getD 8 ByteArray.empty := by decide +kernel
theorem roots_eq (n : Nat) (hn : n < 9) : rootF ((knownL.take n).length + 1) (knownL.take n) = wantL.getD n ByteArray.empty := by
  match n, hn with
  | 0, _ => exact root_0
  | 1, _ => exact root_1
  | 2, _ => exact root_2
  | 3, _ => exact root_3
  | 4, _ => exact root_4
  | 5, _ => exact root_5
  | 6, _ => exact root_6
  | 7, _ => exact root_7
  | 8, _ => exact root_8
  | n + 9, hn => omega
theorem knownL_length : knownL.length = 8 := rfl
theorem wantL_length : wantL.length = 9 := rfl
theorem knownL_size : ∀ s ∈ knownL, s.size ≤ 2 ^ 39 := by decide
theorem strCells (l : List ByteArray) (j : Nat) (hj : j < l.length) : (l.map Value.string).toArray[0 + j]? = some (.string (l.getD j ByteArray.empty)) := by
  rw [Nat.zero_add, List.getElem?_toArray, List.getElem?_map, List.getD_eq_getElem?_getD, List.getElem?_eq_getElem hj]; rfl
end Go.Proofs.YtlmecmapkijcnaaDoor
