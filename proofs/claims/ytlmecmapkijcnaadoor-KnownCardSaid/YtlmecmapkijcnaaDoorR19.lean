/- Known hashes and roots: the plain law, by counting: each leaf and each node once. -/
import Derived.Test.YtlmecmapkijcnaaDoorR09
set_option linter.unusedVariables false
set_option maxRecDepth 100000
namespace Go.Proofs.YtlmecmapkijcnaaDoor
open KL

def abcS : ByteArray := { data := #[97, 98, 99] }
def abcH : ByteArray := { data := #[186, 120, 22, 191, 143, 1, 207, 234, 65, 65, 64, 222, 93, 174, 34, 35, 176, 3, 97, 163, 150, 23, 122, 156, 180, 16, 255, 97, 242, 0, 21, 173] }
def knownL : List ByteArray := [{ data := #[] }, { data := #[0] }, { data := #[16] }, { data := #[32, 33] }, { data := #[48, 49] }, { data := #[64, 65, 66, 67] }, { data := #[80, 81, 82, 83, 84, 85, 86, 87] }, { data := #[96, 97, 98, 99, 100, 101, 102, 103, 104, 105, 106, 107, 108, 109, 110, 111] }]
def wantL : List ByteArray := [{ data := #[227, 176, 196, 66, 152, 252, 28, 20, 154, 251, 244, 200, 153, 111, 185, 36, 39, 174, 65, 228, 100, 155, 147, 76, 164, 149, 153, 27, 120, 82, 184, 85] },
  { data := #[110, 52, 11, 156, 255, 179, 122, 152, 156, 165, 68, 230, 187, 120, 10, 44, 120, 144, 29, 63, 179, 55, 56, 118, 133, 17, 163, 6, 23, 175, 160, 29] },
  { data := #[250, 197, 66, 3, 231, 204, 105, 108, 240, 223, 203, 66, 201, 42, 29, 157, 186, 247, 10, 217, 230, 33, 244, 189, 141, 152, 102, 47, 0, 227, 193, 37] },
  { data := #[174, 182, 188, 254, 39, 75, 112, 161, 79, 176, 103, 165, 229, 87, 130, 100, 219, 15, 169, 181, 26, 245, 224, 186, 21, 145, 88, 243, 41, 224, 110, 119] },
  { data := #[211, 126, 228, 24, 151, 109, 217, 87, 83, 193, 199, 56, 98, 185, 57, 143, 162, 162, 207, 155, 79, 240, 253, 254, 139, 48, 205, 149, 32, 150, 20, 183] },
  { data := #[78, 59, 187, 31, 123, 71, 141, 207, 231, 31, 182, 49, 99, 21, 25, 163, 188, 161, 44, 154, 239, 202, 22, 18, 191, 206, 76, 19, 168, 98, 100, 212] },
  { data := #[118, 230, 125, 173, 188, 223, 30, 16, 225, 183, 77, 220, 96, 138, 189, 47, 152, 223, 177, 111, 188, 231, 82, 119, 181, 35, 42, 18, 127, 32, 135, 239] },
  { data := #[221, 184, 155, 228, 3, 128, 158, 50, 87, 80, 211, 210, 99, 205, 120, 146, 156, 41, 66, 183, 148, 42, 52, 183, 126, 18, 44, 149, 148, 167, 76, 140] },
  { data := #[93, 201, 218, 121, 167, 6, 89, 169, 173, 85, 156, 183, 1, 222, 217, 162, 171, 157, 130, 58, 173, 47, 73, 96, 207, 227, 112, 239, 244, 96, 67, 40] }]
theorem abc_eq : digT abcS = abcH := by decide +kernel
theorem abc_eq' : strOf (outL (stateOf kList hList (ints abcS)) 8) = abcH := abc_eq

theorem root_0 : rootF 1 (knownL.take 0) = wantL.getD 0 ByteArray.empty := by decide +kernel
def v0x1 : ByteArray := { data := #[110, 52, 11, 156, 255, 179, 122, 152, 156, 165, 68, 230, 187, 120, 10, 44, 120, 144, 29, 63, 179, 55, 56, 118, 133, 17, 163, 6, 23, 175, 160, 29] }
theorem e0x1 : digT (b0 ++ { data := #[] }) = v0x1 := by decide +kernel
section
attribute [local irreducible] digT
theorem shape_1 : rootF 2 (knownL.take 1) = digT (b0 ++ { data := #[] }) := by rfl
end
theorem root_1 : rootF 2 (knownL.take 1) = wantL.getD 1 ByteArray.empty := by
  rw [shape_1, e0x1]; rfl
def v1x2 : ByteArray := { data := #[150, 162, 150, 210, 36, 242, 133, 198, 123, 238, 147, 195, 15, 138, 48, 145, 87, 240, 218, 163, 93, 197, 184, 126, 65, 11, 120, 99, 10, 9, 207, 199] }
theorem e1x2 : digT (b0 ++ { data := #[0] }) = v1x2 := by decide +kernel
def v0x2 : ByteArray := { data := #[250, 197, 66, 3, 231, 204, 105, 108, 240, 223, 203, 66, 201, 42, 29, 157, 186, 247, 10, 217, 230, 33, 244, 189, 141, 152, 102, 47, 0, 227, 193, 37] }
theorem e0x2 : digT (b1 ++ v0x1 ++ v1x2) = v0x2 := by decide +kernel
section
attribute [local irreducible] digT
theorem shape_2 : rootF 3 (knownL.take 2) = digT (b1 ++ digT (b0 ++ { data := #[] }) ++ digT (b0 ++ { data := #[0] })) := by rfl
end
theorem root_2 : rootF 3 (knownL.take 2) = wantL.getD 2 ByteArray.empty := by
  rw [shape_2, e0x1, e1x2, e0x2]; rfl
def v2x3 : ByteArray := { data := #[2, 152, 209, 34, 144, 109, 207, 193, 8, 146, 203, 83, 167, 57, 146, 252, 91, 159, 73, 62, 164, 201, 186, 219, 39, 183, 145, 180, 18, 122, 127, 231] }
theorem e2x3 : digT (b0 ++ { data := #[16] }) = v2x3 := by decide +kernel
def v0x3 : ByteArray := { data := #[174, 182, 188, 254, 39, 75, 112, 161, 79, 176, 103, 165, 229, 87, 130, 100, 219, 15, 169, 181, 26, 245, 224, 186, 21, 145, 88, 243, 41, 224, 110, 119] }
theorem e0x3 : digT (b1 ++ v0x2 ++ v2x3) = v0x3 := by decide +kernel
section
attribute [local irreducible] digT
theorem shape_3 : rootF 4 (knownL.take 3) = digT (b1 ++ digT (b1 ++ digT (b0 ++ { data := #[] }) ++ digT (b0 ++ { data := #[0] })) ++ digT (b0 ++ { data := #[16] })) := by rfl
end
theorem root_3 : rootF 4 (knownL.take 3) = wantL.getD 3 ByteArray.empty := by
  rw [shape_3, e0x1, e1x2, e0x2, e2x3, e0x3]; rfl
def v3x4 : ByteArray := { data := #[7, 80, 106, 133, 253, 157, 210, 241, 32, 235, 105, 79, 134, 1, 30, 91, 180, 102, 46, 92, 65, 90, 98, 145, 112, 51, 212, 169, 98, 68, 135, 231] }
theorem e3x4 : digT (b0 ++ { data := #[32, 33] }) = v3x4 := by decide +kernel
def v2x4 : ByteArray := { data := #[95, 8, 63, 10, 26, 51, 202, 7, 106, 149, 39, 152, 50, 88, 13, 179, 224, 239, 69, 132, 189, 255, 31, 84, 200, 163, 96, 245, 13, 227, 3, 30] }
theorem e2x4 : digT (b1 ++ v2x3 ++ v3x4) = v2x4 := by decide +kernel
def v0x4 : ByteArray := { data := #[211, 126, 228, 24, 151, 109, 217, 87, 83, 193, 199, 56, 98, 185, 57, 143, 162, 162, 207, 155, 79, 240, 253, 254, 139, 48, 205, 149, 32, 150, 20, 183] }
theorem e0x4 : digT (b1 ++ v0x2 ++ v2x4) = v0x4 := by decide +kernel
section
attribute [local irreducible] digT
theorem shape_4 : rootF 5 (knownL.take 4) = digT (b1 ++ digT (b1 ++ digT (b0 ++ { data := #[] }) ++ digT (b0 ++ { data := #[0] })) ++ digT (b1 ++ digT (b0 ++ { data := #[16] }) ++ digT (b0 ++ { data := #[32, 33] }))) := by rfl
end
theorem root_4 : rootF 5 (knownL.take 4) = wantL.getD 4 ByteArray.empty := by
  rw [shape_4, e0x1, e1x2, e0x2, e2x3, e3x4, e2x4, e0x4]; rfl
def v4x5 : ByteArray := { data := #[188, 26, 6, 67, 177, 46, 77, 45, 124, 119, 145, 143, 68, 224, 244, 247, 154, 131, 139, 108, 249, 236, 91, 92, 40, 62, 31, 77, 136, 89, 158, 107] }
theorem e4x5 : digT (b0 ++ { data := #[48, 49] }) = v4x5 := by decide +kernel
def v0x5 : ByteArray := { data := #[78, 59, 187, 31, 123, 71, 141, 207, 231, 31, 182, 49, 99, 21, 25, 163, 188, 161, 44, 154, 239, 202, 22, 18, 191, 206, 76, 19, 168, 98, 100, 212] }
theorem e0x5 : digT (b1 ++ v0x4 ++ v4x5) = v0x5 := by decide +kernel
section
attribute [local irreducible] digT
theorem shape_5 : rootF 6 (knownL.take 5) = digT (b1 ++ digT (b1 ++ digT (b1 ++ digT (b0 ++ { data := #[] }) ++ digT (b0 ++ { data := #[0] })) ++ digT (b1 ++ digT (b0 ++ { data := #[16] }) ++ digT (b0 ++ { data := #[32, 33] }))) ++ digT (b0 ++ { data := #[48, 49] })) := by rfl
end
theorem root_5 : rootF 6 (knownL.take 5) = wantL.getD 5 ByteArray.empty := by
  rw [shape_5, e0x1, e1x2, e0x2, e2x3, e3x4, e2x4, e0x4, e4x5, e0x5]; rfl
def v5x6 : ByteArray := { data := #[66, 113, 162, 107, 224, 216, 168, 79, 11, 213, 76, 140, 48, 46, 124, 179, 163, 181, 209, 250, 103, 128, 164, 11, 204, 226, 135, 52, 119, 218, 182, 88] }
theorem e5x6 : digT (b0 ++ { data := #[64, 65, 66, 67] }) = v5x6 := by decide +kernel
def v4x6 : ByteArray := { data := #[14, 188, 93, 52, 55, 251, 226, 219, 21, 139, 159, 18, 106, 29, 17, 142, 48, 129, 129, 3, 29, 10, 148, 159, 141, 237, 237, 235, 197, 88, 239, 106] }
theorem e4x6 : digT (b1 ++ v4x5 ++ v5x6) = v4x6 := by decide +kernel
def v0x6 : ByteArray := { data := #[118, 230, 125, 173, 188, 223, 30, 16, 225, 183, 77, 220, 96, 138, 189, 47, 152, 223, 177, 111, 188, 231, 82, 119, 181, 35, 42, 18, 127, 32, 135, 239] }
theorem e0x6 : digT (b1 ++ v0x4 ++ v4x6) = v0x6 := by decide +kernel
section
attribute [local irreducible] digT
theorem shape_6 : rootF 7 (knownL.take 6) = digT (b1 ++ digT (b1 ++ digT (b1 ++ digT (b0 ++ { data := #[] }) ++ digT (b0 ++ { data := #[0] })) ++ digT (b1 ++ digT (b0 ++ { data := #[16] }) ++ digT (b0 ++ { data := #[32, 33] }))) ++ digT (b1 ++ digT (b0 ++ { data := #[48, 49] }) ++ digT (b0 ++ { data := #[64, 65, 66, 67] }))) := by rfl
end
theorem root_6 : rootF 7 (knownL.take 6) = wantL.getD 6 ByteArray.empty := by
  rw [shape_6, e0x1, e1x2, e0x2, e2x3, e3x4, e2x4, e0x4, e4x5, e5x6, e4x6, e0x6]; rfl
def v6x7 : ByteArray := { data := #[176, 134, 147, 236, 46, 114, 21, 151, 19, 6, 65, 232, 33, 30, 126, 237, 204, 180, 194, 100, 19, 150, 62, 238, 108, 30, 46, 209, 111, 251, 26, 95] }
theorem e6x7 : digT (b0 ++ { data := #[80, 81, 82, 83, 84, 85, 86, 87] }) = v6x7 := by decide +kernel
def v4x7 : ByteArray := { data := #[131, 125, 187, 21, 46, 155, 7, 144, 16, 113, 126, 132, 232, 101, 218, 78, 188, 15, 161, 152, 168, 6, 213, 157, 49, 191, 21, 172, 206, 242, 45, 14] }
theorem e4x7 : digT (b1 ++ v4x6 ++ v6x7) = v4x7 := by decide +kernel
def v0x7 : ByteArray := { data := #[221, 184, 155, 228, 3, 128, 158, 50, 87, 80, 211, 210, 99, 205, 120, 146, 156, 41, 66, 183, 148, 42, 52, 183, 126, 18, 44, 149, 148, 167, 76, 140] }
theorem e0x7 : digT (b1 ++ v0x4 ++ v4x7) = v0x7 := by decide +kernel
section
attribute [local irreducible] digT
theorem shape_7 : rootF 8 (knownL.take 7) = digT (b1 ++ digT (b1 ++ digT (b1 ++ digT (b0 ++ { data := #[] }) ++ digT (b0 ++ { data := #[0] })) ++ digT (b1 ++ digT (b0 ++ { data := #[16] }) ++ digT (b0 ++ { data := #[32, 33] }))) ++ digT (b1 ++ digT (b1 ++ digT (b0 ++ { data := #[48, 49] }) ++ digT (b0 ++ { data := #[64, 65, 66, 67] })) ++ digT (b0 ++ { data := #[80, 81, 82, 83, 84, 85, 86, 87] }))) := by rfl
end
theorem root_7 : rootF 8 (knownL.take 7) = wantL.getD 7 ByteArray.empty := by
  rw [shape_7, e0x1, e1x2, e0x2, e2x3, e3x4, e2x4, e0x4, e4x5, e5x6, e4x6, e6x7, e4x7, e0x7]; rfl
def v7x8 : ByteArray := { data := #[70, 246, 255, 173, 211, 208, 106, 9, 255, 60, 88, 96, 210, 117, 92, 139, 152, 25, 219, 125, 244, 66, 81, 120, 140, 125, 142, 49, 128, 222, 142, 177] }
theorem e7x8 : digT (b0 ++ { data := #[96, 97, 98, 99, 100, 101, 102, 103, 104, 105, 106, 107, 108, 109, 110, 111] }) = v7x8 := by decide +kernel
def v6x8 : ByteArray := { data := #[202, 133, 78, 161, 40, 237, 5, 11, 65, 179, 95, 252, 27, 135, 184, 235, 43, 222, 70, 30, 158, 59, 85, 150, 236, 230, 185, 213, 151, 90, 10, 224] }
theorem e6x8 : digT (b1 ++ v6x7 ++ v7x8) = v6x8 := by decide +kernel
def v4x8 : ByteArray := { data := #[107, 71, 170, 242, 158, 227, 194, 175, 154, 248, 137, 188, 31, 185, 37, 77, 171, 211, 17, 119, 241, 98, 50, 221, 106, 171, 3, 92, 163, 155, 246, 228] }
theorem e4x8 : digT (b1 ++ v4x6 ++ v6x8) = v4x8 := by decide +kernel
def v0x8 : ByteArray := { data := #[93, 201, 218, 121, 167, 6, 89, 169, 173, 85, 156, 183, 1, 222, 217, 162, 171, 157, 130, 58, 173, 47, 73, 96, 207, 227, 112, 239, 244, 96, 67, 40] }
theorem e0x8 : digT (b1 ++ v0x4 ++ v4x8) = v0x8 := by decide +kernel
section
attribute [local irreducible] digT
theorem shape_8 : rootF 9 (knownL.take 8) = digT (b1 ++ digT (b1 ++ digT (b1 ++ digT (b0 ++ { data := #[] }) ++ digT (b0 ++ { data := #[0] })) ++ digT (b1 ++ digT (b0 ++ { data := #[16] }) ++ digT (b0 ++ { data := #[32, 33] }))) ++ digT (b1 ++ digT (b1 ++ digT (b0 ++ { data := #[48, 49] }) ++ digT (b0 ++ { data := #[64, 65, 66, 67] })) ++ digT (b1 ++ digT (b0 ++ { data := #[80, 81, 82, 83, 84, 85, 86, 87] }) ++ digT (b0 ++ { data := #[96, 97, 98, 99, 100, 101, 102, 103, 104, 105, 106, 107, 108, 109, 110, 111] })))) := by rfl
end
theorem root_8 : rootF 9 (knownL.take 8) = wantL.getD 8 ByteArray.empty := by
  rw [shape_8, e0x1, e1x2, e0x2, e2x3, e3x4, e2x4, e0x4, e4x5, e5x6, e4x6, e6x7, e7x8, e6x8, e4x8, e0x8]; rfl
theorem roots_eq (n : Nat) (hn : n < 9) : rootF ((knownL.take n).length + 1) (knownL.take n) = wantL.getD n ByteArray.empty := by
  match n, hn with
  | 0, _ => exact root_0
  | 1, _ => exact root_1
  | 2, _ => exact root_2
  | 3, _ => exact root_3
  | 4, _ => exact root_4
  | 5, _ => exact root_5
  | 6, _ => exact root_6
  | 7, _ => exact root_7
  | 8, _ => exact root_8
  | n + 9, hn => omega
theorem knownL_length : knownL.length = 8 := rfl
theorem wantL_length : wantL.length = 9 := rfl
theorem knownL_size : ∀ s ∈ knownL, s.size ≤ 2 ^ 39 := by decide
theorem strCells (l : List ByteArray) (j : Nat) (hj : j < l.length) : (l.map Value.string).toArray[0 + j]? = some (.string (l.getD j ByteArray.empty)) := by
  rw [Nat.zero_add, List.getElem?_toArray, List.getElem?_map, List.getD_eq_getElem?_getD, List.getElem?_eq_getElem hj]; rfl
end Go.Proofs.YtlmecmapkijcnaaDoor
