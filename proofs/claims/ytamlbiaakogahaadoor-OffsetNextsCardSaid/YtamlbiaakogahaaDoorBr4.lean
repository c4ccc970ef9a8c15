/- Plain laws, part 4: sixteen zeros encrypted under the key of zeros, round by round. No program in sight. -/
import Derived.Test.YtamlbiaakogahaaDoorBr3
namespace Go.Mo
open Go
noncomputable section
def zk0 : List B8 := [0, 0, 0, 0, 0, 0, 0, 0, 0, 0, 0, 0, 0, 0, 0, 0]
def zk1 : List B8 := [98, 99, 99, 99, 98, 99, 99, 99, 98, 99, 99, 99, 98, 99, 99, 99]
def zk2 : List B8 := [155, 152, 152, 201, 249, 251, 251, 170, 155, 152, 152, 201, 249, 251, 251, 170]
def zk3 : List B8 := [144, 151, 52, 80, 105, 108, 207, 250, 242, 244, 87, 51, 11, 15, 172, 153]
def zk4 : List B8 := [238, 6, 218, 123, 135, 106, 21, 129, 117, 158, 66, 178, 126, 145, 238, 43]
def zk5 : List B8 := [127, 46, 43, 136, 248, 68, 62, 9, 141, 218, 124, 187, 243, 75, 146, 144]
def zk6 : List B8 := [236, 97, 75, 133, 20, 37, 117, 140, 153, 255, 9, 55, 106, 180, 155, 167]
def zk7 : List B8 := [33, 117, 23, 135, 53, 80, 98, 11, 172, 175, 107, 60, 198, 27, 240, 155]
def zk8 : List B8 := [14, 249, 3, 51, 59, 169, 97, 56, 151, 6, 10, 4, 81, 29, 250, 159]
def zk9 : List B8 := [177, 212, 216, 226, 138, 125, 185, 218, 29, 123, 179, 222, 76, 102, 73, 65]
def zk10 : List B8 := [180, 239, 91, 203, 62, 146, 226, 17, 35, 233, 81, 207, 111, 143, 24, 142]
def zl0 : List B8 := [0, 0, 0, 0, 0, 0, 0, 0, 0, 0, 0, 0, 0, 0, 0, 0]
def zl1 : List B8 := [1, 1, 1, 1, 0, 0, 0, 0, 0, 0, 0, 0, 0, 0, 0, 0]
def zl2 : List B8 := [198, 164, 198, 164, 228, 135, 228, 135, 228, 135, 228, 135, 139, 232, 139, 232]
def zl3 : List B8 := [40, 106, 74, 8, 45, 243, 78, 144, 243, 134, 144, 229, 196, 37, 167, 70]
def zl4 : List B8 := [171, 55, 80, 117, 210, 90, 160, 154, 205, 181, 175, 106, 254, 73, 192, 95]
def zl5 : List B8 := [212, 85, 126, 121, 111, 184, 5, 121, 79, 150, 187, 222, 108, 51, 61, 35]
def zl6 : List B8 := [4, 7, 226, 73, 242, 120, 47, 197, 202, 40, 1, 215, 151, 69, 150, 16]
def zl7 : List B8 := [183, 29, 108, 148, 170, 37, 146, 229, 228, 45, 15, 129, 197, 79, 129, 80]
def zl8 : List B8 := [35, 19, 170, 46, 231, 33, 192, 3, 140, 99, 198, 203, 60, 219, 87, 149]
def zl9 : List B8 := [127, 81, 14, 41, 254, 165, 52, 41, 14, 102, 124, 236, 149, 53, 71, 203]
def zl10 : List B8 := [102, 239, 136, 202, 233, 138, 76, 52, 75, 44, 250, 43, 212, 59, 89, 46]
def zOut : List B8 := [102, 233, 75, 212, 239, 138, 44, 59, 136, 76, 250, 89, 202, 52, 43, 46]
theorem zk_0 : grpB z16 0 = zk0 := by kernel_rfl
theorem zk_1 : grpB z16 1 = zk1 := by
  show nxtB 0 (grpB z16 0) = _
  rw [zk_0]
  kernel_rfl
theorem zk_2 : grpB z16 2 = zk2 := by
  show nxtB 1 (grpB z16 1) = _
  rw [zk_1]
  kernel_rfl
theorem zk_3 : grpB z16 3 = zk3 := by
  show nxtB 2 (grpB z16 2) = _
  rw [zk_2]
  kernel_rfl
theorem zk_4 : grpB z16 4 = zk4 := by
  show nxtB 3 (grpB z16 3) = _
  rw [zk_3]
  kernel_rfl
theorem zk_5 : grpB z16 5 = zk5 := by
  show nxtB 4 (grpB z16 4) = _
  rw [zk_4]
  kernel_rfl
theorem zk_6 : grpB z16 6 = zk6 := by
  show nxtB 5 (grpB z16 5) = _
  rw [zk_5]
  kernel_rfl
theorem zk_7 : grpB z16 7 = zk7 := by
  show nxtB 6 (grpB z16 6) = _
  rw [zk_6]
  kernel_rfl
theorem zk_8 : grpB z16 8 = zk8 := by
  show nxtB 7 (grpB z16 7) = _
  rw [zk_7]
  kernel_rfl
theorem zk_9 : grpB z16 9 = zk9 := by
  show nxtB 8 (grpB z16 8) = _
  rw [zk_8]
  kernel_rfl
theorem zk_10 : grpB z16 10 = zk10 := by
  show nxtB 9 (grpB z16 9) = _
  rw [zk_9]
  kernel_rfl
def zE : List B8 := ((((((((((([] ++ zk0) ++ zk1) ++ zk2) ++ zk3) ++ zk4) ++ zk5) ++ zk6) ++ zk7) ++ zk8) ++ zk9) ++ zk10)
theorem z_words : wordsR z16 = zE := by
  unfold wordsR zE
  simp only [catG]
  rw [zk_0, zk_1, zk_2, zk_3, zk_4, zk_5, zk_6, zk_7, zk_8, zk_9, zk_10]
theorem zl_0 : rgG addG mixG shiftG subG trL zE sboxL z16 0 = zl0 := by kernel_rfl
theorem zl_1 : rgG addG mixG shiftG subG trL zE sboxL z16 1 = zl1 := by
  show addG (mixG (shiftG (subG sboxL (rgG addG mixG shiftG subG trL zE sboxL z16 0)))) (rk zE 1) = _
  rw [zl_0]
  kernel_rfl
theorem zl_2 : rgG addG mixG shiftG subG trL zE sboxL z16 2 = zl2 := by
  show addG (mixG (shiftG (subG sboxL (rgG addG mixG shiftG subG trL zE sboxL z16 1)))) (rk zE 2) = _
  rw [zl_1]
  kernel_rfl
theorem zl_3 : rgG addG mixG shiftG subG trL zE sboxL z16 3 = zl3 := by
  show addG (mixG (shiftG (subG sboxL (rgG addG mixG shiftG subG trL zE sboxL z16 2)))) (rk zE 3) = _
  rw [zl_2]
  kernel_rfl
theorem zl_4 : rgG addG mixG shiftG subG trL zE sboxL z16 4 = zl4 := by
  show addG (mixG (shiftG (subG sboxL (rgG addG mixG shiftG subG trL zE sboxL z16 3)))) (rk zE 4) = _
  rw [zl_3]
  kernel_rfl
theorem zl_5 : rgG addG mixG shiftG subG trL zE sboxL z16 5 = zl5 := by
  show addG (mixG (shiftG (subG sboxL (rgG addG mixG shiftG subG trL zE sboxL z16 4)))) (rk zE 5) = _
  rw [zl_4]
  kernel_rfl
theorem zl_6 : rgG addG mixG shiftG subG trL zE sboxL z16 6 = zl6 := by
  show addG (mixG (shiftG (subG sboxL (rgG addG mixG shiftG subG trL zE sboxL z16 5)))) (rk zE 6) = _
  rw [zl_5]
  kernel_rfl
theorem zl_7 : rgG addG mixG shiftG subG trL zE sboxL z16 7 = zl7 := by
  show addG (mixG (shiftG (subG sboxL (rgG addG mixG shiftG subG trL zE sboxL z16 6)))) (rk zE 7) = _
  rw [zl_6]
  kernel_rfl
theorem zl_8 : rgG addG mixG shiftG subG trL zE sboxL z16 8 = zl8 := by
  show addG (mixG (shiftG (subG sboxL (rgG addG mixG shiftG subG trL zE sboxL z16 7)))) (rk zE 8) = _
  rw [zl_7]
  kernel_rfl
theorem zl_9 : rgG addG mixG shiftG subG trL zE sboxL z16 9 = zl9 := by
  show addG (mixG (shiftG (subG sboxL (rgG addG mixG shiftG subG trL zE sboxL z16 8)))) (rk zE 9) = _
  rw [zl_8]
  kernel_rfl
theorem zl_10 : rgG addG mixG shiftG subG trL zE sboxL z16 10 = zl10 := by
  show addG ((fun x => x) (shiftG (subG sboxL (rgG addG mixG shiftG subG trL zE sboxL z16 9)))) (rk zE 10) = _
  rw [zl_9]
  kernel_rfl
theorem z_out : refEnc (wordsR z16) sboxL z16 = zOut := by
  rw [z_words]
  unfold refEnc
  rw [zl_10]
  kernel_rfl
end
end Go.Mo
