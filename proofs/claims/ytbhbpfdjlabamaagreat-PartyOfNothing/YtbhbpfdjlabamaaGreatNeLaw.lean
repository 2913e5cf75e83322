/-
  A party of one, made of fixed seeds: its first commit, computed. 'F46 = some true'.
-/
import Derived.Test.YtbhbpfdjlabamaaGreatNePure
set_option linter.all false
set_option linter.unusedVariables false
set_option linter.unusedSimpArgs false
namespace Go.Proofs.YtbhbpfdjlabamaaGreat
open Go

theorem bdS {α ρ : Type} {m : Option α} {f : α → Option ρ} {x : α} {r : Option ρ} (h : m = some x) (k : f x = r) : Bd m f = r := by subst h; exact k
theorem ltS {α ρ : Type} {v : α} {f : α → ρ} {r : ρ} (k : f v = r) : Let v f = r := k
theorem moS {α ρ : Type} {x : α} {A : Option ρ} {f : α → Option ρ} {r : Option ρ} (k : f x = r) : Mo (some x) A f = r := k
theorem mnS {α ρ : Type} {A : Option ρ} {f : α → Option ρ} {r : Option ρ} (k : A = r) : Mo (none : Option α) A f = r := k
theorem btS {ρ : Type} {c : Bool} {A B r : Option ρ} (h : c = true) (k : A = r) : Br c A B = r := by subst h; exact k
theorem bfS {ρ : Type} {c : Bool} {A B r : Option ρ} (h : c = false) (k : B = r) : Br c A B = r := by subst h; exact k
theorem gdS {ρ : Type} {c : Prop} [Decidable c] {A r : Option ρ} (h : decide c = true) (k : A = r) : Gd c A = r := by unfold Gd; rw [if_pos (of_decide_eq_true h)]; exact k

def P3 : Vector Int 32 := vup (Vector.replicate 32 (0 : Int)) (0 : Int) 1
def cp1 : SpartyParty := ⟨⟨0, ⟨#v[⟨317805612, 1624210669⟩, ⟨0, 0⟩, ⟨0, 0⟩, ⟨0, 0⟩, ⟨0, 0⟩, ⟨0, 0⟩, ⟨0, 0⟩, ⟨0, 0⟩], #v[0, 0, 0, 0, 0, 0, 0, 0, 0, 0, 0, 0, 0, 0, 0]⟩, #v[true, false, false, false, false, false, false, false], 1, #v[0, 0, 0, 0, 0, 0, 0, 0, 0, 0, 0, 0, 0, 0, 0, 0, 0, 0, 0, 0, 0, 0, 0, 0, 0, 0, 0, 0, 0, 0, 0, 0]⟩, 0, (some 430830205), #v[186, 62, 189, 30, 75, 234, 255, 236, 101, 242, 187, 87, 84, 81, 111, 9, 69, 83, 151, 222, 160, 110, 243, 195, 189, 117, 133, 112, 178, 157, 137, 90], #v[false, false, false], #v[#v[0, 0, 0, 0, 0, 0, 0, 0, 0, 0, 0, 0, 0, 0, 0, 0, 0, 0, 0, 0, 0, 0, 0, 0, 0, 0, 0, 0, 0, 0, 0, 0], #v[0, 0, 0, 0, 0, 0, 0, 0, 0, 0, 0, 0, 0, 0, 0, 0, 0, 0, 0, 0, 0, 0, 0, 0, 0, 0, 0, 0, 0, 0, 0, 0], #v[0, 0, 0, 0, 0, 0, 0, 0, 0, 0, 0, 0, 0, 0, 0, 0, 0, 0, 0, 0, 0, 0, 0, 0, 0, 0, 0, 0, 0, 0, 0, 0]], #v[31, 184, 74, 225, 210, 253, 188, 224, 26, 190, 32, 52, 46, 2, 214, 111, 203, 202, 193, 200, 7, 176, 1, 181, 94, 195, 102, 163, 204, 223, 62, 95], #v[176, 159, 42, 249, 188, 101, 13, 238, 222, 241, 186, 165, 81, 78, 225, 148, 228, 69, 168, 29, 151, 16, 199, 241, 11, 20, 43, 70, 241, 34, 119, 176]⟩
def cy88 : SView × (Vector Bool 8) × (Vector Bool 8) × Int := (⟨0, ⟨#v[⟨317805612, 1624210669⟩, ⟨0, 0⟩, ⟨0, 0⟩, ⟨0, 0⟩, ⟨0, 0⟩, ⟨0, 0⟩, ⟨0, 0⟩, ⟨0, 0⟩], #v[0, 0, 0, 0, 0, 0, 0, 0, 0, 0, 0, 0, 0, 0, 0]⟩, #v[true, false, false, false, false, false, false, false], 1, #v[0, 0, 0, 0, 0, 0, 0, 0, 0, 0, 0, 0, 0, 0, 0, 0, 0, 0, 0, 0, 0, 0, 0, 0, 0, 0, 0, 0, 0, 0, 0, 0]⟩, (#v[false, false, false, false, false, false, false, false], (#v[false, false, false, false, false, false, false, false], 0)))
def cy89 : (Vector Int 32) × SpartyParty × SCommit := (#v[66, 185, 87, 119, 40, 214, 15, 91, 46, 3, 203, 7, 110, 153, 219, 132, 158, 110, 110, 213, 126, 240, 105, 144, 107, 0, 42, 210, 142, 59, 69, 33], (⟨⟨0, ⟨#v[⟨317805612, 1624210669⟩, ⟨0, 0⟩, ⟨0, 0⟩, ⟨0, 0⟩, ⟨0, 0⟩, ⟨0, 0⟩, ⟨0, 0⟩, ⟨0, 0⟩], #v[0, 0, 0, 0, 0, 0, 0, 0, 0, 0, 0, 0, 0, 0, 0]⟩, #v[true, false, false, false, false, false, false, false], 1, #v[0, 0, 0, 0, 0, 0, 0, 0, 0, 0, 0, 0, 0, 0, 0, 0, 0, 0, 0, 0, 0, 0, 0, 0, 0, 0, 0, 0, 0, 0, 0, 0]⟩, 0, (some 430830205), #v[182, 115, 138, 40, 182, 0, 99, 74, 220, 200, 242, 199, 123, 18, 36, 183, 8, 18, 22, 203, 140, 220, 220, 115, 74, 139, 113, 223, 104, 104, 215, 170], #v[true, true, true], #v[#v[19, 253, 82, 140, 232, 77, 41, 84, 184, 242, 208, 205, 174, 235, 143, 152, 93, 207, 137, 56, 114, 199, 234, 137, 255, 164, 246, 253, 176, 218, 66, 158], #v[190, 69, 142, 112, 80, 78, 162, 158, 8, 30, 75, 82, 78, 6, 196, 123, 41, 30, 190, 86, 168, 105, 167, 242, 106, 61, 165, 68, 157, 170, 157, 255], #v[83, 78, 26, 102, 194, 162, 6, 100, 106, 144, 110, 218, 188, 41, 75, 51, 191, 86, 204, 58, 134, 128, 185, 226, 17, 119, 184, 127, 159, 239, 38, 25]], #v[31, 184, 74, 225, 210, 253, 188, 224, 26, 190, 32, 52, 46, 2, 214, 111, 203, 202, 193, 200, 7, 176, 1, 181, 94, 195, 102, 163, 204, 223, 62, 95], #v[176, 159, 42, 249, 188, 101, 13, 238, 222, 241, 186, 165, 81, 78, 225, 148, 228, 69, 168, 29, 151, 16, 199, 241, 11, 20, 43, 70, 241, 34, 119, 176]⟩, ⟨0, 0, [], [], 1377034665, #v[1809463063, 737698301, 511460799], [], #v[0, 0, 0, 0, 0, 0, 0, 0, 0, 0, 0, 0, 0, 0, 0, 0, 0, 0, 0, 0, 0, 0, 0, 0, 0, 0, 0, 0, 0, 0, 0, 0], ⟨0, 0⟩⟩))
def cy90 : SView := ⟨1, ⟨#v[⟨317805612, 1377034665⟩, ⟨0, 0⟩, ⟨0, 0⟩, ⟨0, 0⟩, ⟨0, 0⟩, ⟨0, 0⟩, ⟨0, 0⟩, ⟨0, 0⟩], #v[0, 1809463063, 0, 737698301, 0, 0, 0, 511460799, 0, 0, 0, 0, 0, 0, 0]⟩, #v[true, false, false, false, false, false, false, false], 1, #v[0, 0, 0, 0, 0, 0, 0, 0, 0, 0, 0, 0, 0, 0, 0, 0, 0, 0, 0, 0, 0, 0, 0, 0, 0, 0, 0, 0, 0, 0, 0, 0]⟩
def cy91 : (List (List Int)) × Int := ([], 0)
def cy92 : Vector Int 32 := #v[234, 196, 105, 53, 28, 36, 26, 34, 7, 138, 81, 17, 45, 215, 88, 25, 195, 234, 240, 58, 162, 214, 179, 111, 3, 68, 47, 231, 213, 44, 16, 64]
def cy93 : Vector Int 32 := #v[14, 84, 136, 48, 45, 58, 58, 102, 141, 89, 126, 133, 135, 101, 238, 148, 70, 241, 158, 54, 213, 129, 167, 46, 0, 5, 50, 251, 78, 71, 249, 232]
def cy94 : (Vector Int 32) × SpartyParty := (#v[107, 180, 131, 220, 47, 35, 144, 60, 77, 121, 160, 90, 204, 187, 218, 17, 21, 180, 178, 130, 90, 194, 60, 47, 147, 30, 32, 157, 134, 114, 246, 48], ⟨⟨1, ⟨#v[⟨317805612, 1377034665⟩, ⟨0, 0⟩, ⟨0, 0⟩, ⟨0, 0⟩, ⟨0, 0⟩, ⟨0, 0⟩, ⟨0, 0⟩, ⟨0, 0⟩], #v[0, 1809463063, 0, 737698301, 0, 0, 0, 511460799, 0, 0, 0, 0, 0, 0, 0]⟩, #v[true, false, false, false, false, false, false, false], 1, #v[234, 196, 105, 53, 28, 36, 26, 34, 7, 138, 81, 17, 45, 215, 88, 25, 195, 234, 240, 58, 162, 214, 179, 111, 3, 68, 47, 231, 213, 44, 16, 64]⟩, 0, (some 430830205), #v[182, 115, 138, 40, 182, 0, 99, 74, 220, 200, 242, 199, 123, 18, 36, 183, 8, 18, 22, 203, 140, 220, 220, 115, 74, 139, 113, 223, 104, 104, 215, 170], #v[true, true, true], #v[#v[19, 253, 82, 140, 232, 77, 41, 84, 184, 242, 208, 205, 174, 235, 143, 152, 93, 207, 137, 56, 114, 199, 234, 137, 255, 164, 246, 253, 176, 218, 66, 158], #v[190, 69, 142, 112, 80, 78, 162, 158, 8, 30, 75, 82, 78, 6, 196, 123, 41, 30, 190, 86, 168, 105, 167, 242, 106, 61, 165, 68, 157, 170, 157, 255], #v[83, 78, 26, 102, 194, 162, 6, 100, 106, 144, 110, 218, 188, 41, 75, 51, 191, 86, 204, 58, 134, 128, 185, 226, 17, 119, 184, 127, 159, 239, 38, 25]], #v[136, 192, 47, 235, 119, 99, 58, 204, 131, 191, 97, 253, 110, 11, 57, 197, 66, 69, 202, 126, 58, 252, 105, 24, 177, 56, 111, 203, 142, 119, 155, 145], #v[17, 6, 136, 130, 82, 234, 202, 147, 212, 79, 225, 169, 42, 26, 161, 189, 134, 224, 190, 139, 235, 119, 125, 145, 163, 5, 244, 123, 241, 251, 52, 111]⟩)
def cy96 : List Int := [0, 0, 0, 0, 0, 0, 0, 0, 0, 0, 0, 0, 0, 0, 0, 0, 0, 0, 0, 0, 0, 0, 0, 0, 0, 0, 0, 0, 0, 0, 0, 0, 0, 0, 0, 0, 82, 19, 225, 169, 0, 0, 0, 0, 107, 218, 55, 23, 0, 0, 0, 0, 43, 248, 97, 253, 0, 0, 0, 0, 30, 124, 69, 191, 0, 0, 0, 0, 0, 0, 0, 0, 107, 180, 131, 220, 47, 35, 144, 60, 77, 121, 160, 90, 204, 187, 218, 17, 21, 180, 178, 130, 90, 194, 60, 47, 147, 30, 32, 157, 134, 114, 246, 48]
def cy95 : SSig := ⟨361817404, 1051565448⟩
def crr : SCommit × (List SWelcome) × (Option SpartyParty) × Int := (⟨0, 0, [], [], 1377034665, #v[1809463063, 737698301, 511460799], [], #v[107, 180, 131, 220, 47, 35, 144, 60, 77, 121, 160, 90, 204, 187, 218, 17, 21, 180, 178, 130, 90, 194, 60, 47, 147, 30, 32, 157, 134, 114, 246, 48], ⟨361817404, 1051565448⟩⟩, ([], ((some ⟨⟨1, ⟨#v[⟨317805612, 1377034665⟩, ⟨0, 0⟩, ⟨0, 0⟩, ⟨0, 0⟩, ⟨0, 0⟩, ⟨0, 0⟩, ⟨0, 0⟩, ⟨0, 0⟩], #v[0, 1809463063, 0, 737698301, 0, 0, 0, 511460799, 0, 0, 0, 0, 0, 0, 0]⟩, #v[true, false, false, false, false, false, false, false], 1, #v[234, 196, 105, 53, 28, 36, 26, 34, 7, 138, 81, 17, 45, 215, 88, 25, 195, 234, 240, 58, 162, 214, 179, 111, 3, 68, 47, 231, 213, 44, 16, 64]⟩, 0, (some 430830205), #v[182, 115, 138, 40, 182, 0, 99, 74, 220, 200, 242, 199, 123, 18, 36, 183, 8, 18, 22, 203, 140, 220, 220, 115, 74, 139, 113, 223, 104, 104, 215, 170], #v[true, true, true], #v[#v[19, 253, 82, 140, 232, 77, 41, 84, 184, 242, 208, 205, 174, 235, 143, 152, 93, 207, 137, 56, 114, 199, 234, 137, 255, 164, 246, 253, 176, 218, 66, 158], #v[190, 69, 142, 112, 80, 78, 162, 158, 8, 30, 75, 82, 78, 6, 196, 123, 41, 30, 190, 86, 168, 105, 167, 242, 106, 61, 165, 68, 157, 170, 157, 255], #v[83, 78, 26, 102, 194, 162, 6, 100, 106, 144, 110, 218, 188, 41, 75, 51, 191, 86, 204, 58, 134, 128, 185, 226, 17, 119, 184, 127, 159, 239, 38, 25]], #v[136, 192, 47, 235, 119, 99, 58, 204, 131, 191, 97, 253, 110, 11, 57, 197, 66, 69, 202, 126, 58, 252, 105, 24, 177, 56, 111, 203, 142, 119, 155, 145], #v[17, 6, 136, 130, 82, 234, 202, 147, 212, 79, 225, 169, 42, 26, 161, 189, 134, 224, 190, 139, 235, 119, 125, 145, 163, 5, 244, 123, 241, 251, 52, 111]⟩), 0)))
theorem e87 : F87 cp1.v cp1.leaf [] [] = some 0 := by kernel_rfl
theorem e88 : F88 cp1.v cp1.leaf [] = some cy88 := by kernel_rfl
theorem e89 : F89 cp1 P3 ⟨0, 0, [], [], 0, Vector.replicate 3 0, [], Vector.replicate 32 0, SSig.zero⟩ = some cy89 := by kernel_rfl
theorem e90 : F90 cy88.1 cy89.2.2 = some cy90 := by kernel_rfl
theorem e91 : F91 (some cy89.2.1) cy90 cy88.2.1 P3 = some cy91 := by kernel_rfl
theorem e92 : F92 cp1.v { cy89.2.2 with Boxes := cy91.1 } = some cy92 := by kernel_rfl
theorem e93 : F93 cp1.init' cy89.1 = some cy93 := by kernel_rfl
theorem e94 : F94 cy89.2.1 { cy90 with Chain := cy92 } cy93 = some cy94 := by kernel_rfl
theorem e96 : F96 { cy89.2.2 with Boxes := cy91.1, Tag := cy94.1 } = some cy96 := by kernel_rfl
theorem e95 : F95 cp1.signer cy96 = some cy95 := by kernel_rfl
theorem el : F32_l0 cy88.2.1 cy94 cy93 P3 cy89 cy91 cy95 FUEL [] 0 = some crr := by kernel_rfl
theorem e28 : F28 (vup (vup (Vector.replicate 32 (0 : Int)) (0 : Int) 0) 1 11) = some (some cp1) := by kernel_rfl
theorem e45 : F45 (some cp1) = some (some cp1) := by kernel_rfl
theorem e32 : F32 (some cp1) [] [] P3 = some crr := by
  unfold F32
  refine moS ?_
  refine ltS ?_
  refine ltS ?_
  refine bdS e87 ?_
  refine ltS ?_
  refine bfS (by kernel_rfl) ?_
  refine ltS ?_
  refine ltS ?_
  refine bdS e88 ?_
  refine ltS ?_
  refine btS (by kernel_rfl) ?_
  refine ltS ?_
  refine ltS ?_
  unfold F32_j0
  refine bfS (by kernel_rfl) ?_
  unfold F32_j1
  refine ltS ?_
  refine bfS (by kernel_rfl) ?_
  refine bdS e45 ?_
  refine ltS ?_
  refine ltS ?_
  refine ltS ?_
  refine gdS (by kernel_rfl) ?_
  refine ltS ?_
  refine gdS (by kernel_rfl) ?_
  refine moS ?_
  refine bdS e89 ?_
  refine ltS ?_
  refine bdS e90 ?_
  refine ltS ?_
  refine bdS e91 ?_
  refine ltS ?_
  refine bfS (by kernel_rfl) ?_
  refine ltS ?_
  refine bdS e92 ?_
  refine ltS ?_
  refine ltS ?_
  refine ltS ?_
  refine bdS e93 ?_
  refine bdS e94 ?_
  refine bdS e96 ?_
  refine bdS e95 ?_
  refine ltS ?_
  exact el
theorem F46_true : F46 = some true := by
  unfold F46
  refine bdS (show F56 0 = some (vup (vup (Vector.replicate 32 (0 : Int)) (0 : Int) 0) 1 11) by kernel_rfl) ?_
  refine bdS e28 ?_
  refine moS ?_
  refine bdS (show F42 (some cp1) = some 0 by kernel_rfl) ?_
  refine ltS ?_
  refine bfS (by kernel_rfl) ?_
  refine bdS (show F40 (some cp1) = some cp1.v by kernel_rfl) ?_
  refine ltS ?_
  refine ltS ?_
  unfold F46_j0
  refine bfS (by kernel_rfl) ?_
  refine ltS ?_
  refine bdS e32 ?_
  kernel_rfl
theorem F5_true (s : ByteArray) : F5 s = some true := by
  have hn : F44 none s = some (Vector.replicate 32 (0 : Int)) := by unfold F44; exact mnS rfl
  unfold F5
  refine ltS (ltS ?_)
  cases decide (100 < (s.size : Int)) with
  | true => exact btS rfl rfl
  | false =>
    refine bfS rfl ?_
    refine bdS (show F32 none [] [] (Vector.replicate 32 (0 : Int)) = some ((⟨(0 : Int), (0 : Int), ([] : (List SOp)), ([] : (List SVote)), (0 : Int), (Vector.replicate 3 (0 : Int)), ([] : (List (List Int))), (Vector.replicate 32 (0 : Int)), SSig.zero⟩ : SCommit), [], none, 13) by kernel_rfl) ?_
    refine bdS (show F41 none _ = some (none, 13) by unfold F41; exact mnS rfl) ?_
    refine bdS (show F40 none = some SView.zero by kernel_rfl) ?_
    refine ltS (btS (by kernel_rfl) ?_)
    refine bdS (show F42 none = some 0 by kernel_rfl) ?_
    refine ltS (btS (by kernel_rfl) ?_)
    refine bdS (show F43 none = some none by kernel_rfl) ?_
    refine mnS ?_
    refine bdS hn ?_
    refine ltS (btS (by kernel_rfl) ?_)
    refine bdS (show F45 none = some none by kernel_rfl) ?_
    refine mnS ?_
    refine ltS (ltS (btS (by kernel_rfl) ?_))
    refine mnS (mnS ?_)
    refine ltS (btS (by kernel_rfl) ?_)
    refine ltS (btS (by kernel_rfl) ?_)
    exact bdS F46_true rfl
end Go.Proofs.YtbhbpfdjlabamaaGreat
