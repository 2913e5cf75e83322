/-
  Three facts of the row of PartyOfNothing off the whole program: its main word behind the harness is 'cut'; no more of its words is asked for.
-/
import Derived.Test.YtbhbpfdjlabamaaGreatRows
import Derived.WalkKit
import Derived.ProofKit
set_option linter.all false
set_option linter.unusedVariables false
set_option linter.unusedSimpArgs false
namespace Go.Proofs.YtbhbpfdjlabamaaGreat
open Go
set_option maxRecDepth 100000
def restC : List Char := ['a', 't', ' ', 'c', 'u', 'r', 'i', 'a', '/', 'c', 'u', 'r', 'i', 'a', 'l', 'a', 'w', '1', '5', '.', 'A', 'u', 'd', 'i', 't', 'F', 'o', 'r', 'k', 's', ' ', 'c', 'u', 'r', 'i', 'a', '/', 'c', 'u', 'r', 'i', 'a', 'l', 'a', 'w', '1', '5', '.', 'A', 'u', 'd', 'i', 't', 'O', 'p', 's', ' ', 'c', 'u', 'r', 'i', 'a', '/', 'c', 'u', 'r', 'i', 'a', 'l', 'a', 'w', '1', '3', '.', 'P', 'a', 'r', 't', 'y', 'O', 'f', 'N', 'o', 't', 'h', 'i', 'n', 'g', ' ', 'c', 'u', 'r', 'i', 'a', '/', 'c', 'u', 'r', 'i', 'a', 'l', 'a', 'w', '1', '3', '.', 'P', 'a', 'r', 't', 'y', 'P', 'l', 'a', 'y', 's', ' ', 'c', 'u', 'r', 'i', 'a', '/', 'c', 'u', 'r', 'i', 'a', 'l', 'a', 'w', '1', '3', '.', 'P', 'a', 'r', 't', 'y', 'O', 'n', 'e', ' ', 'c', 'u', 'r', 'i', 'a', '/', 'c', 'u', 'r', 'i', 'a', 'l', 'a', 'w', '1', '3', '.', 'P', 'a', 'r', 't', 'y', 'G', 'o', 'n', 'e', ' ', 'c', 'u', 'r', 'i', 'a', '/', 'c', 'u', 'r', 'i', 'a', 'l', 'a', 'w', '1', '3', '.', 'P', 'a', 'r', 't', 'y', 'Q', 'u', 'o', 'r', 'u', 'm', ' ', 'c', 'u', 'r', 'i', 'a', '/', 'c', 'u', 'r', 'i', 'a', 'l', 'a', 'w', '1', '3', '.', 'P', 'a', 'r', 't', 'y', 'F', 'o', 'r', 'g', 'e', 'd', ' ', 'c', 'u', 'r', 'i', 'a', '/', 'c', 'u', 'r', 'i', 'a', 'l', 'a', 'w', '1', '3', '.', 'P', 'a', 'r', 't', 'y', 'L', 'i', 'e', 's', ' ', 'c', 'u', 'r', 'i', 'a', '/', 'c', 'u', 'r', 'i', 'a', 'l', 'a', 'w', '1', '3', '.', 'P', 'a', 'r', 't', 'y', 'O', 'w', 'n', ' ', 'c', 'u', 'r', 'i', 'a', '/', 'c', 'u', 'r', 'i', 'a', 'l', 'a', 'w', '1', '3', '.', 'P', 'a', 'r', 't', 'y', 'W', 'e', 'l', 'c', 'o', 'm', 'e', ' ', 'c', 'u', 'r', 'i', 'a', '/', 'c', 'u', 'r', 'i', 'a', 'l', 'a', 'w', '1', '3', '.', 'P', 'a', 'r', 't', 'y', 'F', 'o', 'r', 'k', 's', ' ', 'c', 'u', 'r', 'i', 'a', '/', 'c', 'u', 'r', 'i', 'a', 'l', 'a', 'w', '1', '3', '.', 'P', 'a', 'r', 't', 'y', 'E', 'x', 'p', 'o', 'r', 't', 's', ' ', 'c', 'u', 'r', 'i', 'a', '/', 'c', 'u', 'r', 'i', 'a', 'l', 'a', 'w', '1', '3', '.', 'P', 'a', 'r', 't', 'y', 'N', 'e', 'w', ' ', 'c', 'u', 'r', 'i', 'a', '/', 'c', 'u', 'r', 'i', 'a', 'l', 'a', 'w', '1', '3', '.', 'P', 'a', 'r', 't', 'y', 'R', 'e', 'p', 'l', 'a', 'c', 'e', 'd', ' ', 'c', 'u', 'r', 'i', 'a', '/', 'c', 'u', 'r', 'i', 'a', 'l', 'a', 'w', '1', '4', '.', 'W', 'o', 'r', 'l', 'd', 'S', 't', 'a', 'l', 'e', ' ', 'c', 'u', 'r', 'i', 'a', '/', 'c', 'u', 'r', 'i', 'a', 'l', 'a', 'w', '1', '4', '.', 'W', 'o', 'r', 'l', 'd', 'V', 'o', 't', 'e', 's', ' ', 'c', 'u', 'r', 'i', 'a', '/', 'c', 'u', 'r', 'i', 'a', 'l', 'a', 'w', '1', '4', '.', 'W', 'o', 'r', 'l', 'd', 'O', 'r', 'd', 'e', 'r', ' ', 'c', 'u', 'r', 'i', 'a', '/', 'c', 'u', 'r', 'i', 'a', 'l', 'a', 'w', '1', '4', '.', 'W', 'o', 'r', 'l', 'd', 'F', 'u', 'l', 'l', ' ', 'c', 'u', 'r', 'i', 'a', '/', 'c', 'u', 'r', 'i', 'a', 'l', 'a', 'w', '1', '4', '.', 'W', 'o', 'r', 'l', 'd', 'E', 'r', 'r', 's', ' ', 'c', 'u', 'r', 'i', 'a', '/', 'c', 'u', 'r', 'i', 'a', 'l', 'a', 'w', '1', '4', '.', 'W', 'o', 'r', 'l', 'd', 'G', 'r', 'o', 'w', 's', ' ', 'c', 'u', 'r', 'i', 'a', '/', 'c', 'u', 'r', 'i', 'a', 'l', 'a', 'w', '1', '4', '.', 'W', 'o', 'r', 'l', 'd', 'O', 'f', 'N', 'o', 't', 'h', 'i', 'n', 'g', ' ', 'c', 'u', 'r', 'i', 'a', '/', 'c', 'u', 'r', 'i', 'a', 'l', 'a', 'w', '1', '4', '.', 'W', 'o', 'r', 'l', 'd', 'O', 'w', 'n', ' ', 'c', 'u', 'r', 'i', 'a', '/', 'c', 'u', 'r', 'i', 'a', 'l', 'a', 'w', '1', '4', '.', 'W', 'o', 'r', 'l', 'd', 'K', 'i', 'n', 'd', 's', ' ', 'c', 'u', 'r', 'i', 'a', '/', 'c', 'u', 'r', 'i', 'a', 't', 'o', 'p', '.', 'T', 'o', 'p', 'B', 'a', 'c', 'k']
def hexC : List Char := ['4', 'e', '0', '5', 'c', 'c', '6', '5', 'a', '1', 'a', '0', 'f', 'f', 'f', '7', '5', '3', 'c', 'a', '6', 'a', 'e', 'e', '1', 'f', 'd', '4', '8', '8', '7', '3', 'e', '1', '1', 'c', 'e', '4', 'f', '5', '4', '2', 'b', '9', '3', '5', '5', 'e', '0', '3', '4', '7', '3', 'e', 'c', '3', '5', '7', '8', 'd', '0', '4', '0', '6']
theorem ws_pre (r : List Char) : wordsSigns ('h' :: 'a' :: 'r' :: 'n' :: 'e' :: 's' :: 's' :: ' ' :: '4' :: 'e' :: '0' :: '5' :: 'c' :: 'c' :: '6' :: '5' :: 'a' :: '1' :: 'a' :: '0' :: 'f' :: 'f' :: 'f' :: '7' :: '5' :: '3' :: 'c' :: 'a' :: '6' :: 'a' :: 'e' :: 'e' :: '1' :: 'f' :: 'd' :: '4' :: '8' :: '8' :: '7' :: '3' :: 'e' :: '1' :: '1' :: 'c' :: 'e' :: '4' :: 'f' :: '5' :: '4' :: '2' :: 'b' :: '9' :: '3' :: '5' :: '5' :: 'e' :: '0' :: '3' :: '4' :: '7' :: '3' :: 'e' :: 'c' :: '3' :: '5' :: '7' :: '8' :: 'd' :: '0' :: '4' :: '0' :: '6' :: ' ' :: 'c' :: 'u' :: 't' :: ' ' :: r) = ['h', 'a', 'r', 'n', 'e', 's', 's'] :: hexC :: ['c', 'u', 't'] :: wordsSigns r := by kernel_rfl
theorem behind_pre (l : List (List Char)) : behindMainWord (['h', 'a', 'r', 'n', 'e', 's', 's'] :: hexC :: ['c', 'u', 't'] :: l) = ['c', 'u', 't'] :: l := by kernel_rfl
theorem order_is : Tryz.prog.initOrder = String.ofList ('h' :: 'a' :: 'r' :: 'n' :: 'e' :: 's' :: 's' :: ' ' :: '4' :: 'e' :: '0' :: '5' :: 'c' :: 'c' :: '6' :: '5' :: 'a' :: '1' :: 'a' :: '0' :: 'f' :: 'f' :: 'f' :: '7' :: '5' :: '3' :: 'c' :: 'a' :: '6' :: 'a' :: 'e' :: 'e' :: '1' :: 'f' :: 'd' :: '4' :: '8' :: '8' :: '7' :: '3' :: 'e' :: '1' :: '1' :: 'c' :: 'e' :: '4' :: 'f' :: '5' :: '4' :: '2' :: 'b' :: '9' :: '3' :: '5' :: '5' :: 'e' :: '0' :: '3' :: '4' :: '7' :: '3' :: 'e' :: 'c' :: '3' :: '5' :: '7' :: '8' :: 'd' :: '0' :: '4' :: '0' :: '6' :: ' ' :: 'c' :: 'u' :: 't' :: ' ' :: restC) := by kernel_rfl
theorem words_cut : behindMainWord (wordsSigns Tryz.prog.initOrder.toList) = ['c', 'u', 't'] :: wordsSigns restC := by
  rw [order_is, String.toList_ofList, ws_pre, behind_pre]
theorem strip_cut (l : List (List Char)) : stripLifts liftWords (['c', 'u', 't'] :: l) = ([], ['c', 'u', 't'] :: l) := by kernel_rfl
theorem fLater : Tryz.prog.laysLater = false := by kernel_rfl
theorem fRefl : Tryz.prog.bearsReflect = false := by kernel_rfl
theorem fDoor : Tryz.prog.doorFits [] = true := by kernel_rfl
theorem fHead : Tryz.prog.headLifts.contains "finals" = false := by
  unfold Program.headLifts
  rw [words_cut]
  generalize wordsSigns restC = l
  rw [strip_cut]
  generalize (['c', 'u', 't'] :: l) = l
  simp only
  split <;> rfl
theorem e1 : ((['c', 'u', 't'] : List Char) == "gc".toList) = false := by decide
theorem e2 : ((['c', 'u', 't'] : List Char) == "spec".toList) = false := by decide
theorem e3 : ((['c', 'u', 't'] : List Char) == "cut".toList) = true := by decide
theorem e4 : ((['c', 'u', 't'] : List Char) == "carried".toList) = false := by decide
theorem e5 : ((some ['c', 'u', 't'] : Option (List Char)) == some "cut".toList) = true := by decide
theorem make_of (P : Program) (l : List (List Char)) (h : behindMainWord (wordsSigns P.initOrder.toList) = ['c', 'u', 't'] :: l) : P.make = some .cut := by
  unfold Program.make
  rw [h]
  simp [e1, e2, e3]
theorem may_of (P : Program) (l : List (List Char)) (h : behindMainWord (wordsSigns P.initOrder.toList) = ['c', 'u', 't'] :: l) (a : P.laysLater = false) (b : P.bearsReflect = false) (c : P.doorFits [] = true) : P.mayEnter = true := by
  unfold Program.mayEnter
  rw [h]
  simp [strip_cut, a, b, c, e1, e2, e3, e4, e5]
theorem fMay : Tryz.prog.mayEnter = true := may_of _ _ words_cut fLater fRefl fDoor
theorem fLift : (Rows.partyOfNothingRow.lifted == Tryz.prog.liftsFinal) = true := by
  unfold Program.liftsFinal
  simp only [fHead, words_cut]
  generalize wordsSigns restC = l
  kernel_rfl
theorem fMake : (Tryz.prog.make == some Rows.partyOfNothingRow.make) = true := by
  rw [make_of _ _ words_cut]
  rfl
end Go.Proofs.YtbhbpfdjlabamaaGreat
