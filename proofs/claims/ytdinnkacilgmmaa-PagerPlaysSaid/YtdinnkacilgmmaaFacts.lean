/- Closed facts on the program that all rows share, in parts: the head's words are read off a list of signs, not off a string. -/
import Derived.Test.YtdinnkacilgmmaaRows
import Derived.JoinedOf
import Derived.KernelRfl
namespace Go.Proofs.Ytdinnkacilgmmaa.Facts
open Go

def pre : List Char := [104, 97, 114, 110, 101, 115, 115, 32, 57, 52, 102, 49, 55, 51, 53, 53, 102, 50, 97, 55, 52, 49, 56, 99, 99, 100, 102, 51, 53, 98, 51, 56, 98, 101, 98, 102, 97, 49, 100, 99, 99, 50, 100, 50, 53, 53, 98, 51, 50, 49, 52, 51, 101, 49, 97, 53, 49, 100, 98, 49, 98, 51, 97, 53, 97, 52, 51, 99, 52, 51, 50, 55, 32, 99, 117, 116, 32].map Char.ofNat
def post : List Char := [97, 116, 32, 97, 108, 109, 111, 110, 101, 114, 47, 97, 108, 109, 111, 110, 101, 114, 108, 97, 119, 48, 49, 46, 67, 114, 99, 84, 101, 108, 108, 115, 32, 97, 108, 109, 111, 110, 101, 114, 47, 97, 108, 109, 111, 110, 101, 114, 108, 97, 119, 48, 49, 46, 67, 114, 99, 65, 100, 100, 115, 32, 97, 108, 109, 111, 110, 101, 114, 47, 97, 108, 109, 111, 110, 101, 114, 108, 97, 119, 48, 49, 46, 67, 114, 99, 83, 108, 111, 116, 115, 32, 97, 108, 109, 111, 110, 101, 114, 47, 97, 108, 109, 111, 110, 101, 114, 108, 97, 119, 48, 49, 46, 67, 114, 99, 80, 105, 101, 99, 101, 115, 32, 97, 108, 109, 111, 110, 101, 114, 47, 97, 108, 109, 111, 110, 101, 114, 108, 97, 119, 48, 49, 46, 67, 114, 99, 78, 111, 117, 103, 104, 116, 115, 32, 97, 108, 109, 111, 110, 101, 114, 47, 97, 108, 109, 111, 110, 101, 114, 108, 97, 119, 48, 51, 46, 68, 105, 115, 107, 83, 97, 102, 101, 32, 97, 108, 109, 111, 110, 101, 114, 47, 97, 108, 109, 111, 110, 101, 114, 108, 97, 119, 48, 51, 46, 68, 105, 115, 107, 76, 111, 97, 100, 115, 32, 97, 108, 109, 111, 110, 101, 114, 47, 97, 108, 109, 111, 110, 101, 114, 108, 97, 119, 48, 51, 46, 68, 105, 115, 107, 70, 97, 105, 108, 115, 32, 97, 108, 109, 111, 110, 101, 114, 47, 97, 108, 109, 111, 110, 101, 114, 108, 97, 119, 48, 51, 46, 68, 105, 115, 107, 83, 121, 110, 99, 115, 32, 97, 108, 109, 111, 110, 101, 114, 47, 97, 108, 109, 111, 110, 101, 114, 108, 97, 119, 48, 51, 46, 68, 105, 115, 107, 80, 108, 97, 121, 115, 32, 97, 108, 109, 111, 110, 101, 114, 47, 97, 108, 109, 111, 110, 101, 114, 108, 97, 119, 48, 51, 46, 68, 105, 115, 107, 78, 105, 108, 32, 97, 108, 109, 111, 110, 101, 114, 47, 97, 108, 109, 111, 110, 101, 114, 108, 97, 119, 48, 51, 46, 68, 105, 115, 107, 67, 111, 112, 105, 101, 115, 32, 97, 108, 109, 111, 110, 101, 114, 47, 97, 108, 109, 111, 110, 101, 114, 108, 97, 119, 48, 52, 46, 74, 111, 117, 114, 110, 97, 108, 65, 103, 97, 105, 110, 32, 97, 108, 109, 111, 110, 101, 114, 47, 97, 108, 109, 111, 110, 101, 114, 108, 97, 119, 48, 52, 46, 74, 111, 117, 114, 110, 97, 108, 82, 111, 111, 109, 115, 32, 97, 108, 109, 111, 110, 101, 114, 47, 97, 108, 109, 111, 110, 101, 114, 108, 97, 119, 48, 52, 46, 74, 111, 117, 114, 110, 97, 108, 76, 97, 112, 115, 32, 97, 108, 109, 111, 110, 101, 114, 47, 97, 108, 109, 111, 110, 101, 114, 108, 97, 119, 48, 52, 46, 74, 111, 117, 114, 110, 97, 108, 78, 105, 108, 32, 97, 108, 109, 111, 110, 101, 114, 47, 97, 108, 109, 111, 110, 101, 114, 108, 97, 119, 48, 52, 46, 74, 111, 117, 114, 110, 97, 108, 76, 97, 115, 116, 115, 32, 97, 108, 109, 111, 110, 101, 114, 47, 97, 108, 109, 111, 110, 101, 114, 108, 97, 119, 48, 53, 46, 80, 97, 103, 101, 114, 83, 116, 101, 97, 100, 121, 32, 97, 108, 109, 111, 110, 101, 114, 47, 97, 108, 109, 111, 110, 101, 114, 108, 97, 119, 48, 53, 46, 80, 97, 103, 101, 114, 70, 108, 105, 112, 115, 32, 97, 108, 109, 111, 110, 101, 114, 47, 97, 108, 109, 111, 110, 101, 114, 108, 97, 119, 48, 53, 46, 80, 97, 103, 101, 114, 67, 111, 117, 110, 116, 115, 32, 97, 108, 109, 111, 110, 101, 114, 47, 97, 108, 109, 111, 110, 101, 114, 108, 97, 119, 48, 53, 46, 80, 97, 103, 101, 114, 78, 105, 108, 32, 97, 108, 109, 111, 110, 101, 114, 47, 97, 108, 109, 111, 110, 101, 114, 108, 97, 119, 48, 53, 46, 80, 97, 103, 101, 114, 80, 108, 97, 121, 115].map Char.ofNat

theorem order : Try.prog.initOrder = String.ofList (pre ++ post) := by kernel_rfl
theorem signs : Try.prog.initOrder.toList = pre ++ post := by rw [order, String.toList_ofList]

theorem words (t : List Char) : behindMainWord (wordsSigns (pre ++ t)) = "cut".toList :: wordsSigns t := by kernel_rfl
theorem head : behindMainWord (wordsSigns Try.prog.initOrder.toList) = "cut".toList :: wordsSigns post := by rw [signs, words]

theorem strip (ws : List (List Char)) : stripLifts liftWords ("cut".toList :: ws) = ([], "cut".toList :: ws) := by kernel_rfl

theorem later : Try.prog.laysLater = false := by kernel_rfl
theorem reflects : Try.prog.bearsReflect = false := by kernel_rfl
theorem fits : Try.prog.doorFits [] = true := by kernel_rfl

section
variable {P : Program} {rest : List (List Char)} (h : behindMainWord (wordsSigns P.initOrder.toList) = "cut".toList :: rest)
include h
theorem lifts_of : P.headLifts = [] := by
  unfold Program.headLifts
  rw [h, strip]
  rfl
theorem enter_of (h1 : P.laysLater = false) (h2 : P.bearsReflect = false) (h3 : P.doorFits [] = true) : P.mayEnter = true := by
  unfold Program.mayEnter
  rw [h]
  simp only [strip, h1, h2, h3]
  rfl
theorem final_of : P.liftsFinal = false := by
  unfold Program.liftsFinal
  rw [h, lifts_of h]
  rfl
theorem made_of : P.make = some .cut := by
  unfold Program.make
  rw [h]
  rfl
end

theorem enter : Try.prog.mayEnter = true := enter_of head later reflects fits
theorem final : Try.prog.liftsFinal = false := final_of head
theorem made : Try.prog.make = some .cut := made_of head
end Go.Proofs.Ytdinnkacilgmmaa.Facts
