/- The order of the program's start, sign by sign. No condition. -/
import Derived.Test.YtacjiajijigebaaRows
import Derived.ProofKit
namespace Go.Proofs.Ytacjiajijigebaa
open Go
def ioL : List Char := List.map Char.ofNat [104, 97, 114, 110, 101, 115, 115, 32, 53, 50, 100, 54, 56, 97, 55, 100, 55, 99, 101, 55, 49, 97, 51, 101, 57, 50, 102, 57, 98, 56, 51, 48, 50, 53, 102, 52, 101, 51, 102, 99, 102, 101, 101, 53, 98, 98, 99, 102, 98, 97, 51, 99, 50, 48, 98, 52, 97, 55, 100, 56, 57, 97, 100, 102, 100, 49, 49, 52, 100, 100, 100, 98, 32, 99, 117, 116, 32, 97, 116, 32, 98, 97, 108, 101, 102, 105, 114, 101, 47, 98, 97, 108, 101, 102, 105, 114, 101, 108, 97, 119, 48, 55, 46, 80, 114, 105, 109, 101, 115, 83, 109, 97, 108, 108, 32, 98, 97, 108, 101, 102, 105, 114, 101, 47, 98, 97, 108, 101, 102, 105, 114, 101, 108, 97, 119, 48, 54, 46, 72, 97, 115, 104, 101, 115, 79, 102, 32, 98, 97, 108, 101, 102, 105, 114, 101, 47, 98, 97, 108, 101, 102, 105, 114, 101, 108, 97, 119, 48, 54, 46, 72, 97, 115, 104, 101, 115, 66, 121, 116, 101, 115, 32, 98, 97, 108, 101, 102, 105, 114, 101, 47, 98, 97, 108, 101, 102, 105, 114, 101, 108, 97, 119, 48, 56, 46, 71, 114, 111, 117, 112, 115, 79, 102, 32, 98, 97, 108, 101, 102, 105, 114, 101, 47, 98, 97, 108, 101, 102, 105, 114, 101, 108, 97, 119, 48, 54, 46, 72, 97, 115, 104, 101, 115, 72, 97, 108, 118, 101, 115, 32, 98, 97, 108, 101, 102, 105, 114, 101, 47, 98, 97, 108, 101, 102, 105, 114, 101, 108, 97, 119, 48, 55, 46, 80, 114, 105, 109, 101, 115, 67, 104, 101, 99, 107, 32, 98, 97, 108, 101, 102, 105, 114, 101, 47, 98, 97, 108, 101, 102, 105, 114, 101, 108, 97, 119, 49, 51, 46, 83, 105, 103, 115, 84, 119, 111, 32, 98, 97, 108, 101, 102, 105, 114, 101, 47, 98, 97, 108, 101, 102, 105, 114, 101, 108, 97, 119, 48, 55, 46, 80, 114, 105, 109, 101, 115, 80, 114, 111, 100, 117, 99, 116, 32, 98, 97, 108, 101, 102, 105, 114, 101, 47, 98, 97, 108, 101, 102, 105, 114, 101, 108, 97, 119, 48, 55, 46, 80, 114, 105, 109, 101, 115, 80, 97, 114, 116, 115, 32, 98, 97, 108, 101, 102, 105, 114, 101, 47, 98, 97, 108, 101, 102, 105, 114, 101, 108, 97, 119, 49, 52, 46, 80, 114, 111, 111, 102, 115, 84, 111, 108, 100, 32, 98, 97, 108, 101, 102, 105, 114, 101, 47, 98, 97, 108, 101, 102, 105, 114, 101, 108, 97, 119, 48, 55, 46, 80, 114, 105, 109, 101, 115, 84, 117, 114, 110, 101, 100, 32, 98, 97, 108, 101, 102, 105, 114, 101, 47, 98, 97, 108, 101, 102, 105, 114, 101, 108, 97, 119, 48, 55, 46, 80, 114, 105, 109, 101, 115, 87, 105, 108, 115, 111, 110, 32, 98, 97, 108, 101, 102, 105, 114, 101, 47, 98, 97, 108, 101, 102, 105, 114, 101, 108, 97, 119, 48, 54, 46, 72, 97, 115, 104, 101, 115, 78, 117, 109, 98, 101, 114, 32, 98, 97, 108, 101, 102, 105, 114, 101, 47, 98, 97, 108, 101, 102, 105, 114, 101, 108, 97, 119, 48, 55, 46, 80, 114, 105, 109, 101, 115, 76, 101, 102, 116, 32, 98, 97, 108, 101, 102, 105, 114, 101, 47, 98, 97, 108, 101, 102, 105, 114, 101, 108, 97, 119, 48, 56, 46, 71, 114, 111, 117, 112, 115, 67, 104, 101, 99, 107, 32, 98, 97, 108, 101, 102, 105, 114, 101, 47, 98, 97, 108, 101, 102, 105, 114, 101, 108, 97, 119, 48, 56, 46, 71, 114, 111, 117, 112, 115, 67, 108, 111, 115, 101, 100, 32, 98, 97, 108, 101, 102, 105, 114, 101, 47, 98, 97, 108, 101, 102, 105, 114, 101, 108, 97, 119, 48, 56, 46, 71, 114, 111, 117, 112, 115, 82, 111, 117, 110, 100, 32, 98, 97, 108, 101, 102, 105, 114, 101, 47, 98, 97, 108, 101, 102, 105, 114, 101, 108, 97, 119, 48, 56, 46, 71, 114, 111, 117, 112, 115, 80, 114, 111, 100, 117, 99, 116, 32, 98, 97, 108, 101, 102, 105, 114, 101, 47, 98, 97, 108, 101, 102, 105, 114, 101, 108, 97, 119, 48, 56, 46, 71, 114, 111, 117, 112, 115, 82, 111, 111, 116, 32, 98, 97, 108, 101, 102, 105, 114, 101, 47, 98, 97, 108, 101, 102, 105, 114, 101, 108, 97, 119, 49, 51, 46, 83, 105, 103, 115, 66, 111, 117, 110, 100, 115, 32, 98, 97, 108, 101, 102, 105, 114, 101, 47, 98, 97, 108, 101, 102, 105, 114, 101, 108, 97, 119, 49, 51, 46, 83, 105, 103, 115, 66, 97, 99, 107, 32, 98, 97, 108, 101, 102, 105, 114, 101, 47, 98, 97, 108, 101, 102, 105, 114, 101, 108, 97, 119, 49, 51, 46, 83, 105, 103, 115, 77, 111, 118, 101, 100, 32, 98, 97, 108, 101, 102, 105, 114, 101, 47, 98, 97, 108, 101, 102, 105, 114, 101, 108, 97, 119, 49, 52, 46, 80, 114, 111, 111, 102, 115, 66, 111, 117, 110, 100, 115, 32, 98, 97, 108, 101, 102, 105, 114, 101, 47, 98, 97, 108, 101, 102, 105, 114, 101, 108, 97, 119, 49, 52, 46, 80, 114, 111, 111, 102, 115, 66, 97, 99, 107, 32, 98, 97, 108, 101, 102, 105, 114, 101, 47, 98, 97, 108, 101, 102, 105, 114, 101, 108, 97, 119, 49, 52, 46, 80, 114, 111, 111, 102, 115, 83, 97, 109, 101, 32, 98, 97, 108, 101, 102, 105, 114, 101, 47, 98, 97, 108, 101, 102, 105, 114, 101, 108, 97, 119, 49, 52, 46, 80, 114, 111, 111, 102, 115, 77, 111, 118, 101, 100]
theorem io_eq : Try.prog.initOrder = String.ofList ioL := by kernel_rfl
theorem io_list : Try.prog.initOrder.toList = ioL := by rw [io_eq, String.toList_ofList]
def ioW : List (List Char) := behindMainWord (wordsSigns ioL)
theorem ioW_cons : ioW = "cut".toList :: ioW.tail := by kernel_rfl
theorem io_words : behindMainWord (wordsSigns Try.prog.initOrder.toList) = "cut".toList :: ioW.tail := by
  rw [io_list]; exact ioW_cons
theorem make_of (P : Program) (rest : List (List Char)) (h : behindMainWord (wordsSigns P.initOrder.toList) = "cut".toList :: rest) : P.make = some .cut := by
  unfold Program.make
  rw [h]
  kernel_rfl
theorem lifts_of (P : Program) (rest : List (List Char)) (h : behindMainWord (wordsSigns P.initOrder.toList) = "cut".toList :: rest) : P.liftsFinal = false := by
  unfold Program.liftsFinal Program.headLifts
  rw [h]
  kernel_rfl
theorem may_of (P : Program) (rest : List (List Char)) (h : behindMainWord (wordsSigns P.initOrder.toList) = "cut".toList :: rest) (h1 : P.laysLater = false) (h2 : P.bearsReflect = false) (h3 : P.doorFits [] = true) : P.mayEnter = true := by
  unfold Program.mayEnter
  rw [h, h1, h2]
  have e : stripLifts liftWords ("cut".toList :: rest) = ([], "cut".toList :: rest) := by kernel_rfl
  simp at e
  simp [e, h3]
theorem may_enter : Try.prog.mayEnter = true := may_of Try.prog _ io_words (by kernel_rfl) (by kernel_rfl) (by kernel_rfl)
theorem lifts_final : Try.prog.liftsFinal = false := lifts_of Try.prog _ io_words
theorem make_cut : Try.prog.make = some .cut := make_of Try.prog _ io_words
theorem and_t {a b : Bool} (h1 : a = true) (h2 : b = true) : (a && b) = true := by rw [h1, h2]; rfl
theorem Try.own : ownKnob Try.prog.godebug = none := by kernel_rfl
theorem Try.laidOut : laidOutB Try.prog = true := by kernel_rfl
theorem io_maps : mapsRowed Try.prog = true := by kernel_rfl
theorem io_heard : Try.prog.stopsHeard = true := by kernel_rfl
theorem io_keys : (true == Try.prog.plainKeys) = true := by kernel_rfl
theorem io_stops : (Try.prog.stops == []) = true := by kernel_rfl
theorem io_lift {b : Bool} (h : b = false) : (b == Try.prog.liftsFinal) = true := by rw [lifts_final, h]; rfl
theorem io_make {m : Make} (h : m = .cut) : (Try.prog.make == some m) = true := by rw [make_cut, h]; rfl
end Go.Proofs.Ytacjiajijigebaa
