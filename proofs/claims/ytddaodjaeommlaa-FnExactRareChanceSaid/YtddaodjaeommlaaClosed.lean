/-
  The closed facts of the rows that speak of the program alone, once. The program's head word is taken apart as numbers, so that no long text is decoded in the kernel.
-/
import Derived.Test.YtddaodjaeommlaaRows
import Derived.Test.YtddaodjaeommlaaGen
import Derived.ProofKit
namespace Go.Proofs.Ytddaodjaeommlaa

def hd1 : List Nat := [104, 97, 114, 110, 101, 115, 115]
def hd2 : List Nat := [48, 55, 56, 48, 51, 51, 97, 54, 52, 48, 100, 52, 101, 49, 57, 99, 56, 98, 48, 50, 97, 53, 100, 52, 57, 50, 48, 97, 99, 55, 49, 57, 100, 99, 97, 53, 101, 53, 51, 50, 50, 97, 98, 97, 101, 55, 100, 98, 54, 97, 50, 52, 54, 51, 98, 98, 97, 48, 51, 99, 52, 102, 97, 57]
def hd3 : List Nat := [99, 117, 116]
def hdRest : List Nat := [97, 116, 32, 108, 111, 111, 112, 46, 101, 120, 97, 109, 112, 108, 101, 47, 103, 48, 49, 51, 51, 57, 47, 108, 97, 119, 115, 46, 70, 110, 69, 120, 97, 99, 116, 73, 115, 82, 111, 119, 32, 108, 111, 111, 112, 46, 101, 120, 97, 109, 112, 108, 101, 47, 103, 48, 49, 51, 51, 57, 47, 108, 97, 119, 115, 46, 70, 110, 69, 120, 97, 99, 116, 83, 97, 109, 101, 67, 104, 97, 105, 110, 32, 108, 111, 111, 112, 46, 101, 120, 97, 109, 112, 108, 101, 47, 103, 48, 49, 51, 51, 57, 47, 108, 97, 119, 115, 46, 70, 110, 69, 120, 97, 99, 116, 83, 119, 97, 112, 67, 104, 97, 110, 99, 101, 32, 108, 111, 111, 112, 46, 101, 120, 97, 109, 112, 108, 101, 47, 103, 48, 49, 51, 51, 57, 47, 108, 97, 119, 115, 46, 70, 110, 69, 120, 97, 99, 116, 86, 97, 108, 105, 100, 67, 104, 97, 105, 110, 32, 108, 111, 111, 112, 46, 101, 120, 97, 109, 112, 108, 101, 47, 103, 48, 49, 51, 51, 57, 47, 108, 97, 119, 115, 46, 70, 110, 69, 120, 97, 99, 116, 82, 105, 110, 103, 67, 104, 97, 105, 110, 32, 108, 111, 111, 112, 46, 101, 120, 97, 109, 112, 108, 101, 47, 103, 48, 49, 51, 51, 57, 47, 108, 97, 119, 115, 46, 70, 110, 69, 120, 97, 99, 116, 66, 97, 108, 97, 110, 99, 101, 77, 105, 115, 115, 32, 108, 111, 111, 112, 46, 101, 120, 97, 109, 112, 108, 101, 47, 103, 48, 49, 51, 51, 57, 47, 108, 97, 119, 115, 46, 70, 110, 69, 120, 97, 99, 116, 76, 97, 122, 121, 67, 104, 97, 105, 110, 32, 108, 111, 111, 112, 46, 101, 120, 97, 109, 112, 108, 101, 47, 103, 48, 49, 51, 51, 57, 47, 108, 97, 119, 115, 46, 70, 110, 69, 120, 97, 99, 116, 74, 111, 105, 110, 67, 104, 97, 105, 110, 115, 32, 108, 111, 111, 112, 46, 101, 120, 97, 109, 112, 108, 101, 47, 103, 48, 49, 51, 51, 57, 47, 108, 97, 119, 115, 46, 70, 110, 69, 120, 97, 99, 116, 83, 116, 101, 112, 82, 111, 119, 32, 108, 111, 111, 112, 46, 101, 120, 97, 109, 112, 108, 101, 47, 103, 48, 49, 51, 51, 57, 47, 108, 97, 119, 115, 46, 70, 110, 69, 120, 97, 99, 116, 66, 97, 99, 107, 67, 104, 97, 105, 110, 32, 108, 111, 111, 112, 46, 101, 120, 97, 109, 112, 108, 101, 47, 103, 48, 49, 51, 51, 57, 47, 108, 97, 119, 115, 46, 70, 110, 69, 120, 97, 99, 116, 82, 117, 110, 82, 111, 119, 32, 108, 111, 111, 112, 46, 101, 120, 97, 109, 112, 108, 101, 47, 103, 48, 49, 51, 51, 57, 47, 108, 97, 119, 115, 46, 70, 110, 69, 120, 97, 99, 116, 71, 114, 111, 117, 112, 115, 79, 102, 67, 104, 97, 105, 110, 32, 108, 111, 111, 112, 46, 101, 120, 97, 109, 112, 108, 101, 47, 103, 48, 49, 51, 51, 57, 47, 108, 97, 119, 115, 46, 70, 110, 69, 120, 97, 99, 116, 87, 101, 105, 103, 104, 67, 104, 97, 105, 110, 32, 108, 111, 111, 112, 46, 101, 120, 97, 109, 112, 108, 101, 47, 103, 48, 49, 51, 51, 57, 47, 108, 97, 119, 115, 46, 70, 110, 69, 120, 97, 99, 116, 82, 101, 115, 116, 79, 102, 32, 108, 111, 111, 112, 46, 101, 120, 97, 109, 112, 108, 101, 47, 103, 48, 49, 51, 51, 57, 47, 108, 97, 119, 115, 46, 70, 110, 69, 120, 97, 99, 116, 87, 97, 108, 107, 67, 104, 97, 105, 110, 32, 108, 111, 111, 112, 46, 101, 120, 97, 109, 112, 108, 101, 47, 103, 48, 49, 51, 51, 57, 47, 108, 97, 119, 115, 46, 70, 110, 69, 120, 97, 99, 116, 77, 101, 101, 116, 87, 97, 108, 107, 115, 32, 108, 111, 111, 112, 46, 101, 120, 97, 109, 112, 108, 101, 47, 103, 48, 49, 51, 51, 57, 47, 108, 97, 119, 115, 46, 70, 110, 69, 120, 97, 99, 116, 80, 97, 115, 116, 68, 114, 97, 119, 32, 108, 111, 111, 112, 46, 101, 120, 97, 109, 112, 108, 101, 47, 103, 48, 49, 51, 51, 57, 47, 108, 97, 119, 115, 46, 70, 110, 69, 120, 97, 99, 116, 84, 105, 109, 101, 115, 84, 111, 32, 108, 111, 111, 112, 46, 101, 120, 97, 109, 112, 108, 101, 47, 103, 48, 49, 51, 51, 57, 47, 108, 97, 119, 115, 46, 70, 110, 69, 120, 97, 99, 116, 67, 104, 97, 110, 99, 101, 115, 84, 111, 32, 108, 111, 111, 112, 46, 101, 120, 97, 109, 112, 108, 101, 47, 103, 48, 49, 51, 51, 57, 47, 108, 97, 119, 115, 46, 70, 110, 69, 120, 97, 99, 116, 82, 97, 114, 101, 67, 104, 97, 110, 99, 101]
theorem cl_head : Try.prog.initOrder = String.ofList (hd1.map Char.ofNat ++ sp :: (hd2.map Char.ofNat ++ sp :: (hd3.map Char.ofNat ++ sp :: hdRest.map Char.ofNat))) := by kernel_rfl
theorem cl_words : ∃ W, wordsSigns Try.prog.initOrder.toList = hd1.map Char.ofNat :: hd2.map Char.ofNat :: hd3.map Char.ofNat :: W := by
  rw [cl_head, String.toList_ofList, words_append, words_append, words_append]
  have e1 : wordsSigns (hd1.map Char.ofNat) = [hd1.map Char.ofNat] := by kernel_rfl
  have e2 : wordsSigns (hd2.map Char.ofNat) = [hd2.map Char.ofNat] := by kernel_rfl
  have e3 : wordsSigns (hd3.map Char.ofNat) = [hd3.map Char.ofNat] := by kernel_rfl
  rw [e1, e2, e3]
  exact ⟨_, rfl⟩
theorem cl_behind (W : List (List Char)) : behindMainWord (hd1.map Char.ofNat :: hd2.map Char.ofNat :: hd3.map Char.ofNat :: W) = hd3.map Char.ofNat :: W := by kernel_rfl
theorem cl_strip (W : List (List Char)) : stripLifts liftWords (hd3.map Char.ofNat :: W) = ([], hd3.map Char.ofNat :: W) := by kernel_rfl
theorem cl_gc : (hd3.map Char.ofNat == "gc".toList) = false := by kernel_rfl
theorem cl_spec : (hd3.map Char.ofNat == "spec".toList) = false := by kernel_rfl
theorem cl_carried : (some (hd3.map Char.ofNat) == some "carried".toList) = false := by kernel_rfl
theorem cl_isCut : (hd3.map Char.ofNat == "cut".toList) = true := by kernel_rfl
theorem cl_isCut2 : (some (hd3.map Char.ofNat) == some "cut".toList) = true := by kernel_rfl
theorem cl_later : Try.prog.laysLater = false := by kernel_rfl
theorem cl_reflect : Try.prog.bearsReflect = false := by kernel_rfl
theorem cl_door : Try.prog.doorFits [] = true := by kernel_rfl
theorem cl_head2 : ∃ W, behindMainWord (wordsSigns Try.prog.initOrder.toList) = hd3.map Char.ofNat :: W := by
  obtain ⟨W, hW⟩ := cl_words
  exact ⟨W, by rw [hW, cl_behind]⟩
theorem cl_enter : Try.prog.mayEnter = true := by
  obtain ⟨W, hW⟩ := cl_head2
  exact gen_enter hW (cl_strip W) cl_isCut2 cl_later cl_reflect cl_door
theorem cl_lifts : Try.prog.liftsFinal = false := by
  obtain ⟨W, hW⟩ := cl_head2
  exact gen_lifts hW (cl_strip W) cl_carried
theorem cl_make : Try.prog.make = some .cut := by
  obtain ⟨W, hW⟩ := cl_head2
  exact gen_make hW cl_gc cl_spec cl_isCut
theorem cl_laid : laidOutB Try.prog = true := by kernel_rfl
theorem cl_maps : mapsRowed Try.prog = true := by kernel_rfl
theorem cl_stops : Try.prog.stops = [] := by kernel_rfl
theorem cl_knobs : Try.prog.stopKnobs = [] := by kernel_rfl
theorem cl_heard : Try.prog.stopsHeard = true := by kernel_rfl
theorem cl_keys : Try.prog.plainKeys = Rows.fnExactIsRowRow.plainKeys := by kernel_rfl

end Go.Proofs.Ytddaodjaeommlaa
