/-
  The closed facts of the rows that speak of the program alone, once. The program's head word is taken apart as numbers, so that no long text is decoded in the kernel.
-/
import Derived.Test.YtfkjnaaplhcheaaRows
import Derived.Test.YtfkjnaaplhcheaaQr
import Derived.ProofKit
namespace Go.Proofs.Ytfkjnaaplhcheaa

def hd1 : List Nat := [104, 97, 114, 110, 101, 115, 115]
def hd2 : List Nat := [49, 102, 54, 49, 55, 54, 48, 50, 101, 49, 54, 56, 98, 52, 56, 49, 51, 100, 55, 99, 51, 51, 100, 99, 57, 101, 48, 56, 48, 102, 56, 54, 100, 99, 102, 56, 50, 102, 101, 48, 54, 48, 99, 52, 49, 51, 57, 99, 102, 51, 101, 101, 57, 102, 97, 51, 101, 55, 102, 101, 52, 101, 57, 49]
def hd3 : List Nat := [99, 117, 116]
def hdRest : List Nat := [97, 116, 32, 108, 111, 111, 112, 46, 101, 120, 97, 109, 112, 108, 101, 47, 103, 48, 49, 51, 51, 57, 47, 108, 97, 119, 115, 46, 70, 110, 84, 97, 105, 108, 115, 32, 108, 111, 111, 112, 46, 101, 120, 97, 109, 112, 108, 101, 47, 103, 48, 49, 51, 51, 57, 47, 108, 97, 119, 115, 46, 70, 110, 77, 97, 110, 121, 32, 108, 111, 111, 112, 46, 101, 120, 97, 109, 112, 108, 101, 47, 103, 48, 49, 51, 51, 57, 47, 108, 97, 119, 115, 46, 70, 110, 69, 120, 97, 99, 116, 68, 114, 97, 119, 110, 84, 97, 105, 108, 32, 108, 111, 111, 112, 46, 101, 120, 97, 109, 112, 108, 101, 47, 103, 48, 49, 51, 51, 57, 47, 108, 97, 119, 115, 46, 70, 110, 69, 120, 97, 99, 116, 68, 114, 97, 119, 110, 77, 101, 97, 110, 115]
theorem cl_head : Try.prog.initOrder = String.ofList (hd1.map Char.ofNat ++ sp :: (hd2.map Char.ofNat ++ sp :: (hd3.map Char.ofNat ++ sp :: hdRest.map Char.ofNat))) := by kernel_rfl
theorem cl_words : ∃ W, wordsSigns Try.prog.initOrder.toList = hd1.map Char.ofNat :: hd2.map Char.ofNat :: hd3.map Char.ofNat :: W := by
  rw [cl_head, String.toList_ofList, words_append, words_append, words_append]
  have e1 : wordsSigns (hd1.map Char.ofNat) = [hd1.map Char.ofNat] := by kernel_rfl
  have e2 : wordsSigns (hd2.map Char.ofNat) = [hd2.map Char.ofNat] := by kernel_rfl
  have e3 : wordsSigns (hd3.map Char.ofNat) = [hd3.map Char.ofNat] := by kernel_rfl
  rw [e1, e2, e3]
  exact ⟨_, rfl⟩
theorem cl_behind (W : List (List Char)) : behindMainWord (hd1.map Char.ofNat :: hd2.map Char.ofNat :: hd3.map Char.ofNat :: W) = hd3.map Char.ofNat :: W := by kernel_rfl
theorem cl_strip (W : List (List Char)) : stripLifts liftWords (hd3.map Char.ofNat :: W) = ([], hd3.map Char.ofNat :: W) := by kernel_rfl
theorem cl_gc : (hd3.map Char.ofNat == "gc".toList) = false := by kernel_rfl
theorem cl_spec : (hd3.map Char.ofNat == "spec".toList) = false := by kernel_rfl
theorem cl_carried : (some (hd3.map Char.ofNat) == some "carried".toList) = false := by kernel_rfl
theorem cl_isCut : (hd3.map Char.ofNat == "cut".toList) = true := by kernel_rfl
theorem cl_isCut2 : (some (hd3.map Char.ofNat) == some "cut".toList) = true := by kernel_rfl
theorem cl_later : Try.prog.laysLater = false := by kernel_rfl
theorem cl_reflect : Try.prog.bearsReflect = false := by kernel_rfl
theorem cl_door : Try.prog.doorFits [] = true := by kernel_rfl
theorem cl_head2 : ∃ W, behindMainWord (wordsSigns Try.prog.initOrder.toList) = hd3.map Char.ofNat :: W := by
  obtain ⟨W, hW⟩ := cl_words
  exact ⟨W, by rw [hW, cl_behind]⟩
theorem cl_enter : Try.prog.mayEnter = true := by
  obtain ⟨W, hW⟩ := cl_head2
  exact gen_enter hW (cl_strip W) cl_isCut2 cl_later cl_reflect cl_door
theorem cl_lifts : Try.prog.liftsFinal = false := by
  obtain ⟨W, hW⟩ := cl_head2
  exact gen_lifts hW (cl_strip W) cl_carried
theorem cl_make : Try.prog.make = some .cut := by
  obtain ⟨W, hW⟩ := cl_head2
  exact gen_make hW cl_gc cl_spec cl_isCut
theorem cl_laid : laidOutB Try.prog = true := by kernel_rfl
theorem cl_maps : mapsRowed Try.prog = true := by kernel_rfl
theorem cl_stops : Try.prog.stops = [] := by kernel_rfl
theorem cl_knobs : Try.prog.stopKnobs = [] := by kernel_rfl
theorem cl_heard : Try.prog.stopsHeard = true := by kernel_rfl
theorem cl_keys : Try.prog.plainKeys = Rows.fnExactDrawnTailRow.plainKeys := by kernel_rfl

end Go.Proofs.Ytfkjnaaplhcheaa
