/-
  The closed facts of the rows that speak of the program alone, once. The program's head word is taken apart as numbers, so that no long text is decoded in the kernel.
-/
import Derived.Test.YtlhepgdheopgaaaRows
import Derived.Test.YtlhepgdheopgaaaGen
import Derived.ProofKit
namespace Go.Proofs.Ytlhepgdheopgaaa

def hd1 : List Nat := [104, 97, 114, 110, 101, 115, 115]
def hd2 : List Nat := [102, 51, 97, 51, 99, 98, 54, 52, 100, 102, 57, 50, 56, 54, 51, 98, 52, 49, 56, 55, 57, 97, 100, 48, 49, 99, 50, 99, 53, 102, 56, 52, 55, 49, 53, 50, 97, 99, 100, 48, 99, 97, 51, 48, 98, 49, 98, 99, 101, 48, 51, 100, 56, 56, 54, 51, 50, 55, 53, 57, 102, 56, 49, 56]
def hd3 : List Nat := [99, 117, 116]
def hdRest : List Nat := [97, 116, 32, 108, 111, 111, 112, 46, 101, 120, 97, 109, 112, 108, 101, 47, 103, 48, 49, 51, 51, 57, 47, 108, 97, 119, 115, 46, 70, 110, 66, 97, 108, 97, 110, 99, 101, 115, 32, 108, 111, 111, 112, 46, 101, 120, 97, 109, 112, 108, 101, 47, 103, 48, 49, 51, 51, 57, 47, 108, 97, 119, 115, 46, 70, 110, 67, 104, 97, 105, 110, 82, 111, 119, 115, 32, 108, 111, 111, 112, 46, 101, 120, 97, 109, 112, 108, 101, 47, 103, 48, 49, 51, 51, 57, 47, 108, 97, 119, 115, 46, 70, 110, 84, 105, 109, 101, 115, 84, 111]
theorem cl_head : Try.prog.initOrder = String.ofList (hd1.map Char.ofNat ++ sp :: (hd2.map Char.ofNat ++ sp :: (hd3.map Char.ofNat ++ sp :: hdRest.map Char.ofNat))) := by kernel_rfl
theorem cl_words : ∃ W, wordsSigns Try.prog.initOrder.toList = hd1.map Char.ofNat :: hd2.map Char.ofNat :: hd3.map Char.ofNat :: W := by
  rw [cl_head, String.toList_ofList, words_append, words_append, words_append]
  have e1 : wordsSigns (hd1.map Char.ofNat) = [hd1.map Char.ofNat] := by kernel_rfl
  have e2 : wordsSigns (hd2.map Char.ofNat) = [hd2.map Char.ofNat] := by kernel_rfl
  have e3 : wordsSigns (hd3.map Char.ofNat) = [hd3.map Char.ofNat] := by kernel_rfl
  rw [e1, e2, e3]
  exact ⟨_, rfl⟩
theorem cl_behind (W : List (List Char)) : behindMainWord (hd1.map Char.ofNat :: hd2.map Char.ofNat :: hd3.map Char.ofNat :: W) = hd3.map Char.ofNat :: W := by kernel_rfl
theorem cl_strip (W : List (List Char)) : stripLifts liftWords (hd3.map Char.ofNat :: W) = ([], hd3.map Char.ofNat :: W) := by kernel_rfl
theorem cl_gc : (hd3.map Char.ofNat == "gc".toList) = false := by kernel_rfl
theorem cl_spec : (hd3.map Char.ofNat == "spec".toList) = false := by kernel_rfl
theorem cl_carried : (some (hd3.map Char.ofNat) == some "carried".toList) = false := by kernel_rfl
theorem cl_isCut : (hd3.map Char.ofNat == "cut".toList) = true := by kernel_rfl
theorem cl_isCut2 : (some (hd3.map Char.ofNat) == some "cut".toList) = true := by kernel_rfl
theorem cl_later : Try.prog.laysLater = false := by kernel_rfl
theorem cl_reflect : Try.prog.bearsReflect = false := by kernel_rfl
theorem cl_door : Try.prog.doorFits [] = true := by kernel_rfl
theorem cl_head2 : ∃ W, behindMainWord (wordsSigns Try.prog.initOrder.toList) = hd3.map Char.ofNat :: W := by
  obtain ⟨W, hW⟩ := cl_words
  exact ⟨W, by rw [hW, cl_behind]⟩
theorem cl_enter : Try.prog.mayEnter = true := by
  obtain ⟨W, hW⟩ := cl_head2
  exact gen_enter hW (cl_strip W) cl_isCut2 cl_later cl_reflect cl_door
theorem cl_lifts : Try.prog.liftsFinal = false := by
  obtain ⟨W, hW⟩ := cl_head2
  exact gen_lifts hW (cl_strip W) cl_carried
theorem cl_make : Try.prog.make = some .cut := by
  obtain ⟨W, hW⟩ := cl_head2
  exact gen_make hW cl_gc cl_spec cl_isCut
theorem cl_laid : laidOutB Try.prog = true := by kernel_rfl
theorem cl_maps : mapsRowed Try.prog = true := by kernel_rfl
theorem cl_stops : Try.prog.stops = [] := by kernel_rfl
theorem cl_knobs : Try.prog.stopKnobs = [] := by kernel_rfl
theorem cl_heard : Try.prog.stopsHeard = true := by kernel_rfl
theorem cl_keys : Try.prog.plainKeys = Rows.fnBalancesRow.plainKeys := by kernel_rfl

end Go.Proofs.Ytlhepgdheopgaaa
