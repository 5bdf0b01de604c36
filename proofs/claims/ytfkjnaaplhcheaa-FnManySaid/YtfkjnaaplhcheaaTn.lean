/-
  Plain merging: as the sort of indices has it.
-/
import Derived.Test.YtfkjnaaplhcheaaSn
import Derived.Test.YtfkjnaaplhcheaaTi

