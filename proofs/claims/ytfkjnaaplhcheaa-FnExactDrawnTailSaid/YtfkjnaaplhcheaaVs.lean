/-
  Whether a number lies between two: as XVal tells it.
-/
import Derived.Test.YtfkjnaaplhcheaaVal
