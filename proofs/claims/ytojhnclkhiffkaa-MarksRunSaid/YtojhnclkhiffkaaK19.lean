/-
  (Ranges over functions are not walked in company.)
-/
import Derived.Test.YtojhnclkhiffkaaK18
