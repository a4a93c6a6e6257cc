/-
  (nothing: no gotos in company)
-/
import Derived.Test.YtojhnclkhiffkaaK9
namespace Go.Proofs.Ytojhnclkhiffkaa
end Go.Proofs.Ytojhnclkhiffkaa
