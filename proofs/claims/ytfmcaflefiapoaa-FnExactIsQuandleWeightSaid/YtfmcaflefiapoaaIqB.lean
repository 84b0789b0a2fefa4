/-
  IsQuandleWeight on both sides.
  No condition.
-/
import Derived.Test.YtfmcaflefiapoaaRkSolI
import Derived.Test.YtfmcaflefiapoaaRkSolS
namespace Go.Proofs.Ytfmcaflefiapoaa
end Go.Proofs.Ytfmcaflefiapoaa
