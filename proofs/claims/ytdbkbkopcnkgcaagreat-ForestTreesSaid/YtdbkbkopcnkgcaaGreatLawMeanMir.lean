import Derived.Test.YtdbkbkopcnkgcaaGreatMeanCount
import Derived.Test.YtdbkbkopcnkgcaaGreatNodeMir
open Go Go.RowKit
namespace Go.Proofs.YtdbkbkopcnkgcaaGreat

/-! ### the law MeanMirrored, over the fact means() -/
end Go.Proofs.YtdbkbkopcnkgcaaGreat
