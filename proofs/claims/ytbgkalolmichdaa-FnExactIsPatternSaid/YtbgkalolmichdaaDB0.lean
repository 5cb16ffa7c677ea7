/- The longest that Go lets anything be. Conditions: none. -/
import Derived.Test.YtbgkalolmichdaaCC
namespace Go.Proofs.YtbgkalolmichdaaA
open Go
theorem maxLen_eq : maxLen = 9223372036854775807 := rfl
end Go.Proofs.YtbgkalolmichdaaA
