/- No function of the library is told by its contract. Conditions: none. -/
import Derived.Test.YtbgkalolmichdaaEX
import Derived.Test.YtbgkalolmichdaaProg
namespace Go.Proofs.YtbgkalolmichdaaA
open Go Go.Proofs
def primL : List (FuncId × (List XV → Option Res)) := []
theorem prim_sound : ∀ p ∈ primL, Enters Try.prog p.1 ∧ Sound Try.prog p.1 p.2 := fun p h => (by cases h)
end Go.Proofs.YtbgkalolmichdaaA
