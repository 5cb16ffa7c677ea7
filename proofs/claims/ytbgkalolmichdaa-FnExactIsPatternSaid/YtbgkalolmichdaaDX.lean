/- Lists from a place on. Conditions: none. -/
import Derived.Test.YtbgkalolmichdaaEX
namespace Go.Proofs.YtbgkalolmichdaaA
theorem drop_next {α : Type} {es rest : List α} {i : Int} {e : α} (h0 : 0 ≤ i) (hd : es.drop i.toNat = e :: rest) : es.drop (i + 1).toNat = rest := by
  have : (i + 1).toNat = i.toNat + 1 := by omega
  rw [this, ← List.drop_drop, hd]; rfl
end Go.Proofs.YtbgkalolmichdaaA
