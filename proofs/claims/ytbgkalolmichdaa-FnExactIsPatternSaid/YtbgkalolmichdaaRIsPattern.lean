/- The program's IsPattern and the reference's give the same: the statement's row. Conditions: none beyond those of the statement itself. -/
import Derived.Test.YtbgkalolmichdaaRows
import Derived.Test.YtbgkalolmichdaaPL
import Derived.Test.YtbgkalolmichdaaDB0
import Derived.WalkKit
import Derived.ProofKit
import Derived.SizedLaws
namespace Go.Proofs.Ytbgkalolmichdaa.fnExactIsPattern
open Go.ChangeShapes Go.WideShapes Go.ChangeAt Go.RowKit Go.Proofs.YtbgkalolmichdaaA
set_option linter.unusedVariables false
theorem own : ownKnob Try.prog.godebug = none := by kernel_rfl
set_option maxRecDepth 100000 in
theorem lifted (os : Os) (started : os.Started) (H : Type) (enc : TypeId × Value → H) :
    ReturnsInHanded {} Try.checked os 7 .any (Rows.fnExactIsPatternSpec.pre6 enc Try.prog Try.f7 Rows.fnExactIsPatternRow.domain false) (Rows.fnExactIsPatternSpec.post enc Try.prog Try.f7 false true false false) := by
  refine returnsInHanded_of_change_sized (C := Try.checked) own started (by kernel_rfl) Try.func7
    (ChangeSpec.witness6 (enc := enc) (C := Try.checked) false ⟨#[], #[.string ByteArray.empty], []⟩ 8 (by kernel_rfl) (by kernel_rfl) (by kernel_rfl) (by kernel_rfl)) ?_
  intro W base args ds gs before hval hW _ _ _
  refine law_calls (P := Try.prog) (prim := prim) (code := code) (f := 7) (fn := Try.f7) (s := Rows.fnExactIsPatternSpec) (S := [9]) (tb := 4) told okS ?_ rfl (by kernel_rfl) (by kernel_rfl) ?_ ?_ W base args ds gs before hval hW
  · rw [Try.params7]; decide
  · intro ds hds
    rw [show Try.f7.params.size = 1 from by kernel_rfl] at hds
    match ds, hds with
    | [d0], _ => rfl
  · intro n xs h
    rw [Try.params7] at h
    obtain ⟨x0, xs0, rfl, ⟨ps0, h0, rfl⟩, rfl⟩ := h
    cases n with
    | zero => exact h0.elim
    | succ n =>
      rw [TyC, Try.underlying9] at h0
      obtain ⟨s, rfl, hs⟩ := h0
      exact Ev_some.1 (run_FnExactIsPattern s (by rw [maxLen_eq] at hs; exact hs))
where
  okS : ∀ t ∈ [9], okT Try.prog [9] t = true := by decide +kernel
theorem over : Rows.fnExactIsPatternRow.holds Try.pinned (OpenSpec.ofChange Rows.fnExactIsPatternSpec) :=
  OpenClaim.holds_of_wide 7 Try.f7 rfl rfl rfl rfl rfl rfl rfl ⟨rfl, rfl, rfl, rfl, rfl⟩ rfl rfl rfl rfl rfl (by kernel_rfl) Try.func7 (by kernel_rfl)
    (of_decide_eq_true (by kernel_rfl)) (by unfold Func.isWrapper; first | (rw [if_pos (by decide +kernel)]; kernel_rfl) | (rw [if_neg (by decide +kernel)]; exact ⟨rfl, rfl⟩))
    (fun os started H enc _ => lifted os started H enc)
end Go.Proofs.Ytbgkalolmichdaa.fnExactIsPattern
namespace Go.Proofs.Ytbgkalolmichdaa
theorem fnExactIsPattern_holds : Rows.FnExactIsPatternSaid := fnExactIsPattern.over
#print axioms fnExactIsPattern_holds
end Go.Proofs.Ytbgkalolmichdaa
