/- The program's UnescapeText and the reference's give the same: the statement's row. Conditions: none beyond those of the statement itself. -/
import Derived.Test.YtbgkalolmichdaaRows
import Derived.Test.YtbgkalolmichdaaUS
import Derived.WalkKit
import Derived.ProofKit
import Derived.SizedLaws
namespace Go.Proofs.Ytbgkalolmichdaa.fnExactUnescapeText
open Go.ChangeShapes Go.WideShapes Go.ChangeAt Go.RowKit Go.Proofs.YtbgkalolmichdaaA
set_option linter.unusedVariables false
theorem own : ownKnob Try.prog.godebug = none := by kernel_rfl
set_option maxRecDepth 100000 in
theorem lifted (os : Os) (started : os.Started) (H : Type) (enc : TypeId × Value → H) :
    ReturnsInHanded {} Try.checked os 3 .any (Rows.fnExactUnescapeTextSpec.pre6 enc Try.prog Try.f3 Rows.fnExactUnescapeTextRow.domain false) (Rows.fnExactUnescapeTextSpec.post enc Try.prog Try.f3 false true false false) := by
  refine returnsInHanded_of_change_sized (C := Try.checked) own started (by kernel_rfl) Try.func3
    (ChangeSpec.witness6 (enc := enc) (C := Try.checked) false ⟨#[], #[.string ByteArray.empty], []⟩ 8 (by kernel_rfl) (by kernel_rfl) (by kernel_rfl) (by kernel_rfl)) ?_
  intro W base args ds gs before hval hW _ _ _
  refine law_calls (P := Try.prog) (prim := noPrim) (code := code) (f := 3) (fn := Try.f3) (s := Rows.fnExactUnescapeTextSpec) (S := [9]) (tb := 4) told okS ?_ rfl (by kernel_rfl) (by kernel_rfl) ?_ ?_ W base args ds gs before hval hW
  · rw [Try.params3]; decide
  · intro ds hds
    rw [show Try.f3.params.size = 1 from by kernel_rfl] at hds
    match ds, hds with
    | [d0], _ => rfl
  · intro n xs h
    rw [Try.params3] at h
    obtain ⟨x0, xs0, rfl, ⟨ps0, h0, rfl⟩, rfl⟩ := h
    cases n with
    | zero => exact h0.elim
    | succ n =>
      rw [TyC, Try.underlying9] at h0
      obtain ⟨s, rfl, hs⟩ := h0
      exact Ev_some.1 (run_FnExactUnescapeText s (by rw [maxLen_eq] at hs; exact hs))
where
  okS : ∀ t ∈ [9], okT Try.prog [9] t = true := by decide +kernel
theorem over : Rows.fnExactUnescapeTextRow.holds Try.pinned (OpenSpec.ofChange Rows.fnExactUnescapeTextSpec) :=
  OpenClaim.holds_of_wide 3 Try.f3 rfl rfl rfl rfl rfl rfl rfl ⟨rfl, rfl, rfl, rfl, rfl⟩ rfl rfl rfl rfl rfl (by kernel_rfl) Try.func3 (by kernel_rfl)
    (of_decide_eq_true (by kernel_rfl)) (by unfold Func.isWrapper; first | (rw [if_pos (by decide +kernel)]; kernel_rfl) | (rw [if_neg (by decide +kernel)]; exact ⟨rfl, rfl⟩))
    (fun os started H enc _ => lifted os started H enc)
end Go.Proofs.Ytbgkalolmichdaa.fnExactUnescapeText
namespace Go.Proofs.Ytbgkalolmichdaa
theorem fnExactUnescapeText_holds : Rows.FnExactUnescapeTextSaid := fnExactUnescapeText.over
#print axioms fnExactUnescapeText_holds
end Go.Proofs.Ytbgkalolmichdaa
