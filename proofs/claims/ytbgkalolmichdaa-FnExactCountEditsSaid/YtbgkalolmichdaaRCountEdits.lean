/- The program's CountEdits and the reference's give the same: the statement's row. Conditions: none beyond those of the statement itself. -/
import Derived.Test.YtbgkalolmichdaaRows
import Derived.Test.YtbgkalolmichdaaDD
import Derived.WalkKit
import Derived.ProofKit
import Derived.SizedLaws
namespace Go.Proofs.Ytbgkalolmichdaa.fnExactCountEdits
open Go.ChangeShapes Go.WideShapes Go.ChangeAt Go.RowKit Go.Proofs.YtbgkalolmichdaaA
set_option linter.unusedVariables false
theorem own : ownKnob Try.prog.godebug = none := by kernel_rfl
set_option maxRecDepth 100000 in
theorem lifted (os : Os) (started : os.Started) (H : Type) (enc : TypeId × Value → H) :
    ReturnsInHanded {} Try.checked os 4 .any (Rows.fnExactCountEditsSpec.pre6 enc Try.prog Try.f4 Rows.fnExactCountEditsRow.domain false) (Rows.fnExactCountEditsSpec.post enc Try.prog Try.f4 false true false false) := by
  refine returnsInHanded_of_change_sized (C := Try.checked) own started (by kernel_rfl) Try.func4
    (ChangeSpec.witness6 (enc := enc) (C := Try.checked) false ⟨#[], #[.slice none 0 0], []⟩ 8 (by kernel_rfl) (by kernel_rfl) (by kernel_rfl) (by kernel_rfl)) ?_
  intro W base args ds gs before hval hW _ _ _
  refine law_calls (P := Try.prog) (prim := noPrim) (code := code) (f := 4) (fn := Try.f4) (s := Rows.fnExactCountEditsSpec) (S := [9, 3, 57, 25]) (tb := 4) told okS ?_ rfl (by kernel_rfl) (by kernel_rfl) ?_ ?_ W base args ds gs before hval hW
  · rw [Try.params4]; decide
  · intro ds hds
    rw [show Try.f4.params.size = 1 from by kernel_rfl] at hds
    match ds, hds with
    | [d0], _ => rfl
  · intro n xs h
    rw [Try.params4] at h
    obtain ⟨x0, xs0, rfl, ⟨ps0, h0, rfl⟩, rfl⟩ := h
    obtain ⟨es, rfl, hl, hok⟩ := open_Es h0
    exact Ev_some.1 (run_FnExactCountEdits es (by rw [maxLen_eq] at hl; exact hl) hok)
where
  okS : ∀ t ∈ [9, 3, 57, 25], okT Try.prog [9, 3, 57, 25] t = true := by decide +kernel
theorem over : Rows.fnExactCountEditsRow.holds Try.pinned (OpenSpec.ofChange Rows.fnExactCountEditsSpec) :=
  OpenClaim.holds_of_wide 4 Try.f4 rfl rfl rfl rfl rfl rfl rfl ⟨rfl, rfl, rfl, rfl, rfl⟩ rfl rfl rfl rfl rfl (by kernel_rfl) Try.func4 (by kernel_rfl)
    (of_decide_eq_true (by kernel_rfl)) (by unfold Func.isWrapper; first | (rw [if_pos (by decide +kernel)]; kernel_rfl) | (rw [if_neg (by decide +kernel)]; exact ⟨rfl, rfl⟩))
    (fun os started H enc _ => lifted os started H enc)
end Go.Proofs.Ytbgkalolmichdaa.fnExactCountEdits
namespace Go.Proofs.Ytbgkalolmichdaa
theorem fnExactCountEdits_holds : Rows.FnExactCountEditsSaid := fnExactCountEdits.over
#print axioms fnExactCountEdits_holds
end Go.Proofs.Ytbgkalolmichdaa
