/- The program's FormatBraces and the reference's give the same: the statement's row. Conditions: none beyond those of the statement itself. -/
import Derived.Test.YtbgkalolmichdaaRows
import Derived.Test.YtbgkalolmichdaaFB
import Derived.WalkKit
import Derived.ProofKit
import Derived.SizedLaws
namespace Go.Proofs.Ytbgkalolmichdaa.fnExactFormatBraces
open Go.ChangeShapes Go.WideShapes Go.ChangeAt Go.RowKit Go.Proofs.YtbgkalolmichdaaA
set_option linter.unusedVariables false
theorem own : ownKnob Try.prog.godebug = none := by kernel_rfl
set_option maxRecDepth 100000 in
theorem lifted (os : Os) (started : os.Started) (H : Type) (enc : TypeId × Value → H) :
    ReturnsInHanded {} Try.checked os 9 .any (Rows.fnExactFormatBracesSpec.pre6 enc Try.prog Try.f9 Rows.fnExactFormatBracesRow.domain false) (Rows.fnExactFormatBracesSpec.post enc Try.prog Try.f9 false true false false) := by
  refine returnsInHanded_of_change_sized (C := Try.checked) own started (by kernel_rfl) Try.func9
    (ChangeSpec.witness6 (enc := enc) (C := Try.checked) false ⟨#[], #[.slice none 0 0], []⟩ 8 (by kernel_rfl) (by kernel_rfl) (by kernel_rfl) (by kernel_rfl)) ?_
  intro W base args ds gs before hval hW _ _ _
  refine law_calls (P := Try.prog) (prim := prim) (code := code) (f := 9) (fn := Try.f9) (s := Rows.fnExactFormatBracesSpec) (S := [9, 64, 33]) (tb := 4) told okS ?_ rfl (by kernel_rfl) (by kernel_rfl) ?_ ?_ W base args ds gs before hval hW
  · rw [Try.params9]; decide
  · intro ds hds
    rw [show Try.f9.params.size = 1 from by kernel_rfl] at hds
    match ds, hds with
    | [d0], _ => rfl
  · intro n xs h
    rw [Try.params9] at h
    obtain ⟨x0, xs0, rfl, ⟨ps0, h0, rfl⟩, rfl⟩ := h
    obtain ⟨es, rfl, hl, hok⟩ := open_Nds h0
    exact Ev_some.1 (run_FnExactFormatBraces es (by rw [maxLen_eq] at hl; exact hl) hok)
where
  okS : ∀ t ∈ [9, 64, 33], okT Try.prog [9, 64, 33] t = true := by decide +kernel
theorem over : Rows.fnExactFormatBracesRow.holds Try.pinned (OpenSpec.ofChange Rows.fnExactFormatBracesSpec) :=
  OpenClaim.holds_of_wide 9 Try.f9 rfl rfl rfl rfl rfl rfl rfl ⟨rfl, rfl, rfl, rfl, rfl⟩ rfl rfl rfl rfl rfl (by kernel_rfl) Try.func9 (by kernel_rfl)
    (of_decide_eq_true (by kernel_rfl)) (by unfold Func.isWrapper; first | (rw [if_pos (by decide +kernel)]; kernel_rfl) | (rw [if_neg (by decide +kernel)]; exact ⟨rfl, rfl⟩))
    (fun os started H enc _ => lifted os started H enc)
end Go.Proofs.Ytbgkalolmichdaa.fnExactFormatBraces
namespace Go.Proofs.Ytbgkalolmichdaa
theorem fnExactFormatBraces_holds : Rows.FnExactFormatBracesSaid := fnExactFormatBraces.over
#print axioms fnExactFormatBraces_holds
end Go.Proofs.Ytbgkalolmichdaa
