/- The program's IsForm and the reference's give the same: the statement's row. Conditions: none beyond those of the statement itself. -/
import Derived.Test.YtbgkalolmichdaaRows
import Derived.Test.YtbgkalolmichdaaNF
import Derived.WalkKit
import Derived.ProofKit
import Derived.SizedLaws
namespace Go.Proofs.Ytbgkalolmichdaa.fnExactIsForm
open Go.ChangeShapes Go.WideShapes Go.ChangeAt Go.RowKit Go.Proofs.YtbgkalolmichdaaA
set_option linter.unusedVariables false
theorem own : ownKnob Try.prog.godebug = none := by kernel_rfl
set_option maxRecDepth 100000 in
theorem lifted (os : Os) (started : os.Started) (H : Type) (enc : TypeId × Value → H) :
    ReturnsInHanded {} Try.checked os 6 .any (Rows.fnExactIsFormSpec.pre6 enc Try.prog Try.f6 Rows.fnExactIsFormRow.domain false) (Rows.fnExactIsFormSpec.post enc Try.prog Try.f6 false true false false) := by
  refine returnsInHanded_of_change_sized (C := Try.checked) own started (by kernel_rfl) Try.func6
    (ChangeSpec.witness6 (enc := enc) (C := Try.checked) false ⟨#[], #[.slice none 0 0], []⟩ 8 (by kernel_rfl) (by kernel_rfl) (by kernel_rfl) (by kernel_rfl)) ?_
  intro W base args ds gs before hval hW _ _ _
  refine law_calls (P := Try.prog) (prim := noPrim) (code := code) (f := 6) (fn := Try.f6) (s := Rows.fnExactIsFormSpec) (S := [9, 64, 33]) (tb := 4) told okS ?_ rfl (by kernel_rfl) (by kernel_rfl) ?_ ?_ W base args ds gs before hval hW
  · rw [Try.params6]; decide
  · intro ds hds
    rw [show Try.f6.params.size = 1 from by kernel_rfl] at hds
    match ds, hds with
    | [d0], _ => rfl
  · intro n xs h
    rw [Try.params6] at h
    obtain ⟨x0, xs0, rfl, ⟨ps0, h0, rfl⟩, rfl⟩ := h
    obtain ⟨es, rfl, hl, hok⟩ := open_Nds h0
    exact Ev_some.1 (run_FnExactIsForm es (by rw [maxLen_eq] at hl; exact hl) hok)
where
  okS : ∀ t ∈ [9, 64, 33], okT Try.prog [9, 64, 33] t = true := by decide +kernel
theorem over : Rows.fnExactIsFormRow.holds Try.pinned (OpenSpec.ofChange Rows.fnExactIsFormSpec) :=
  OpenClaim.holds_of_wide 6 Try.f6 rfl rfl rfl rfl rfl rfl rfl ⟨rfl, rfl, rfl, rfl, rfl⟩ rfl rfl rfl rfl rfl (by kernel_rfl) Try.func6 (by kernel_rfl)
    (of_decide_eq_true (by kernel_rfl)) (by unfold Func.isWrapper; first | (rw [if_pos (by decide +kernel)]; kernel_rfl) | (rw [if_neg (by decide +kernel)]; exact ⟨rfl, rfl⟩))
    (fun os started H enc _ => lifted os started H enc)
end Go.Proofs.Ytbgkalolmichdaa.fnExactIsForm
namespace Go.Proofs.Ytbgkalolmichdaa
theorem fnExactIsForm_holds : Rows.FnExactIsFormSaid := fnExactIsForm.over
#print axioms fnExactIsForm_holds
end Go.Proofs.Ytbgkalolmichdaa
