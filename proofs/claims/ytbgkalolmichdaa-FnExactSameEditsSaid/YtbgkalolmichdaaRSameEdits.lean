/- The program's SameEdits and the reference's give the same: the statement's row. Conditions: none beyond those of the statement itself. -/
import Derived.Test.YtbgkalolmichdaaRows
import Derived.Test.YtbgkalolmichdaaDD
import Derived.WalkKit
import Derived.ProofKit
import Derived.SizedLaws
namespace Go.Proofs.Ytbgkalolmichdaa.fnExactSameEdits
open Go.ChangeShapes Go.WideShapes Go.ChangeAt Go.RowKit Go.Proofs.YtbgkalolmichdaaA
set_option linter.unusedVariables false
theorem own : ownKnob Try.prog.godebug = none := by kernel_rfl
set_option maxRecDepth 100000 in
theorem lifted (os : Os) (started : os.Started) (H : Type) (enc : TypeId × Value → H) :
    ReturnsInHanded {} Try.checked os 5 .any (Rows.fnExactSameEditsSpec.pre6 enc Try.prog Try.f5 Rows.fnExactSameEditsRow.domain false) (Rows.fnExactSameEditsSpec.post enc Try.prog Try.f5 false true false false) := by
  refine returnsInHanded_of_change_sized (C := Try.checked) own started (by kernel_rfl) Try.func5
    (ChangeSpec.witness6 (enc := enc) (C := Try.checked) false ⟨#[], #[.slice none 0 0, .slice none 0 0], []⟩ 8 (by kernel_rfl) (by kernel_rfl) (by kernel_rfl) (by kernel_rfl)) ?_
  intro W base args ds gs before hval hW _ _ _
  refine law_calls (P := Try.prog) (prim := noPrim) (code := code) (f := 5) (fn := Try.f5) (s := Rows.fnExactSameEditsSpec) (S := [9, 3, 57, 25]) (tb := 4) told okS ?_ rfl (by kernel_rfl) (by kernel_rfl) ?_ ?_ W base args ds gs before hval hW
  · rw [Try.params5]; decide
  · intro ds hds
    rw [show Try.f5.params.size = 2 from by kernel_rfl] at hds
    match ds, hds with
    | [d0, d1], _ => rfl
  · intro n xs h
    rw [Try.params5] at h
    obtain ⟨x0, xs0, rfl, ⟨ps0, h0, rfl⟩, h⟩ := h
    obtain ⟨x1, xs1, rfl, ⟨ps1, h1, rfl⟩, rfl⟩ := h
    obtain ⟨es, rfl, hl, hok⟩ := open_Es h0
    obtain ⟨fs, rfl, hl1, hok1⟩ := open_Es h1
    exact Ev_some.1 (run_FnExactSameEdits es (by rw [maxLen_eq] at hl; exact hl) hok fs (by rw [maxLen_eq] at hl1; exact hl1) hok1)
where
  okS : ∀ t ∈ [9, 3, 57, 25], okT Try.prog [9, 3, 57, 25] t = true := by decide +kernel
theorem over : Rows.fnExactSameEditsRow.holds Try.pinned (OpenSpec.ofChange Rows.fnExactSameEditsSpec) :=
  OpenClaim.holds_of_wide 5 Try.f5 rfl rfl rfl rfl rfl rfl rfl ⟨rfl, rfl, rfl, rfl, rfl⟩ rfl rfl rfl rfl rfl (by kernel_rfl) Try.func5 (by kernel_rfl)
    (of_decide_eq_true (by kernel_rfl)) (by unfold Func.isWrapper; first | (rw [if_pos (by decide +kernel)]; kernel_rfl) | (rw [if_neg (by decide +kernel)]; exact ⟨rfl, rfl⟩))
    (fun os started H enc _ => lifted os started H enc)
end Go.Proofs.Ytbgkalolmichdaa.fnExactSameEdits
namespace Go.Proofs.Ytbgkalolmichdaa
theorem fnExactSameEdits_holds : Rows.FnExactSameEditsSaid := fnExactSameEdits.over
#print axioms fnExactSameEdits_holds
end Go.Proofs.Ytbgkalolmichdaa
