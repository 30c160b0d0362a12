/-
  WHAT IS PROVED: 'abacistlaw4.TokenTells', called with any string, returns true, and the string reads afterwards as it read before (the given statement 'Rows.TokenTellsSaid'). Conditions: none beyond the given statement's own (a string that the machine can hold).
-/
import Derived.Test.YtngeeddmnnmlmaaFn1
import Derived.Test.YtngeeddmnnmlmaaRows
import Derived.JoinedOf
set_option linter.all false
set_option linter.unusedVariables false
set_option linter.unusedSimpArgs false
set_option linter.unnecessarySimpa false
section
/-! The row of the law TokenTells. -/
namespace Go.Proofs.Ytngeeddmnnmlmaa
open Go.RowKit Go.ChangeShapes Go.Rf
theorem own0 : ownKnob Try.checked.prog.godebug = none := by kernel_rfl
theorem laid0 : laidOutB Try.checked.prog = true := by kernel_rfl
namespace tokenTells
noncomputable def rt : TT := [(9, .leaf .str)]
theorem rt_ok : TTOk Try.checked.prog En rt := ttB_ok (by kernel_rfl)
set_option maxRecDepth 100000 in
theorem lifted (os : Os) (started : os.Started) (H : Type) (enc : TypeId × Value → H) :
    ReturnsInHanded {} Try.checked os 3 .any (Rows.tokenTellsSpec.pre6 enc Try.prog Try.f3 Rows.tokenTellsRow.domain false) (Rows.tokenTellsSpec.post enc Try.prog Try.f3 false true false false) :=
  handed (C := Try.checked) (E := En) (rt := rt) own0 started (by kernel_rfl) Try.func3
    (ChangeSpec.witness6 (enc := enc) (C := Try.checked) false ⟨#[], #[.string ByteArray.empty], []⟩ 8 (by kernel_rfl) (by kernel_rfl) (by kernel_rfl) (by kernel_rfl))
    rt_ok (by kernel_rfl) mkA_ok laid0 [.leaf .str] ⟨rfl, trivial⟩ (by
      intro t ht
      have : t = 9 := by simpa [show Try.f3.params.toList = [9] from rfl] using ht
      subst this
      exact ⟨by kernel_rfl, of_decide_eq_true (by kernel_rfl)⟩) (tb := 4) (by kernel_rfl) (by kernel_rfl) (by kernel_rfl) (c := codeOf Try.f3) (by kernel_rfl) law4_TokenTells.ok (by kernel_rfl) (by omega)
    (by
      intro xs h
      match xs, h with
      | [x], h =>
        obtain ⟨⟨y, rfl, _⟩, _⟩ := h
        exact rfl)
    (by
      intro ds h
      match ds, h with
      | [d], _ => rfl) rfl
theorem over : Rows.tokenTellsRow.holds Try.pinned (OpenSpec.ofChange Rows.tokenTellsSpec) :=
  OpenClaim.holds_of_wide 3 Try.f3 rfl rfl rfl rfl rfl rfl rfl ⟨rfl, rfl, rfl, rfl, rfl⟩ rfl rfl rfl rfl rfl (by kernel_rfl) Try.func3 (by kernel_rfl)
    (of_decide_eq_true (by kernel_rfl)) (by unfold Func.isWrapper; first | (rw [if_pos (by decide +kernel)]; kernel_rfl) | (rw [if_neg (by decide +kernel)]; exact ⟨rfl, rfl⟩))
    (fun os started H enc _ => lifted os started H enc)
end tokenTells
theorem tokenTells_holds : Rows.TokenTellsSaid := tokenTells.over
end Go.Proofs.Ytngeeddmnnmlmaa
end
