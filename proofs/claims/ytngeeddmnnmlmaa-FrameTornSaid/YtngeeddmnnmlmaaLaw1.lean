/-
  WHAT IS PROVED: 'abacistlaw24.FrameTorn', called with any edit, any reply and any number, returns true, and its arguments read afterwards as they read before (the given statement 'Rows.FrameTornSaid'). Conditions: none beyond the given statement's own.
-/
import Derived.Test.YtngeeddmnnmlmaaFn3
import Derived.Test.YtngeeddmnnmlmaaRows
import Derived.JoinedOf
set_option linter.all false
set_option linter.unusedVariables false
set_option linter.unusedSimpArgs false
set_option linter.unnecessarySimpa false
section
/-! The row of the law FrameTorn. -/
namespace Go.Proofs.Ytngeeddmnnmlmaa
open Go.RowKit Go.ChangeShapes Go.Rf
theorem own0 : ownKnob Try.checked.prog.godebug = none := by kernel_rfl
theorem laid0 : laidOutB Try.checked.prog = true := by kernel_rfl
namespace frameTorn
def editT : Ty := .agg ([.int .i64] ++ cellT ++ [.str, .str] ++ cellT ++ cellT) [(0, 3), (1, 33), (4, 9), (5, 9), (6, 35)]
def replyT : Ty := .agg [.int .i64, .int .i64, .int .i64, .sl 2] [(0, 3), (1, 3), (2, 24), (3, 38)]
noncomputable def rt : TT := [(9, .leaf .str), (3, .leaf (.int .i64)), (24, .leaf (.int .i64)), (38, .leaf (.sl 2)), (33, .agg cellT fldCell), (50, .agg valT [(0, 3), (1, 3), (2, 9)]), (52, .agg (cellT ++ valT) [(0, 33), (3, 50)]), (35, .agg (cellT ++ cellT) [(0, 33), (3, 33)]), (37, editT), (40, replyT)]
theorem rt_ok : TTOk Try.checked.prog En rt := ttB_ok (by kernel_rfl)
set_option maxRecDepth 100000 in
theorem lifted (os : Os) (started : os.Started) (H : Type) (enc : TypeId × Value → H) :
    ReturnsInHanded {} Try.checked os 4 .any (Rows.frameTornSpec.pre6 enc Try.prog Try.f4 Rows.frameTornRow.domain false) (Rows.frameTornSpec.post enc Try.prog Try.f4 false true false false) :=
  handed (C := Try.checked) (E := En) (rt := rt) own0 started (by kernel_rfl) Try.func4
    (ChangeSpec.witness6 (enc := enc) (C := Try.checked) false ⟨#[], #[.agg #[.int .i64 0, .string ByteArray.empty, .int .i64 0, .int .i64 0, .string ByteArray.empty, .string ByteArray.empty, .string ByteArray.empty, .int .i64 0, .int .i64 0, .string ByteArray.empty, .int .i64 0, .int .i64 0], .agg #[.int .i64 0, .int .i64 0, .int .i64 0, .slice none 0 0], .int .i64 0], []⟩ 8 (by kernel_rfl) (by kernel_rfl) (by kernel_rfl) (by kernel_rfl))
    rt_ok (by kernel_rfl) mkA_ok laid0 [editT, replyT, .leaf (.int .i64)] ⟨rfl, rfl, rfl, trivial⟩ (by
      intro t ht
      have : t = 37 ∨ t = 40 ∨ t = 3 := by simpa [show Try.f4.params.toList = [37, 40, 3] from rfl] using ht
      rcases this with rfl | rfl | rfl <;> exact ⟨by kernel_rfl, of_decide_eq_true (by kernel_rfl)⟩) (tb := 4) (by kernel_rfl) (by kernel_rfl) (by kernel_rfl) (c := codeOf Try.f4) (by kernel_rfl) law24_FrameTorn.ok (by kernel_rfl) (by omega)
    (by
      intro xs h
      match xs, h with
      | [x, y, z], h =>
        obtain ⟨⟨lv, rfl, h1, _⟩, ⟨lw, rfl, h2, _⟩, ⟨n, rfl, _⟩, _⟩ := h
        obtain ⟨a1, _, rfl, q1⟩ := lcons h1
        obtain ⟨a2, _, rfl, q2⟩ := lcons q1
        obtain ⟨a3, _, rfl, q3⟩ := lcons q2
        obtain ⟨a4, _, rfl, q4⟩ := lcons q3
        obtain ⟨a5, _, rfl, q5⟩ := lcons q4
        obtain ⟨a6, _, rfl, q6⟩ := lcons q5
        obtain ⟨a7, _, rfl, q7⟩ := lcons q6
        obtain ⟨a8, _, rfl, q8⟩ := lcons q7
        obtain ⟨a9, _, rfl, q9⟩ := lcons q8
        obtain ⟨b1, _, rfl, p1⟩ := lcons q9
        obtain ⟨b2, _, rfl, p2⟩ := lcons p1
        obtain ⟨b3, _, rfl, p3⟩ := lcons p2
        obtain rfl := lnil p3
        obtain ⟨c1, _, rfl, r1⟩ := lcons h2
        obtain ⟨c2, _, rfl, r2⟩ := lcons r1
        obtain ⟨c3, _, rfl, r3⟩ := lcons r2
        obtain ⟨c4, _, rfl, r4⟩ := lcons r3
        obtain rfl := lnil r4
        exact rfl)
    (by
      intro ds h
      match ds, h with
      | [d1, d2, d3], _ => rfl) rfl
theorem over : Rows.frameTornRow.holds Try.pinned (OpenSpec.ofChange Rows.frameTornSpec) :=
  OpenClaim.holds_of_wide 4 Try.f4 rfl rfl rfl rfl rfl rfl rfl ⟨rfl, rfl, rfl, rfl, rfl⟩ rfl rfl rfl rfl rfl (by kernel_rfl) Try.func4 (by kernel_rfl)
    (of_decide_eq_true (by kernel_rfl)) (by unfold Func.isWrapper; first | (rw [if_pos (by decide +kernel)]; kernel_rfl) | (rw [if_neg (by decide +kernel)]; exact ⟨rfl, rfl⟩))
    (fun os started H enc _ => lifted os started H enc)
end frameTorn
theorem frameTorn_holds : Rows.FrameTornSaid := frameTorn.over
end Go.Proofs.Ytngeeddmnnmlmaa
end
