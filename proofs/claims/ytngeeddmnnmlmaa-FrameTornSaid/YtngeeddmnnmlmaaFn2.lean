/-
  A part of the proof whose end is the text 'YtngeeddmnnmlmaaLaw1': the verified evaluator ('Core') and what it finds of the functions ('Fn').
-/
import Derived.Test.YtngeeddmnnmlmaaFn1
set_option linter.all false
set_option linter.unusedVariables false
set_option linter.unusedSimpArgs false
set_option linter.unnecessarySimpa false
section
set_option linter.unusedSimpArgs false
set_option linter.unusedVariables false
noncomputable section
namespace Go.Rf
open Go.Proofs
set_option maxRecDepth 100000
namespace frame_Edit
abbrev c := cx f_frame_Edit [(i_frame_writer_cell, frame_writer_cell.S), (i_frame_writer_short, frame_writer_short.S), (i_frame_writer_all, frame_writer_all.S)] [] []
theorem fn_t (k : Int) (a : Cell) (n t : List UInt8) (f g : Cell) : fnRun frame_Edit.c f_frame_Edit (codeOf f_frame_Edit) [.agg (Edit.lv ⟨k, a, n, t, ⟨f, g⟩⟩)] (anys 1) =
  Tree.req (((0 : Int) ≤ IntKind.wrap IntKind.u8 k ∧ IntKind.wrap IntKind.u8 k < (256 : LT.den kindA (LT.int IntKind.u8))) ∧ True)
  (Tree.ite (k == (1 : Int))
    (Tree.req (room (List.length [UInt8.ofNat (Int.toNat (IntKind.wrap IntKind.u8 k))] + (260 : Nat)))
      (Tree.req (room (List.length (Prod.fst (wCell ([UInt8.ofNat (Int.toNat (IntKind.wrap IntKind.u8 k))], false) (Cell.mk (Cell.sheet a) (Cell.col a) (Cell.row a)))) + (256 : Nat)))
        (Tree.leaf ([tL (0 : Nat) (wAll (wShort (wCell ([UInt8.ofNat (Int.toNat (IntKind.wrap IntKind.u8 k))], false) (Cell.mk (Cell.sheet a) (Cell.col a) (Cell.row a))) t)) false], [RV.any]))))
    (Tree.ite (k == (2 : Int))
      (Tree.req (room (List.length [UInt8.ofNat (Int.toNat (IntKind.wrap IntKind.u8 k))] + (260 : Nat))) (Tree.leaf ([tL (0 : Nat) (wAll (wCell ([UInt8.ofNat (Int.toNat (IntKind.wrap IntKind.u8 k))], false) (Cell.mk (Cell.sheet a) (Cell.col a) (Cell.row a)))) false], [RV.any])))
      (Tree.ite (k == (3 : Int))
        (Tree.ite (k == (3 : Int)) (Tree.req (room (List.length [UInt8.ofNat (Int.toNat (IntKind.wrap IntKind.u8 k))] + (256 : Nat))) (Tree.leaf ([tL (0 : Nat) (wAll (wShort ([UInt8.ofNat (Int.toNat (IntKind.wrap IntKind.u8 k))], false) n)) false], [RV.any])))
          (Tree.ite (k == (5 : Int))
            (Tree.req (room (List.length [UInt8.ofNat (Int.toNat (IntKind.wrap IntKind.u8 k))] + (256 : Nat)))
              (Tree.req (room (List.length (Prod.fst (wShort ([UInt8.ofNat (Int.toNat (IntKind.wrap IntKind.u8 k))], false) n)) + (256 : Nat))) (Tree.leaf ([tL (0 : Nat) (wAll (wShort (wShort ([UInt8.ofNat (Int.toNat (IntKind.wrap IntKind.u8 k))], false) n) t)) false], [RV.any]))))
            (Tree.ite (k == (8 : Int))
              (Tree.req (room (List.length [UInt8.ofNat (Int.toNat (IntKind.wrap IntKind.u8 k))] + (260 : Nat)))
                (Tree.req (room (List.length (Prod.fst (wCell ([UInt8.ofNat (Int.toNat (IntKind.wrap IntKind.u8 k))], false) (Cell.mk (Cell.sheet f) (Cell.col f) (Cell.row f)))) + (260 : Nat)))
                  (Tree.leaf ([tL (0 : Nat) (wAll (wCell (wCell ([UInt8.ofNat (Int.toNat (IntKind.wrap IntKind.u8 k))], false) (Cell.mk (Cell.sheet f) (Cell.col f) (Cell.row f))) (Cell.mk (Cell.sheet g) (Cell.col g) (Cell.row g)))) false], [RV.any]))))
              (Tree.ite (k == (6 : Int)) (Tree.ite (k == (6 : Int)) (Tree.leaf ([tL (0 : Nat) (wAll ([UInt8.ofNat (Int.toNat (IntKind.wrap IntKind.u8 k))], false)) false], [RV.any])) (Tree.leaf ([tL (0 : Nat) (wAll ([UInt8.ofNat (Int.toNat (IntKind.wrap IntKind.u8 k))], true)) false], [RV.any])))
                (Tree.ite (k == (7 : Int)) (Tree.ite (k == (7 : Int)) (Tree.leaf ([tL (0 : Nat) (wAll ([UInt8.ofNat (Int.toNat (IntKind.wrap IntKind.u8 k))], false)) false], [RV.any])) (Tree.leaf ([tL (0 : Nat) (wAll ([UInt8.ofNat (Int.toNat (IntKind.wrap IntKind.u8 k))], true)) false], [RV.any])))
                  (Tree.ite (k == (9 : Int)) (Tree.leaf ([tL (0 : Nat) (wAll ([UInt8.ofNat (Int.toNat (IntKind.wrap IntKind.u8 k))], false)) false], [RV.any])) (Tree.leaf ([tL (0 : Nat) (wAll ([UInt8.ofNat (Int.toNat (IntKind.wrap IntKind.u8 k))], true)) false], [RV.any]))))))))
        (Tree.ite (k == (4 : Int)) (Tree.req (room (List.length [UInt8.ofNat (Int.toNat (IntKind.wrap IntKind.u8 k))] + (256 : Nat))) (Tree.leaf ([tL (0 : Nat) (wAll (wShort ([UInt8.ofNat (Int.toNat (IntKind.wrap IntKind.u8 k))], false) n)) false], [RV.any])))
          (Tree.ite (k == (5 : Int))
            (Tree.req (room (List.length [UInt8.ofNat (Int.toNat (IntKind.wrap IntKind.u8 k))] + (256 : Nat)))
              (Tree.req (room (List.length (Prod.fst (wShort ([UInt8.ofNat (Int.toNat (IntKind.wrap IntKind.u8 k))], false) n)) + (256 : Nat))) (Tree.leaf ([tL (0 : Nat) (wAll (wShort (wShort ([UInt8.ofNat (Int.toNat (IntKind.wrap IntKind.u8 k))], false) n) t)) false], [RV.any]))))
            (Tree.ite (k == (8 : Int))
              (Tree.req (room (List.length [UInt8.ofNat (Int.toNat (IntKind.wrap IntKind.u8 k))] + (260 : Nat)))
                (Tree.req (room (List.length (Prod.fst (wCell ([UInt8.ofNat (Int.toNat (IntKind.wrap IntKind.u8 k))], false) (Cell.mk (Cell.sheet f) (Cell.col f) (Cell.row f)))) + (260 : Nat)))
                  (Tree.leaf ([tL (0 : Nat) (wAll (wCell (wCell ([UInt8.ofNat (Int.toNat (IntKind.wrap IntKind.u8 k))], false) (Cell.mk (Cell.sheet f) (Cell.col f) (Cell.row f))) (Cell.mk (Cell.sheet g) (Cell.col g) (Cell.row g)))) false], [RV.any]))))
              (Tree.ite (k == (6 : Int)) (Tree.ite (k == (6 : Int)) (Tree.leaf ([tL (0 : Nat) (wAll ([UInt8.ofNat (Int.toNat (IntKind.wrap IntKind.u8 k))], false)) false], [RV.any])) (Tree.leaf ([tL (0 : Nat) (wAll ([UInt8.ofNat (Int.toNat (IntKind.wrap IntKind.u8 k))], true)) false], [RV.any])))
                (Tree.ite (k == (7 : Int)) (Tree.ite (k == (7 : Int)) (Tree.leaf ([tL (0 : Nat) (wAll ([UInt8.ofNat (Int.toNat (IntKind.wrap IntKind.u8 k))], false)) false], [RV.any])) (Tree.leaf ([tL (0 : Nat) (wAll ([UInt8.ofNat (Int.toNat (IntKind.wrap IntKind.u8 k))], true)) false], [RV.any])))
                  (Tree.ite (k == (9 : Int)) (Tree.leaf ([tL (0 : Nat) (wAll ([UInt8.ofNat (Int.toNat (IntKind.wrap IntKind.u8 k))], false)) false], [RV.any])) (Tree.leaf ([tL (0 : Nat) (wAll ([UInt8.ofNat (Int.toNat (IntKind.wrap IntKind.u8 k))], true)) false], [RV.any]))))))))))) := by kernel_rfl
def F : List TV' → Tree (List TV') := aEdit fun e => a0 (.leaf [tL 0 (wAll (wEdit e)) false])
abbrev S : Spec En := pureSpec 1 F
theorem ok : SpecOk pr i_frame_Edit S := by
  refine pureOk (ctx := c) (cx_ok (.cons frame_writer_cell.ok (.cons frame_writer_short.ok (.cons frame_writer_all.ok .nil))) nil_ok) mixed h_frame_Edit (by kernel_rfl) (no_loop (by kernel_rfl)) (by kernel_rfl) fun xs r h => ?_
  obtain ⟨⟨k, a, n, t, ⟨f, g⟩⟩, _, rfl, g1⟩ := aEdit_r h
  obtain ⟨rfl, rfl⟩ := a0_r g1
  refine ⟨rfl, Tree.reach_of (fn_t k a n t f g) ?_⟩
  have hu := wrap_u8 k
  have l0 (c : Cell) := wCell_len ([UInt8.ofNat (Int.toNat (IntKind.wrap IntKind.u8 k))], false) c
  have l1 (s : List UInt8) := wShort_len ([UInt8.ofNat (Int.toNat (IntKind.wrap IntKind.u8 k))], false) s
  simp only [List.length_singleton] at l0 l1
  refine Tree.reach_req ⟨⟨by rw [hu]; omega, by rw [hu]; show (_ : Int) < (256 : Int); omega⟩, trivial⟩ ?_
  have q0 : room (List.length [UInt8.ofNat (Int.toNat (IntKind.wrap IntKind.u8 k))] + 260) := by unfold room; simp
  have q1 : room (List.length [UInt8.ofNat (Int.toNat (IntKind.wrap IntKind.u8 k))] + 256) := by unfold room; simp
  have l0 (c : Cell) (m : Nat) (hm : m ≤ 260) : room (List.length (Prod.fst (wCell ([UInt8.ofNat (Int.toNat (IntKind.wrap IntKind.u8 k))], false) c)) + m) := by have := l0 c; unfold room; omega
  have l1 (s : List UInt8) : room (List.length (Prod.fst (wShort ([UInt8.ofNat (Int.toNat (IntKind.wrap IntKind.u8 k))], false) s)) + 256) := by have := l1 s; unfold room; omega
  unfold wEdit
  dsimp only
  cases h1 : (k == (1 : Int)) with
  | true => exact Tree.reach_tt (Tree.reach_req q0 (Tree.reach_req (l0 _ _ (by omega)) rfl))
  | false =>
  refine Tree.reach_ff ?_
  cases h2 : (k == (2 : Int)) with
  | true => exact Tree.reach_tt (Tree.reach_req q0 rfl)
  | false =>
  refine Tree.reach_ff ?_
  cases h3 : (k == (3 : Int)) with
  | true => exact Tree.reach_tt (Tree.reach_tt (Tree.reach_req q1 rfl))
  | false =>
  refine Tree.reach_ff ?_
  cases h4 : (k == (4 : Int)) with
  | true => exact Tree.reach_tt (Tree.reach_req q1 rfl)
  | false =>
  refine Tree.reach_ff ?_
  cases h5 : (k == (5 : Int)) with
  | true => exact Tree.reach_tt (Tree.reach_req q1 (Tree.reach_req (l1 _) rfl))
  | false =>
  refine Tree.reach_ff ?_
  cases h8 : (k == (8 : Int)) with
  | true => exact Tree.reach_tt (Tree.reach_req q0 (Tree.reach_req (l0 _ _ (by omega)) rfl))
  | false =>
  refine Tree.reach_ff ?_
  cases h6 : (k == (6 : Int)) with
  | true => exact Tree.reach_tt (Tree.reach_tt rfl)
  | false =>
  refine Tree.reach_ff ?_
  cases h7 : (k == (7 : Int)) with
  | true => exact Tree.reach_tt (Tree.reach_tt rfl)
  | false =>
  refine Tree.reach_ff ?_
  cases h9 : (k == (9 : Int)) with
  | true => exact Tree.reach_tt rfl
  | false => exact Tree.reach_ff rfl
end frame_Edit
namespace ref21_short
abbrev c := cx f_ref21_short [] [] []
theorem fn_t (b s : List UInt8) : fnRun ref21_short.c f_ref21_short (codeOf f_ref21_short) [tL 0 b true, tS s] (anys 2) =
  Tree.ite (decide ((↑(List.length s) : Int) > (255 : Int))) (Tree.leaf ([tL (0 : Nat) [] true, tB false], [RV.any, RV.any]))
  (Tree.req (((0 : Int) ≤ IntKind.wrap IntKind.u8 (↑(List.length s) : Int) ∧ IntKind.wrap IntKind.u8 (↑(List.length s) : Int) < (256 : LT.den kindA (LT.int IntKind.u8))) ∧ True)
    (Tree.req ((List.length b + List.length [UInt8.ofNat (Int.toNat (IntKind.wrap IntKind.u8 (↑(List.length s) : Int)))]) * (1 : Nat) ≤ (140737488355328 : Nat))
      (Tree.req ((List.length (b ++ [UInt8.ofNat (Int.toNat (IntKind.wrap IntKind.u8 (↑(List.length s) : Int)))]) + List.length s) * (1 : Nat) ≤ (140737488355328 : Nat))
        (Tree.leaf ([tL (0 : Nat) (b ++ [UInt8.ofNat (Int.toNat (IntKind.wrap IntKind.u8 (↑(List.length s) : Int)))] ++ s) true, tB true], [RV.any, RV.any]))))) := by kernel_rfl
def F : List TV' → Tree (List TV') := aBytesO fun b => aS fun s => a0 (.req (room (b.length + 256)) (.leaf [tL 0 (dShort b s).1 true, tB (dShort b s).2]))
noncomputable abbrev S : Spec En := pureO [0] 2 F
theorem ok : SpecOk pr i_ref21_short S := by
  refine pureO_ok (ctx := c) (cx_ok nil_ok nil_ok) h_ref21_short (by kernel_rfl) (no_loop (by kernel_rfl)) fun xs r h => ?_
  obtain ⟨b, _, rfl, g1⟩ := aBytesO_r h
  obtain ⟨s, _, rfl, g2⟩ := aS_r g1
  obtain ⟨rfl, h0, rfl⟩ := a0_r g2
  unfold room at h0
  have hu := wrap_u8 s.length
  refine ⟨rfl, Tree.reach_of (fn_t b s) ?_⟩
  have e : decide (((List.length s : Nat) : Int) > 255) = decide (255 < s.length) := by congr 1; exact propext ⟨fun h => by omega, fun h => by omega⟩
  rw [e]
  cases h1 : decide (255 < s.length) with
  | true =>
    have e2 : dShort b s = ([], false) := by unfold dShort; rw [h1]; rfl
    rw [e2]; exact Tree.reach_tt rfl
  | false =>
    have e2 : dShort b s = (b ++ [bt s.length] ++ s, true) := by unfold dShort; rw [h1]; rfl
    have h2 : ¬ (255 < s.length) := by simpa using h1
    rw [e2]
    refine Tree.reach_ff (Tree.reach_req ⟨⟨by rw [hu]; omega, by rw [hu]; show (_ : Int) < (256 : Int); omega⟩, trivial⟩ (Tree.reach_req ?_ (Tree.reach_req ?_ rfl)))
    · simp only [List.length_singleton]; omega
    · simp only [List.length_append, List.length_singleton]; omega
end ref21_short
namespace ref21_cell
abbrev c := cx f_ref21_cell [(i_ref21_short, ref21_short.S)] [] []
theorem fn_t (b : List UInt8) (x y : Int) (s : List UInt8) : fnRun ref21_cell.c f_ref21_cell (codeOf f_ref21_cell) [tL 0 b true, tCell ⟨s, x, y⟩] (anys 2) =
  Tree.ite (decide (x < (0 : Int)))
  (Tree.ite true
    (Tree.ite true
      (Tree.ite true (Tree.leaf ([tL (0 : Nat) [] true, tB false], [RV.any, RV.any]))
        (Tree.req (room (List.length b + (256 : Nat)))
          (Tree.req ((0 : Int) ≤ (8 : Int))
            (Tree.req ((0 : Int) ≤ (8 : Int))
              (Tree.req
                (((0 : Int) ≤ IntKind.wrap IntKind.u8 (Int.fdiv x ((2 : Int) ^ min (8 : Nat) (IntKind.bits IntKind.i64))) ∧ IntKind.wrap IntKind.u8 (Int.fdiv x ((2 : Int) ^ min (8 : Nat) (IntKind.bits IntKind.i64))) < (256 : LT.den kindA (LT.int IntKind.u8))) ∧
                  ((0 : Int) ≤ IntKind.wrap IntKind.u8 (bitsOp BinOp.and IntKind.i64 x (255 : Int)) ∧ IntKind.wrap IntKind.u8 (bitsOp BinOp.and IntKind.i64 x (255 : Int)) < (256 : LT.den kindA (LT.int IntKind.u8))) ∧
                    ((0 : Int) ≤ IntKind.wrap IntKind.u8 (Int.fdiv y ((2 : Int) ^ min (8 : Nat) (IntKind.bits IntKind.i64))) ∧ IntKind.wrap IntKind.u8 (Int.fdiv y ((2 : Int) ^ min (8 : Nat) (IntKind.bits IntKind.i64))) < (256 : LT.den kindA (LT.int IntKind.u8))) ∧
                      ((0 : Int) ≤ IntKind.wrap IntKind.u8 (bitsOp BinOp.and IntKind.i64 y (255 : Int)) ∧ IntKind.wrap IntKind.u8 (bitsOp BinOp.and IntKind.i64 y (255 : Int)) < (256 : LT.den kindA (LT.int IntKind.u8))) ∧ True)
                (Tree.req
                  ((List.length (Prod.fst (dShort b s)) +
                        List.length
                          [UInt8.ofNat (Int.toNat (IntKind.wrap IntKind.u8 (Int.fdiv x ((2 : Int) ^ min (8 : Nat) (IntKind.bits IntKind.i64))))), UInt8.ofNat (Int.toNat (IntKind.wrap IntKind.u8 (bitsOp BinOp.and IntKind.i64 x (255 : Int)))),
                            UInt8.ofNat (Int.toNat (IntKind.wrap IntKind.u8 (Int.fdiv y ((2 : Int) ^ min (8 : Nat) (IntKind.bits IntKind.i64))))), UInt8.ofNat (Int.toNat (IntKind.wrap IntKind.u8 (bitsOp BinOp.and IntKind.i64 y (255 : Int))))]) *
                      (1 : Nat) ≤
                    (140737488355328 : Nat))
                  (Tree.leaf
                    ([tL (0 : Nat)
                          (Prod.fst (dShort b s) ++
                            [UInt8.ofNat (Int.toNat (IntKind.wrap IntKind.u8 (Int.fdiv x ((2 : Int) ^ min (8 : Nat) (IntKind.bits IntKind.i64))))), UInt8.ofNat (Int.toNat (IntKind.wrap IntKind.u8 (bitsOp BinOp.and IntKind.i64 x (255 : Int)))),
                              UInt8.ofNat (Int.toNat (IntKind.wrap IntKind.u8 (Int.fdiv y ((2 : Int) ^ min (8 : Nat) (IntKind.bits IntKind.i64))))), UInt8.ofNat (Int.toNat (IntKind.wrap IntKind.u8 (bitsOp BinOp.and IntKind.i64 y (255 : Int))))])
                          true,
                        tB (Prod.snd (dShort b s))],
                      [RV.any, RV.any]))))))))
      (Tree.ite (decide (y > (65535 : Int))) (Tree.leaf ([tL (0 : Nat) [] true, tB false], [RV.any, RV.any]))
        (Tree.req (room (List.length b + (256 : Nat)))
          (Tree.req ((0 : Int) ≤ (8 : Int))
            (Tree.req ((0 : Int) ≤ (8 : Int))
              (Tree.req
                (((0 : Int) ≤ IntKind.wrap IntKind.u8 (Int.fdiv x ((2 : Int) ^ min (8 : Nat) (IntKind.bits IntKind.i64))) ∧ IntKind.wrap IntKind.u8 (Int.fdiv x ((2 : Int) ^ min (8 : Nat) (IntKind.bits IntKind.i64))) < (256 : LT.den kindA (LT.int IntKind.u8))) ∧
                  ((0 : Int) ≤ IntKind.wrap IntKind.u8 (bitsOp BinOp.and IntKind.i64 x (255 : Int)) ∧ IntKind.wrap IntKind.u8 (bitsOp BinOp.and IntKind.i64 x (255 : Int)) < (256 : LT.den kindA (LT.int IntKind.u8))) ∧
                    ((0 : Int) ≤ IntKind.wrap IntKind.u8 (Int.fdiv y ((2 : Int) ^ min (8 : Nat) (IntKind.bits IntKind.i64))) ∧ IntKind.wrap IntKind.u8 (Int.fdiv y ((2 : Int) ^ min (8 : Nat) (IntKind.bits IntKind.i64))) < (256 : LT.den kindA (LT.int IntKind.u8))) ∧
                      ((0 : Int) ≤ IntKind.wrap IntKind.u8 (bitsOp BinOp.and IntKind.i64 y (255 : Int)) ∧ IntKind.wrap IntKind.u8 (bitsOp BinOp.and IntKind.i64 y (255 : Int)) < (256 : LT.den kindA (LT.int IntKind.u8))) ∧ True)
                (Tree.req
                  ((List.length (Prod.fst (dShort b s)) +
                        List.length
                          [UInt8.ofNat (Int.toNat (IntKind.wrap IntKind.u8 (Int.fdiv x ((2 : Int) ^ min (8 : Nat) (IntKind.bits IntKind.i64))))), UInt8.ofNat (Int.toNat (IntKind.wrap IntKind.u8 (bitsOp BinOp.and IntKind.i64 x (255 : Int)))),
                            UInt8.ofNat (Int.toNat (IntKind.wrap IntKind.u8 (Int.fdiv y ((2 : Int) ^ min (8 : Nat) (IntKind.bits IntKind.i64))))), UInt8.ofNat (Int.toNat (IntKind.wrap IntKind.u8 (bitsOp BinOp.and IntKind.i64 y (255 : Int))))]) *
                      (1 : Nat) ≤
                    (140737488355328 : Nat))
                  (Tree.leaf
                    ([tL (0 : Nat)
                          (Prod.fst (dShort b s) ++
                            [UInt8.ofNat (Int.toNat (IntKind.wrap IntKind.u8 (Int.fdiv x ((2 : Int) ^ min (8 : Nat) (IntKind.bits IntKind.i64))))), UInt8.ofNat (Int.toNat (IntKind.wrap IntKind.u8 (bitsOp BinOp.and IntKind.i64 x (255 : Int)))),
                              UInt8.ofNat (Int.toNat (IntKind.wrap IntKind.u8 (Int.fdiv y ((2 : Int) ^ min (8 : Nat) (IntKind.bits IntKind.i64))))), UInt8.ofNat (Int.toNat (IntKind.wrap IntKind.u8 (bitsOp BinOp.and IntKind.i64 y (255 : Int))))])
                          true,
                        tB (Prod.snd (dShort b s))],
                      [RV.any, RV.any])))))))))
    (Tree.ite (decide (y < (0 : Int)))
      (Tree.ite true (Tree.leaf ([tL (0 : Nat) [] true, tB false], [RV.any, RV.any]))
        (Tree.req (room (List.length b + (256 : Nat)))
          (Tree.req ((0 : Int) ≤ (8 : Int))
            (Tree.req ((0 : Int) ≤ (8 : Int))
              (Tree.req
                (((0 : Int) ≤ IntKind.wrap IntKind.u8 (Int.fdiv x ((2 : Int) ^ min (8 : Nat) (IntKind.bits IntKind.i64))) ∧ IntKind.wrap IntKind.u8 (Int.fdiv x ((2 : Int) ^ min (8 : Nat) (IntKind.bits IntKind.i64))) < (256 : LT.den kindA (LT.int IntKind.u8))) ∧
                  ((0 : Int) ≤ IntKind.wrap IntKind.u8 (bitsOp BinOp.and IntKind.i64 x (255 : Int)) ∧ IntKind.wrap IntKind.u8 (bitsOp BinOp.and IntKind.i64 x (255 : Int)) < (256 : LT.den kindA (LT.int IntKind.u8))) ∧
                    ((0 : Int) ≤ IntKind.wrap IntKind.u8 (Int.fdiv y ((2 : Int) ^ min (8 : Nat) (IntKind.bits IntKind.i64))) ∧ IntKind.wrap IntKind.u8 (Int.fdiv y ((2 : Int) ^ min (8 : Nat) (IntKind.bits IntKind.i64))) < (256 : LT.den kindA (LT.int IntKind.u8))) ∧
                      ((0 : Int) ≤ IntKind.wrap IntKind.u8 (bitsOp BinOp.and IntKind.i64 y (255 : Int)) ∧ IntKind.wrap IntKind.u8 (bitsOp BinOp.and IntKind.i64 y (255 : Int)) < (256 : LT.den kindA (LT.int IntKind.u8))) ∧ True)
                (Tree.req
                  ((List.length (Prod.fst (dShort b s)) +
                        List.length
                          [UInt8.ofNat (Int.toNat (IntKind.wrap IntKind.u8 (Int.fdiv x ((2 : Int) ^ min (8 : Nat) (IntKind.bits IntKind.i64))))), UInt8.ofNat (Int.toNat (IntKind.wrap IntKind.u8 (bitsOp BinOp.and IntKind.i64 x (255 : Int)))),
                            UInt8.ofNat (Int.toNat (IntKind.wrap IntKind.u8 (Int.fdiv y ((2 : Int) ^ min (8 : Nat) (IntKind.bits IntKind.i64))))), UInt8.ofNat (Int.toNat (IntKind.wrap IntKind.u8 (bitsOp BinOp.and IntKind.i64 y (255 : Int))))]) *
                      (1 : Nat) ≤
                    (140737488355328 : Nat))
                  (Tree.leaf
                    ([tL (0 : Nat)
                          (Prod.fst (dShort b s) ++
                            [UInt8.ofNat (Int.toNat (IntKind.wrap IntKind.u8 (Int.fdiv x ((2 : Int) ^ min (8 : Nat) (IntKind.bits IntKind.i64))))), UInt8.ofNat (Int.toNat (IntKind.wrap IntKind.u8 (bitsOp BinOp.and IntKind.i64 x (255 : Int)))),
                              UInt8.ofNat (Int.toNat (IntKind.wrap IntKind.u8 (Int.fdiv y ((2 : Int) ^ min (8 : Nat) (IntKind.bits IntKind.i64))))), UInt8.ofNat (Int.toNat (IntKind.wrap IntKind.u8 (bitsOp BinOp.and IntKind.i64 y (255 : Int))))])
                          true,
                        tB (Prod.snd (dShort b s))],
                      [RV.any, RV.any]))))))))
      (Tree.ite (decide (y > (65535 : Int))) (Tree.leaf ([tL (0 : Nat) [] true, tB false], [RV.any, RV.any]))
        (Tree.req (room (List.length b + (256 : Nat)))
          (Tree.req ((0 : Int) ≤ (8 : Int))
            (Tree.req ((0 : Int) ≤ (8 : Int))
              (Tree.req
                (((0 : Int) ≤ IntKind.wrap IntKind.u8 (Int.fdiv x ((2 : Int) ^ min (8 : Nat) (IntKind.bits IntKind.i64))) ∧ IntKind.wrap IntKind.u8 (Int.fdiv x ((2 : Int) ^ min (8 : Nat) (IntKind.bits IntKind.i64))) < (256 : LT.den kindA (LT.int IntKind.u8))) ∧
                  ((0 : Int) ≤ IntKind.wrap IntKind.u8 (bitsOp BinOp.and IntKind.i64 x (255 : Int)) ∧ IntKind.wrap IntKind.u8 (bitsOp BinOp.and IntKind.i64 x (255 : Int)) < (256 : LT.den kindA (LT.int IntKind.u8))) ∧
                    ((0 : Int) ≤ IntKind.wrap IntKind.u8 (Int.fdiv y ((2 : Int) ^ min (8 : Nat) (IntKind.bits IntKind.i64))) ∧ IntKind.wrap IntKind.u8 (Int.fdiv y ((2 : Int) ^ min (8 : Nat) (IntKind.bits IntKind.i64))) < (256 : LT.den kindA (LT.int IntKind.u8))) ∧
                      ((0 : Int) ≤ IntKind.wrap IntKind.u8 (bitsOp BinOp.and IntKind.i64 y (255 : Int)) ∧ IntKind.wrap IntKind.u8 (bitsOp BinOp.and IntKind.i64 y (255 : Int)) < (256 : LT.den kindA (LT.int IntKind.u8))) ∧ True)
                (Tree.req
                  ((List.length (Prod.fst (dShort b s)) +
                        List.length
                          [UInt8.ofNat (Int.toNat (IntKind.wrap IntKind.u8 (Int.fdiv x ((2 : Int) ^ min (8 : Nat) (IntKind.bits IntKind.i64))))), UInt8.ofNat (Int.toNat (IntKind.wrap IntKind.u8 (bitsOp BinOp.and IntKind.i64 x (255 : Int)))),
                            UInt8.ofNat (Int.toNat (IntKind.wrap IntKind.u8 (Int.fdiv y ((2 : Int) ^ min (8 : Nat) (IntKind.bits IntKind.i64))))), UInt8.ofNat (Int.toNat (IntKind.wrap IntKind.u8 (bitsOp BinOp.and IntKind.i64 y (255 : Int))))]) *
                      (1 : Nat) ≤
                    (140737488355328 : Nat))
                  (Tree.leaf
                    ([tL (0 : Nat)
                          (Prod.fst (dShort b s) ++
                            [UInt8.ofNat (Int.toNat (IntKind.wrap IntKind.u8 (Int.fdiv x ((2 : Int) ^ min (8 : Nat) (IntKind.bits IntKind.i64))))), UInt8.ofNat (Int.toNat (IntKind.wrap IntKind.u8 (bitsOp BinOp.and IntKind.i64 x (255 : Int)))),
                              UInt8.ofNat (Int.toNat (IntKind.wrap IntKind.u8 (Int.fdiv y ((2 : Int) ^ min (8 : Nat) (IntKind.bits IntKind.i64))))), UInt8.ofNat (Int.toNat (IntKind.wrap IntKind.u8 (bitsOp BinOp.and IntKind.i64 y (255 : Int))))])
                          true,
                        tB (Prod.snd (dShort b s))],
                      [RV.any, RV.any]))))))))))
  (Tree.ite (decide (x > (65535 : Int)))
    (Tree.ite true
      (Tree.ite true (Tree.leaf ([tL (0 : Nat) [] true, tB false], [RV.any, RV.any]))
        (Tree.req (room (List.length b + (256 : Nat)))
          (Tree.req ((0 : Int) ≤ (8 : Int))
            (Tree.req ((0 : Int) ≤ (8 : Int))
              (Tree.req
                (((0 : Int) ≤ IntKind.wrap IntKind.u8 (Int.fdiv x ((2 : Int) ^ min (8 : Nat) (IntKind.bits IntKind.i64))) ∧ IntKind.wrap IntKind.u8 (Int.fdiv x ((2 : Int) ^ min (8 : Nat) (IntKind.bits IntKind.i64))) < (256 : LT.den kindA (LT.int IntKind.u8))) ∧
                  ((0 : Int) ≤ IntKind.wrap IntKind.u8 (bitsOp BinOp.and IntKind.i64 x (255 : Int)) ∧ IntKind.wrap IntKind.u8 (bitsOp BinOp.and IntKind.i64 x (255 : Int)) < (256 : LT.den kindA (LT.int IntKind.u8))) ∧
                    ((0 : Int) ≤ IntKind.wrap IntKind.u8 (Int.fdiv y ((2 : Int) ^ min (8 : Nat) (IntKind.bits IntKind.i64))) ∧ IntKind.wrap IntKind.u8 (Int.fdiv y ((2 : Int) ^ min (8 : Nat) (IntKind.bits IntKind.i64))) < (256 : LT.den kindA (LT.int IntKind.u8))) ∧
                      ((0 : Int) ≤ IntKind.wrap IntKind.u8 (bitsOp BinOp.and IntKind.i64 y (255 : Int)) ∧ IntKind.wrap IntKind.u8 (bitsOp BinOp.and IntKind.i64 y (255 : Int)) < (256 : LT.den kindA (LT.int IntKind.u8))) ∧ True)
                (Tree.req
                  ((List.length (Prod.fst (dShort b s)) +
                        List.length
                          [UInt8.ofNat (Int.toNat (IntKind.wrap IntKind.u8 (Int.fdiv x ((2 : Int) ^ min (8 : Nat) (IntKind.bits IntKind.i64))))), UInt8.ofNat (Int.toNat (IntKind.wrap IntKind.u8 (bitsOp BinOp.and IntKind.i64 x (255 : Int)))),
                            UInt8.ofNat (Int.toNat (IntKind.wrap IntKind.u8 (Int.fdiv y ((2 : Int) ^ min (8 : Nat) (IntKind.bits IntKind.i64))))), UInt8.ofNat (Int.toNat (IntKind.wrap IntKind.u8 (bitsOp BinOp.and IntKind.i64 y (255 : Int))))]) *
                      (1 : Nat) ≤
                    (140737488355328 : Nat))
                  (Tree.leaf
                    ([tL (0 : Nat)
                          (Prod.fst (dShort b s) ++
                            [UInt8.ofNat (Int.toNat (IntKind.wrap IntKind.u8 (Int.fdiv x ((2 : Int) ^ min (8 : Nat) (IntKind.bits IntKind.i64))))), UInt8.ofNat (Int.toNat (IntKind.wrap IntKind.u8 (bitsOp BinOp.and IntKind.i64 x (255 : Int)))),
                              UInt8.ofNat (Int.toNat (IntKind.wrap IntKind.u8 (Int.fdiv y ((2 : Int) ^ min (8 : Nat) (IntKind.bits IntKind.i64))))), UInt8.ofNat (Int.toNat (IntKind.wrap IntKind.u8 (bitsOp BinOp.and IntKind.i64 y (255 : Int))))])
                          true,
                        tB (Prod.snd (dShort b s))],
                      [RV.any, RV.any]))))))))
      (Tree.ite (decide (y > (65535 : Int))) (Tree.leaf ([tL (0 : Nat) [] true, tB false], [RV.any, RV.any]))
        (Tree.req (room (List.length b + (256 : Nat)))
          (Tree.req ((0 : Int) ≤ (8 : Int))
            (Tree.req ((0 : Int) ≤ (8 : Int))
              (Tree.req
                (((0 : Int) ≤ IntKind.wrap IntKind.u8 (Int.fdiv x ((2 : Int) ^ min (8 : Nat) (IntKind.bits IntKind.i64))) ∧ IntKind.wrap IntKind.u8 (Int.fdiv x ((2 : Int) ^ min (8 : Nat) (IntKind.bits IntKind.i64))) < (256 : LT.den kindA (LT.int IntKind.u8))) ∧
                  ((0 : Int) ≤ IntKind.wrap IntKind.u8 (bitsOp BinOp.and IntKind.i64 x (255 : Int)) ∧ IntKind.wrap IntKind.u8 (bitsOp BinOp.and IntKind.i64 x (255 : Int)) < (256 : LT.den kindA (LT.int IntKind.u8))) ∧
                    ((0 : Int) ≤ IntKind.wrap IntKind.u8 (Int.fdiv y ((2 : Int) ^ min (8 : Nat) (IntKind.bits IntKind.i64))) ∧ IntKind.wrap IntKind.u8 (Int.fdiv y ((2 : Int) ^ min (8 : Nat) (IntKind.bits IntKind.i64))) < (256 : LT.den kindA (LT.int IntKind.u8))) ∧
                      ((0 : Int) ≤ IntKind.wrap IntKind.u8 (bitsOp BinOp.and IntKind.i64 y (255 : Int)) ∧ IntKind.wrap IntKind.u8 (bitsOp BinOp.and IntKind.i64 y (255 : Int)) < (256 : LT.den kindA (LT.int IntKind.u8))) ∧ True)
                (Tree.req
                  ((List.length (Prod.fst (dShort b s)) +
                        List.length
                          [UInt8.ofNat (Int.toNat (IntKind.wrap IntKind.u8 (Int.fdiv x ((2 : Int) ^ min (8 : Nat) (IntKind.bits IntKind.i64))))), UInt8.ofNat (Int.toNat (IntKind.wrap IntKind.u8 (bitsOp BinOp.and IntKind.i64 x (255 : Int)))),
                            UInt8.ofNat (Int.toNat (IntKind.wrap IntKind.u8 (Int.fdiv y ((2 : Int) ^ min (8 : Nat) (IntKind.bits IntKind.i64))))), UInt8.ofNat (Int.toNat (IntKind.wrap IntKind.u8 (bitsOp BinOp.and IntKind.i64 y (255 : Int))))]) *
                      (1 : Nat) ≤
                    (140737488355328 : Nat))
                  (Tree.leaf
                    ([tL (0 : Nat)
                          (Prod.fst (dShort b s) ++
                            [UInt8.ofNat (Int.toNat (IntKind.wrap IntKind.u8 (Int.fdiv x ((2 : Int) ^ min (8 : Nat) (IntKind.bits IntKind.i64))))), UInt8.ofNat (Int.toNat (IntKind.wrap IntKind.u8 (bitsOp BinOp.and IntKind.i64 x (255 : Int)))),
                              UInt8.ofNat (Int.toNat (IntKind.wrap IntKind.u8 (Int.fdiv y ((2 : Int) ^ min (8 : Nat) (IntKind.bits IntKind.i64))))), UInt8.ofNat (Int.toNat (IntKind.wrap IntKind.u8 (bitsOp BinOp.and IntKind.i64 y (255 : Int))))])
                          true,
                        tB (Prod.snd (dShort b s))],
                      [RV.any, RV.any])))))))))
    (Tree.ite (decide (y < (0 : Int)))
      (Tree.ite true (Tree.leaf ([tL (0 : Nat) [] true, tB false], [RV.any, RV.any]))
        (Tree.req (room (List.length b + (256 : Nat)))
          (Tree.req ((0 : Int) ≤ (8 : Int))
            (Tree.req ((0 : Int) ≤ (8 : Int))
              (Tree.req
                (((0 : Int) ≤ IntKind.wrap IntKind.u8 (Int.fdiv x ((2 : Int) ^ min (8 : Nat) (IntKind.bits IntKind.i64))) ∧ IntKind.wrap IntKind.u8 (Int.fdiv x ((2 : Int) ^ min (8 : Nat) (IntKind.bits IntKind.i64))) < (256 : LT.den kindA (LT.int IntKind.u8))) ∧
                  ((0 : Int) ≤ IntKind.wrap IntKind.u8 (bitsOp BinOp.and IntKind.i64 x (255 : Int)) ∧ IntKind.wrap IntKind.u8 (bitsOp BinOp.and IntKind.i64 x (255 : Int)) < (256 : LT.den kindA (LT.int IntKind.u8))) ∧
                    ((0 : Int) ≤ IntKind.wrap IntKind.u8 (Int.fdiv y ((2 : Int) ^ min (8 : Nat) (IntKind.bits IntKind.i64))) ∧ IntKind.wrap IntKind.u8 (Int.fdiv y ((2 : Int) ^ min (8 : Nat) (IntKind.bits IntKind.i64))) < (256 : LT.den kindA (LT.int IntKind.u8))) ∧
                      ((0 : Int) ≤ IntKind.wrap IntKind.u8 (bitsOp BinOp.and IntKind.i64 y (255 : Int)) ∧ IntKind.wrap IntKind.u8 (bitsOp BinOp.and IntKind.i64 y (255 : Int)) < (256 : LT.den kindA (LT.int IntKind.u8))) ∧ True)
                (Tree.req
                  ((List.length (Prod.fst (dShort b s)) +
                        List.length
                          [UInt8.ofNat (Int.toNat (IntKind.wrap IntKind.u8 (Int.fdiv x ((2 : Int) ^ min (8 : Nat) (IntKind.bits IntKind.i64))))), UInt8.ofNat (Int.toNat (IntKind.wrap IntKind.u8 (bitsOp BinOp.and IntKind.i64 x (255 : Int)))),
                            UInt8.ofNat (Int.toNat (IntKind.wrap IntKind.u8 (Int.fdiv y ((2 : Int) ^ min (8 : Nat) (IntKind.bits IntKind.i64))))), UInt8.ofNat (Int.toNat (IntKind.wrap IntKind.u8 (bitsOp BinOp.and IntKind.i64 y (255 : Int))))]) *
                      (1 : Nat) ≤
                    (140737488355328 : Nat))
                  (Tree.leaf
                    ([tL (0 : Nat)
                          (Prod.fst (dShort b s) ++
                            [UInt8.ofNat (Int.toNat (IntKind.wrap IntKind.u8 (Int.fdiv x ((2 : Int) ^ min (8 : Nat) (IntKind.bits IntKind.i64))))), UInt8.ofNat (Int.toNat (IntKind.wrap IntKind.u8 (bitsOp BinOp.and IntKind.i64 x (255 : Int)))),
                              UInt8.ofNat (Int.toNat (IntKind.wrap IntKind.u8 (Int.fdiv y ((2 : Int) ^ min (8 : Nat) (IntKind.bits IntKind.i64))))), UInt8.ofNat (Int.toNat (IntKind.wrap IntKind.u8 (bitsOp BinOp.and IntKind.i64 y (255 : Int))))])
                          true,
                        tB (Prod.snd (dShort b s))],
                      [RV.any, RV.any]))))))))
      (Tree.ite (decide (y > (65535 : Int))) (Tree.leaf ([tL (0 : Nat) [] true, tB false], [RV.any, RV.any]))
        (Tree.req (room (List.length b + (256 : Nat)))
          (Tree.req ((0 : Int) ≤ (8 : Int))
            (Tree.req ((0 : Int) ≤ (8 : Int))
              (Tree.req
                (((0 : Int) ≤ IntKind.wrap IntKind.u8 (Int.fdiv x ((2 : Int) ^ min (8 : Nat) (IntKind.bits IntKind.i64))) ∧ IntKind.wrap IntKind.u8 (Int.fdiv x ((2 : Int) ^ min (8 : Nat) (IntKind.bits IntKind.i64))) < (256 : LT.den kindA (LT.int IntKind.u8))) ∧
                  ((0 : Int) ≤ IntKind.wrap IntKind.u8 (bitsOp BinOp.and IntKind.i64 x (255 : Int)) ∧ IntKind.wrap IntKind.u8 (bitsOp BinOp.and IntKind.i64 x (255 : Int)) < (256 : LT.den kindA (LT.int IntKind.u8))) ∧
                    ((0 : Int) ≤ IntKind.wrap IntKind.u8 (Int.fdiv y ((2 : Int) ^ min (8 : Nat) (IntKind.bits IntKind.i64))) ∧ IntKind.wrap IntKind.u8 (Int.fdiv y ((2 : Int) ^ min (8 : Nat) (IntKind.bits IntKind.i64))) < (256 : LT.den kindA (LT.int IntKind.u8))) ∧
                      ((0 : Int) ≤ IntKind.wrap IntKind.u8 (bitsOp BinOp.and IntKind.i64 y (255 : Int)) ∧ IntKind.wrap IntKind.u8 (bitsOp BinOp.and IntKind.i64 y (255 : Int)) < (256 : LT.den kindA (LT.int IntKind.u8))) ∧ True)
                (Tree.req
                  ((List.length (Prod.fst (dShort b s)) +
                        List.length
                          [UInt8.ofNat (Int.toNat (IntKind.wrap IntKind.u8 (Int.fdiv x ((2 : Int) ^ min (8 : Nat) (IntKind.bits IntKind.i64))))), UInt8.ofNat (Int.toNat (IntKind.wrap IntKind.u8 (bitsOp BinOp.and IntKind.i64 x (255 : Int)))),
                            UInt8.ofNat (Int.toNat (IntKind.wrap IntKind.u8 (Int.fdiv y ((2 : Int) ^ min (8 : Nat) (IntKind.bits IntKind.i64))))), UInt8.ofNat (Int.toNat (IntKind.wrap IntKind.u8 (bitsOp BinOp.and IntKind.i64 y (255 : Int))))]) *
                      (1 : Nat) ≤
                    (140737488355328 : Nat))
                  (Tree.leaf
                    ([tL (0 : Nat)
                          (Prod.fst (dShort b s) ++
                            [UInt8.ofNat (Int.toNat (IntKind.wrap IntKind.u8 (Int.fdiv x ((2 : Int) ^ min (8 : Nat) (IntKind.bits IntKind.i64))))), UInt8.ofNat (Int.toNat (IntKind.wrap IntKind.u8 (bitsOp BinOp.and IntKind.i64 x (255 : Int)))),
                              UInt8.ofNat (Int.toNat (IntKind.wrap IntKind.u8 (Int.fdiv y ((2 : Int) ^ min (8 : Nat) (IntKind.bits IntKind.i64))))), UInt8.ofNat (Int.toNat (IntKind.wrap IntKind.u8 (bitsOp BinOp.and IntKind.i64 y (255 : Int))))])
                          true,
                        tB (Prod.snd (dShort b s))],
                      [RV.any, RV.any])))))))))) := by kernel_rfl
def F : List TV' → Tree (List TV') := aBytesO fun b => aCell fun c => a0 (.req (room (b.length + 260)) (.leaf [tL 0 (dCell b c).1 true, tB (dCell b c).2]))
noncomputable abbrev S : Spec En := pureO [0] 2 F
theorem ok : SpecOk pr i_ref21_cell S := by
  refine pureO_ok (ctx := c) (cx_ok (.cons ref21_short.ok .nil) nil_ok) h_ref21_cell (by kernel_rfl) (no_loop (by kernel_rfl)) fun xs r h => ?_
  obtain ⟨b, _, rfl, g1⟩ := aBytesO_r h
  obtain ⟨⟨s, x, y⟩, _, rfl, g2⟩ := aCell_r g1
  obtain ⟨rfl, h0, rfl⟩ := a0_r g2
  unfold room at h0
  refine ⟨rfl, Tree.reach_of (fn_t b x y s) ?_⟩
  have hlen := dShort_len b s
  have no (h : dCellIn ⟨s, x, y⟩ = false) : dCell b ⟨s, x, y⟩ = ([], false) := by unfold dCell; rw [h]; rfl
  cases h1 : decide (x < 0) with
  | true => rw [no (by unfold dCellIn; dsimp only; rw [h1]; rfl)]; exact Tree.reach_tt (Tree.reach_tt (Tree.reach_tt (Tree.reach_tt rfl)))
  | false =>
  refine Tree.reach_ff ?_
  cases h2 : decide (x > 65535) with
  | true => rw [no (by unfold dCellIn; dsimp only; rw [h1, h2]; rfl)]; exact Tree.reach_tt (Tree.reach_tt (Tree.reach_tt rfl))
  | false =>
  refine Tree.reach_ff ?_
  cases h3 : decide (y < 0) with
  | true => rw [no (by unfold dCellIn; dsimp only; rw [h1, h2, h3]; rfl)]; exact Tree.reach_tt (Tree.reach_tt rfl)
  | false =>
  refine Tree.reach_ff ?_
  cases h4 : decide (y > 65535) with
  | true => rw [no (by unfold dCellIn; dsimp only; rw [h1, h2, h3, h4]; rfl)]; exact Tree.reach_tt rfl
  | false =>
  have e : dCell b ⟨s, x, y⟩ = ((dShort b s).1 ++ (be x 2 ++ be y 2), (dShort b s).2) := by
    unfold dCell
    have : dCellIn ⟨s, x, y⟩ = true := by unfold dCellIn; dsimp only; rw [h1, h2, h3, h4]; rfl
    rw [this]; rfl
  have k1 : ¬ x < 0 := by simpa using h1
  have k2 : ¬ x > 65535 := by simpa using h2
  have k3 : ¬ y < 0 := by simpa using h3
  have k4 : ¬ y > 65535 := by simpa using h4
  rw [e, be2 (x := x) (by omega) (by omega), be2 (x := y) (by omega) (by omega)]
  refine Tree.reach_ff (Tree.reach_req (by unfold room; omega) (Tree.reach_req (by omega) (Tree.reach_req (by omega) (Tree.reach_req ⟨u8ok _, u8ok _, u8ok _, u8ok _, trivial⟩ (Tree.reach_req ?_ rfl)))))
  simp only [List.length_cons, List.length_nil]; omega
end ref21_cell
namespace ref21_EditBytes
abbrev c := cx f_ref21_EditBytes [(i_ref21_short, ref21_short.S), (i_ref21_cell, ref21_cell.S)] [] []
theorem fn_t (k : Int) (a : Cell) (n t : List UInt8) (f g : Cell) : fnRun ref21_EditBytes.c f_ref21_EditBytes (codeOf f_ref21_EditBytes) [tEdit ⟨k, a, n, t, ⟨f, g⟩⟩] (anys 1) =
  Tree.ite (decide (k < (1 : Int)))
  (Tree.ite true (Tree.leaf ([tL (0 : Nat) [] true], [RV.any]))
    (Tree.req (((0 : Int) ≤ IntKind.wrap IntKind.u8 k ∧ IntKind.wrap IntKind.u8 k < (256 : LT.den kindA (LT.int IntKind.u8))) ∧ True)
      (Tree.ite (k == (1 : Int))
        (Tree.req (room (List.length [UInt8.ofNat (Int.toNat (IntKind.wrap IntKind.u8 k))] + (260 : Nat)))
          (Tree.req (room (List.length (Prod.fst (dCell [UInt8.ofNat (Int.toNat (IntKind.wrap IntKind.u8 k))] (Cell.mk (Cell.sheet a) (Cell.col a) (Cell.row a)))) + (256 : Nat)))
            (Tree.ite (!Prod.snd (dCell [UInt8.ofNat (Int.toNat (IntKind.wrap IntKind.u8 k))] (Cell.mk (Cell.sheet a) (Cell.col a) (Cell.row a))))
              (Tree.ite true (Tree.leaf ([tL (0 : Nat) [] true], [RV.any])) (Tree.leaf ([tL (0 : Nat) (Prod.fst (dShort (Prod.fst (dCell [UInt8.ofNat (Int.toNat (IntKind.wrap IntKind.u8 k))] (Cell.mk (Cell.sheet a) (Cell.col a) (Cell.row a)))) t)) false], [RV.any])))
              (Tree.ite (!Prod.snd (dShort (Prod.fst (dCell [UInt8.ofNat (Int.toNat (IntKind.wrap IntKind.u8 k))] (Cell.mk (Cell.sheet a) (Cell.col a) (Cell.row a)))) t)) (Tree.leaf ([tL (0 : Nat) [] true], [RV.any]))
                (Tree.leaf ([tL (0 : Nat) (Prod.fst (dShort (Prod.fst (dCell [UInt8.ofNat (Int.toNat (IntKind.wrap IntKind.u8 k))] (Cell.mk (Cell.sheet a) (Cell.col a) (Cell.row a)))) t)) false], [RV.any]))))))
        (Tree.ite (k == (2 : Int))
          (Tree.req (room (List.length [UInt8.ofNat (Int.toNat (IntKind.wrap IntKind.u8 k))] + (260 : Nat)))
            (Tree.ite (!Prod.snd (dCell [UInt8.ofNat (Int.toNat (IntKind.wrap IntKind.u8 k))] (Cell.mk (Cell.sheet a) (Cell.col a) (Cell.row a))))
              (Tree.ite true (Tree.leaf ([tL (0 : Nat) [] true], [RV.any])) (Tree.leaf ([tL (0 : Nat) (Prod.fst (dCell [UInt8.ofNat (Int.toNat (IntKind.wrap IntKind.u8 k))] (Cell.mk (Cell.sheet a) (Cell.col a) (Cell.row a)))) false], [RV.any])))
              (Tree.ite false (Tree.leaf ([tL (0 : Nat) [] true], [RV.any])) (Tree.leaf ([tL (0 : Nat) (Prod.fst (dCell [UInt8.ofNat (Int.toNat (IntKind.wrap IntKind.u8 k))] (Cell.mk (Cell.sheet a) (Cell.col a) (Cell.row a)))) false], [RV.any])))))
          (Tree.ite (k == (3 : Int))
            (Tree.ite (k == (3 : Int))
              (Tree.req (room (List.length [UInt8.ofNat (Int.toNat (IntKind.wrap IntKind.u8 k))] + (256 : Nat)))
                (Tree.ite (!Prod.snd (dShort [UInt8.ofNat (Int.toNat (IntKind.wrap IntKind.u8 k))] n)) (Tree.ite true (Tree.leaf ([tL (0 : Nat) [] true], [RV.any])) (Tree.leaf ([tL (0 : Nat) (Prod.fst (dShort [UInt8.ofNat (Int.toNat (IntKind.wrap IntKind.u8 k))] n)) false], [RV.any])))
                  (Tree.ite false (Tree.leaf ([tL (0 : Nat) [] true], [RV.any])) (Tree.leaf ([tL (0 : Nat) (Prod.fst (dShort [UInt8.ofNat (Int.toNat (IntKind.wrap IntKind.u8 k))] n)) false], [RV.any])))))
              (Tree.ite (k == (5 : Int))
                (Tree.req (room (List.length [UInt8.ofNat (Int.toNat (IntKind.wrap IntKind.u8 k))] + (256 : Nat)))
                  (Tree.req (room (List.length (Prod.fst (dShort [UInt8.ofNat (Int.toNat (IntKind.wrap IntKind.u8 k))] n)) + (256 : Nat)))
                    (Tree.ite (!Prod.snd (dShort [UInt8.ofNat (Int.toNat (IntKind.wrap IntKind.u8 k))] n))
                      (Tree.ite true (Tree.leaf ([tL (0 : Nat) [] true], [RV.any])) (Tree.leaf ([tL (0 : Nat) (Prod.fst (dShort (Prod.fst (dShort [UInt8.ofNat (Int.toNat (IntKind.wrap IntKind.u8 k))] n)) t)) false], [RV.any])))
                      (Tree.ite (!Prod.snd (dShort (Prod.fst (dShort [UInt8.ofNat (Int.toNat (IntKind.wrap IntKind.u8 k))] n)) t)) (Tree.leaf ([tL (0 : Nat) [] true], [RV.any]))
                        (Tree.leaf ([tL (0 : Nat) (Prod.fst (dShort (Prod.fst (dShort [UInt8.ofNat (Int.toNat (IntKind.wrap IntKind.u8 k))] n)) t)) false], [RV.any]))))))
                (Tree.ite (k == (8 : Int))
                  (Tree.req (room (List.length [UInt8.ofNat (Int.toNat (IntKind.wrap IntKind.u8 k))] + (260 : Nat)))
                    (Tree.req (room (List.length (Prod.fst (dCell [UInt8.ofNat (Int.toNat (IntKind.wrap IntKind.u8 k))] (Cell.mk (Cell.sheet f) (Cell.col f) (Cell.row f)))) + (260 : Nat)))
                      (Tree.ite (!Prod.snd (dCell [UInt8.ofNat (Int.toNat (IntKind.wrap IntKind.u8 k))] (Cell.mk (Cell.sheet f) (Cell.col f) (Cell.row f))))
                        (Tree.ite true (Tree.leaf ([tL (0 : Nat) [] true], [RV.any]))
                          (Tree.leaf ([tL (0 : Nat) (Prod.fst (dCell (Prod.fst (dCell [UInt8.ofNat (Int.toNat (IntKind.wrap IntKind.u8 k))] (Cell.mk (Cell.sheet f) (Cell.col f) (Cell.row f)))) (Cell.mk (Cell.sheet g) (Cell.col g) (Cell.row g)))) false], [RV.any])))
                        (Tree.ite (!Prod.snd (dCell (Prod.fst (dCell [UInt8.ofNat (Int.toNat (IntKind.wrap IntKind.u8 k))] (Cell.mk (Cell.sheet f) (Cell.col f) (Cell.row f)))) (Cell.mk (Cell.sheet g) (Cell.col g) (Cell.row g)))) (Tree.leaf ([tL (0 : Nat) [] true], [RV.any]))
                          (Tree.leaf ([tL (0 : Nat) (Prod.fst (dCell (Prod.fst (dCell [UInt8.ofNat (Int.toNat (IntKind.wrap IntKind.u8 k))] (Cell.mk (Cell.sheet f) (Cell.col f) (Cell.row f)))) (Cell.mk (Cell.sheet g) (Cell.col g) (Cell.row g)))) false], [RV.any]))))))
                  (Tree.ite false (Tree.leaf ([tL (0 : Nat) [] true], [RV.any])) (Tree.leaf ([tL (0 : Nat) [UInt8.ofNat (Int.toNat (IntKind.wrap IntKind.u8 k))] false], [RV.any]))))))
            (Tree.ite (k == (4 : Int))
              (Tree.req (room (List.length [UInt8.ofNat (Int.toNat (IntKind.wrap IntKind.u8 k))] + (256 : Nat)))
                (Tree.ite (!Prod.snd (dShort [UInt8.ofNat (Int.toNat (IntKind.wrap IntKind.u8 k))] n)) (Tree.ite true (Tree.leaf ([tL (0 : Nat) [] true], [RV.any])) (Tree.leaf ([tL (0 : Nat) (Prod.fst (dShort [UInt8.ofNat (Int.toNat (IntKind.wrap IntKind.u8 k))] n)) false], [RV.any])))
                  (Tree.ite false (Tree.leaf ([tL (0 : Nat) [] true], [RV.any])) (Tree.leaf ([tL (0 : Nat) (Prod.fst (dShort [UInt8.ofNat (Int.toNat (IntKind.wrap IntKind.u8 k))] n)) false], [RV.any])))))
              (Tree.ite (k == (5 : Int))
                (Tree.req (room (List.length [UInt8.ofNat (Int.toNat (IntKind.wrap IntKind.u8 k))] + (256 : Nat)))
                  (Tree.req (room (List.length (Prod.fst (dShort [UInt8.ofNat (Int.toNat (IntKind.wrap IntKind.u8 k))] n)) + (256 : Nat)))
                    (Tree.ite (!Prod.snd (dShort [UInt8.ofNat (Int.toNat (IntKind.wrap IntKind.u8 k))] n))
                      (Tree.ite true (Tree.leaf ([tL (0 : Nat) [] true], [RV.any])) (Tree.leaf ([tL (0 : Nat) (Prod.fst (dShort (Prod.fst (dShort [UInt8.ofNat (Int.toNat (IntKind.wrap IntKind.u8 k))] n)) t)) false], [RV.any])))
                      (Tree.ite (!Prod.snd (dShort (Prod.fst (dShort [UInt8.ofNat (Int.toNat (IntKind.wrap IntKind.u8 k))] n)) t)) (Tree.leaf ([tL (0 : Nat) [] true], [RV.any]))
                        (Tree.leaf ([tL (0 : Nat) (Prod.fst (dShort (Prod.fst (dShort [UInt8.ofNat (Int.toNat (IntKind.wrap IntKind.u8 k))] n)) t)) false], [RV.any]))))))
                (Tree.ite (k == (8 : Int))
                  (Tree.req (room (List.length [UInt8.ofNat (Int.toNat (IntKind.wrap IntKind.u8 k))] + (260 : Nat)))
                    (Tree.req (room (List.length (Prod.fst (dCell [UInt8.ofNat (Int.toNat (IntKind.wrap IntKind.u8 k))] (Cell.mk (Cell.sheet f) (Cell.col f) (Cell.row f)))) + (260 : Nat)))
                      (Tree.ite (!Prod.snd (dCell [UInt8.ofNat (Int.toNat (IntKind.wrap IntKind.u8 k))] (Cell.mk (Cell.sheet f) (Cell.col f) (Cell.row f))))
                        (Tree.ite true (Tree.leaf ([tL (0 : Nat) [] true], [RV.any]))
                          (Tree.leaf ([tL (0 : Nat) (Prod.fst (dCell (Prod.fst (dCell [UInt8.ofNat (Int.toNat (IntKind.wrap IntKind.u8 k))] (Cell.mk (Cell.sheet f) (Cell.col f) (Cell.row f)))) (Cell.mk (Cell.sheet g) (Cell.col g) (Cell.row g)))) false], [RV.any])))
                        (Tree.ite (!Prod.snd (dCell (Prod.fst (dCell [UInt8.ofNat (Int.toNat (IntKind.wrap IntKind.u8 k))] (Cell.mk (Cell.sheet f) (Cell.col f) (Cell.row f)))) (Cell.mk (Cell.sheet g) (Cell.col g) (Cell.row g)))) (Tree.leaf ([tL (0 : Nat) [] true], [RV.any]))
                          (Tree.leaf ([tL (0 : Nat) (Prod.fst (dCell (Prod.fst (dCell [UInt8.ofNat (Int.toNat (IntKind.wrap IntKind.u8 k))] (Cell.mk (Cell.sheet f) (Cell.col f) (Cell.row f)))) (Cell.mk (Cell.sheet g) (Cell.col g) (Cell.row g)))) false], [RV.any]))))))
                  (Tree.ite false (Tree.leaf ([tL (0 : Nat) [] true], [RV.any])) (Tree.leaf ([tL (0 : Nat) [UInt8.ofNat (Int.toNat (IntKind.wrap IntKind.u8 k))] false], [RV.any])))))))))))
  (Tree.ite (decide (k > (9 : Int))) (Tree.leaf ([tL (0 : Nat) [] true], [RV.any]))
    (Tree.req (((0 : Int) ≤ IntKind.wrap IntKind.u8 k ∧ IntKind.wrap IntKind.u8 k < (256 : LT.den kindA (LT.int IntKind.u8))) ∧ True)
      (Tree.ite (k == (1 : Int))
        (Tree.req (room (List.length [UInt8.ofNat (Int.toNat (IntKind.wrap IntKind.u8 k))] + (260 : Nat)))
          (Tree.req (room (List.length (Prod.fst (dCell [UInt8.ofNat (Int.toNat (IntKind.wrap IntKind.u8 k))] (Cell.mk (Cell.sheet a) (Cell.col a) (Cell.row a)))) + (256 : Nat)))
            (Tree.ite (!Prod.snd (dCell [UInt8.ofNat (Int.toNat (IntKind.wrap IntKind.u8 k))] (Cell.mk (Cell.sheet a) (Cell.col a) (Cell.row a))))
              (Tree.ite true (Tree.leaf ([tL (0 : Nat) [] true], [RV.any])) (Tree.leaf ([tL (0 : Nat) (Prod.fst (dShort (Prod.fst (dCell [UInt8.ofNat (Int.toNat (IntKind.wrap IntKind.u8 k))] (Cell.mk (Cell.sheet a) (Cell.col a) (Cell.row a)))) t)) false], [RV.any])))
              (Tree.ite (!Prod.snd (dShort (Prod.fst (dCell [UInt8.ofNat (Int.toNat (IntKind.wrap IntKind.u8 k))] (Cell.mk (Cell.sheet a) (Cell.col a) (Cell.row a)))) t)) (Tree.leaf ([tL (0 : Nat) [] true], [RV.any]))
                (Tree.leaf ([tL (0 : Nat) (Prod.fst (dShort (Prod.fst (dCell [UInt8.ofNat (Int.toNat (IntKind.wrap IntKind.u8 k))] (Cell.mk (Cell.sheet a) (Cell.col a) (Cell.row a)))) t)) false], [RV.any]))))))
        (Tree.ite (k == (2 : Int))
          (Tree.req (room (List.length [UInt8.ofNat (Int.toNat (IntKind.wrap IntKind.u8 k))] + (260 : Nat)))
            (Tree.ite (!Prod.snd (dCell [UInt8.ofNat (Int.toNat (IntKind.wrap IntKind.u8 k))] (Cell.mk (Cell.sheet a) (Cell.col a) (Cell.row a))))
              (Tree.ite true (Tree.leaf ([tL (0 : Nat) [] true], [RV.any])) (Tree.leaf ([tL (0 : Nat) (Prod.fst (dCell [UInt8.ofNat (Int.toNat (IntKind.wrap IntKind.u8 k))] (Cell.mk (Cell.sheet a) (Cell.col a) (Cell.row a)))) false], [RV.any])))
              (Tree.ite false (Tree.leaf ([tL (0 : Nat) [] true], [RV.any])) (Tree.leaf ([tL (0 : Nat) (Prod.fst (dCell [UInt8.ofNat (Int.toNat (IntKind.wrap IntKind.u8 k))] (Cell.mk (Cell.sheet a) (Cell.col a) (Cell.row a)))) false], [RV.any])))))
          (Tree.ite (k == (3 : Int))
            (Tree.ite (k == (3 : Int))
              (Tree.req (room (List.length [UInt8.ofNat (Int.toNat (IntKind.wrap IntKind.u8 k))] + (256 : Nat)))
                (Tree.ite (!Prod.snd (dShort [UInt8.ofNat (Int.toNat (IntKind.wrap IntKind.u8 k))] n)) (Tree.ite true (Tree.leaf ([tL (0 : Nat) [] true], [RV.any])) (Tree.leaf ([tL (0 : Nat) (Prod.fst (dShort [UInt8.ofNat (Int.toNat (IntKind.wrap IntKind.u8 k))] n)) false], [RV.any])))
                  (Tree.ite false (Tree.leaf ([tL (0 : Nat) [] true], [RV.any])) (Tree.leaf ([tL (0 : Nat) (Prod.fst (dShort [UInt8.ofNat (Int.toNat (IntKind.wrap IntKind.u8 k))] n)) false], [RV.any])))))
              (Tree.ite (k == (5 : Int))
                (Tree.req (room (List.length [UInt8.ofNat (Int.toNat (IntKind.wrap IntKind.u8 k))] + (256 : Nat)))
                  (Tree.req (room (List.length (Prod.fst (dShort [UInt8.ofNat (Int.toNat (IntKind.wrap IntKind.u8 k))] n)) + (256 : Nat)))
                    (Tree.ite (!Prod.snd (dShort [UInt8.ofNat (Int.toNat (IntKind.wrap IntKind.u8 k))] n))
                      (Tree.ite true (Tree.leaf ([tL (0 : Nat) [] true], [RV.any])) (Tree.leaf ([tL (0 : Nat) (Prod.fst (dShort (Prod.fst (dShort [UInt8.ofNat (Int.toNat (IntKind.wrap IntKind.u8 k))] n)) t)) false], [RV.any])))
                      (Tree.ite (!Prod.snd (dShort (Prod.fst (dShort [UInt8.ofNat (Int.toNat (IntKind.wrap IntKind.u8 k))] n)) t)) (Tree.leaf ([tL (0 : Nat) [] true], [RV.any]))
                        (Tree.leaf ([tL (0 : Nat) (Prod.fst (dShort (Prod.fst (dShort [UInt8.ofNat (Int.toNat (IntKind.wrap IntKind.u8 k))] n)) t)) false], [RV.any]))))))
                (Tree.ite (k == (8 : Int))
                  (Tree.req (room (List.length [UInt8.ofNat (Int.toNat (IntKind.wrap IntKind.u8 k))] + (260 : Nat)))
                    (Tree.req (room (List.length (Prod.fst (dCell [UInt8.ofNat (Int.toNat (IntKind.wrap IntKind.u8 k))] (Cell.mk (Cell.sheet f) (Cell.col f) (Cell.row f)))) + (260 : Nat)))
                      (Tree.ite (!Prod.snd (dCell [UInt8.ofNat (Int.toNat (IntKind.wrap IntKind.u8 k))] (Cell.mk (Cell.sheet f) (Cell.col f) (Cell.row f))))
                        (Tree.ite true (Tree.leaf ([tL (0 : Nat) [] true], [RV.any]))
                          (Tree.leaf ([tL (0 : Nat) (Prod.fst (dCell (Prod.fst (dCell [UInt8.ofNat (Int.toNat (IntKind.wrap IntKind.u8 k))] (Cell.mk (Cell.sheet f) (Cell.col f) (Cell.row f)))) (Cell.mk (Cell.sheet g) (Cell.col g) (Cell.row g)))) false], [RV.any])))
                        (Tree.ite (!Prod.snd (dCell (Prod.fst (dCell [UInt8.ofNat (Int.toNat (IntKind.wrap IntKind.u8 k))] (Cell.mk (Cell.sheet f) (Cell.col f) (Cell.row f)))) (Cell.mk (Cell.sheet g) (Cell.col g) (Cell.row g)))) (Tree.leaf ([tL (0 : Nat) [] true], [RV.any]))
                          (Tree.leaf ([tL (0 : Nat) (Prod.fst (dCell (Prod.fst (dCell [UInt8.ofNat (Int.toNat (IntKind.wrap IntKind.u8 k))] (Cell.mk (Cell.sheet f) (Cell.col f) (Cell.row f)))) (Cell.mk (Cell.sheet g) (Cell.col g) (Cell.row g)))) false], [RV.any]))))))
                  (Tree.ite false (Tree.leaf ([tL (0 : Nat) [] true], [RV.any])) (Tree.leaf ([tL (0 : Nat) [UInt8.ofNat (Int.toNat (IntKind.wrap IntKind.u8 k))] false], [RV.any]))))))
            (Tree.ite (k == (4 : Int))
              (Tree.req (room (List.length [UInt8.ofNat (Int.toNat (IntKind.wrap IntKind.u8 k))] + (256 : Nat)))
                (Tree.ite (!Prod.snd (dShort [UInt8.ofNat (Int.toNat (IntKind.wrap IntKind.u8 k))] n)) (Tree.ite true (Tree.leaf ([tL (0 : Nat) [] true], [RV.any])) (Tree.leaf ([tL (0 : Nat) (Prod.fst (dShort [UInt8.ofNat (Int.toNat (IntKind.wrap IntKind.u8 k))] n)) false], [RV.any])))
                  (Tree.ite false (Tree.leaf ([tL (0 : Nat) [] true], [RV.any])) (Tree.leaf ([tL (0 : Nat) (Prod.fst (dShort [UInt8.ofNat (Int.toNat (IntKind.wrap IntKind.u8 k))] n)) false], [RV.any])))))
              (Tree.ite (k == (5 : Int))
                (Tree.req (room (List.length [UInt8.ofNat (Int.toNat (IntKind.wrap IntKind.u8 k))] + (256 : Nat)))
                  (Tree.req (room (List.length (Prod.fst (dShort [UInt8.ofNat (Int.toNat (IntKind.wrap IntKind.u8 k))] n)) + (256 : Nat)))
                    (Tree.ite (!Prod.snd (dShort [UInt8.ofNat (Int.toNat (IntKind.wrap IntKind.u8 k))] n))
                      (Tree.ite true (Tree.leaf ([tL (0 : Nat) [] true], [RV.any])) (Tree.leaf ([tL (0 : Nat) (Prod.fst (dShort (Prod.fst (dShort [UInt8.ofNat (Int.toNat (IntKind.wrap IntKind.u8 k))] n)) t)) false], [RV.any])))
                      (Tree.ite (!Prod.snd (dShort (Prod.fst (dShort [UInt8.ofNat (Int.toNat (IntKind.wrap IntKind.u8 k))] n)) t)) (Tree.leaf ([tL (0 : Nat) [] true], [RV.any]))
                        (Tree.leaf ([tL (0 : Nat) (Prod.fst (dShort (Prod.fst (dShort [UInt8.ofNat (Int.toNat (IntKind.wrap IntKind.u8 k))] n)) t)) false], [RV.any]))))))
                (Tree.ite (k == (8 : Int))
                  (Tree.req (room (List.length [UInt8.ofNat (Int.toNat (IntKind.wrap IntKind.u8 k))] + (260 : Nat)))
                    (Tree.req (room (List.length (Prod.fst (dCell [UInt8.ofNat (Int.toNat (IntKind.wrap IntKind.u8 k))] (Cell.mk (Cell.sheet f) (Cell.col f) (Cell.row f)))) + (260 : Nat)))
                      (Tree.ite (!Prod.snd (dCell [UInt8.ofNat (Int.toNat (IntKind.wrap IntKind.u8 k))] (Cell.mk (Cell.sheet f) (Cell.col f) (Cell.row f))))
                        (Tree.ite true (Tree.leaf ([tL (0 : Nat) [] true], [RV.any]))
                          (Tree.leaf ([tL (0 : Nat) (Prod.fst (dCell (Prod.fst (dCell [UInt8.ofNat (Int.toNat (IntKind.wrap IntKind.u8 k))] (Cell.mk (Cell.sheet f) (Cell.col f) (Cell.row f)))) (Cell.mk (Cell.sheet g) (Cell.col g) (Cell.row g)))) false], [RV.any])))
                        (Tree.ite (!Prod.snd (dCell (Prod.fst (dCell [UInt8.ofNat (Int.toNat (IntKind.wrap IntKind.u8 k))] (Cell.mk (Cell.sheet f) (Cell.col f) (Cell.row f)))) (Cell.mk (Cell.sheet g) (Cell.col g) (Cell.row g)))) (Tree.leaf ([tL (0 : Nat) [] true], [RV.any]))
                          (Tree.leaf ([tL (0 : Nat) (Prod.fst (dCell (Prod.fst (dCell [UInt8.ofNat (Int.toNat (IntKind.wrap IntKind.u8 k))] (Cell.mk (Cell.sheet f) (Cell.col f) (Cell.row f)))) (Cell.mk (Cell.sheet g) (Cell.col g) (Cell.row g)))) false], [RV.any]))))))
                  (Tree.ite false (Tree.leaf ([tL (0 : Nat) [] true], [RV.any])) (Tree.leaf ([tL (0 : Nat) [UInt8.ofNat (Int.toNat (IntKind.wrap IntKind.u8 k))] false], [RV.any]))))))))))) := by kernel_rfl
def F : List TV' → Tree (List TV') := aEdit fun e => a0 (.leaf [tL 0 (dEdit e) false])
noncomputable abbrev S : Spec En := pureSpec 1 F
theorem fin (z : List UInt8) (p q : Bool) : (Tree.ite (!p) (.ite true (.leaf ([tL 0 [] true], [RV.any])) (.leaf ([tL 0 z false], [RV.any]))) (.ite (!q) (.leaf ([tL 0 [] true], [RV.any])) (.leaf ([tL 0 z false], [RV.any]))) : Tree (List TV' × List RV')).reach
    ([tL 0 (bif !p || !q then [] else z) (!p || !q)], [RV.any]) := by
  cases p
  · exact Tree.reach_tt (Tree.reach_tt rfl)
  · cases q
    · exact Tree.reach_ff (Tree.reach_tt rfl)
    · exact Tree.reach_ff (Tree.reach_ff rfl)
theorem ok : SpecOk pr i_ref21_EditBytes S := by
  have h0 : SpecOk pr i_ref21_EditBytes (pureSpec (E := En) 1 (aEdit fun e => a0 (.leaf [tL 0 (dEdit e) (dEditO e)]))) := by
    refine pureOk (ctx := c) (cx_ok (.cons ref21_short.ok (.cons ref21_cell.ok .nil)) nil_ok) mixed h_ref21_EditBytes (by kernel_rfl) (no_loop (by kernel_rfl)) (by kernel_rfl) fun xs r h => ?_
    obtain ⟨⟨k, a, n, t, ⟨f, g⟩⟩, _, rfl, g1⟩ := aEdit_r h
    obtain ⟨rfl, rfl⟩ := a0_r g1
    refine ⟨rfl, Tree.reach_of (fn_t k a n t f g) ?_⟩
    have l0 (c : Cell) := dCell_len [bt k] c
    have l1 (s : List UInt8) := dShort_len [bt k] s
    simp only [List.length_singleton] at l0 l1
    have q0 : room (List.length [bt k] + 260) := by unfold room; simp
    have q1 : room (List.length [bt k] + 256) := by unfold room; simp
    have l0 (c : Cell) (m : Nat) (hm : m ≤ 260) : room (List.length (dCell [bt k] c).1 + m) := by have := l0 c; unfold room; omega
    have l1 (s : List UInt8) : room (List.length (dShort [bt k] s).1 + 256) := by have := l1 s; unfold room; omega
    unfold dEdit dEditO dEditOf
    dsimp only
    cases hlo : decide (k < 1) with
    | true => exact Tree.reach_tt (Tree.reach_tt rfl)
    | false =>
    refine Tree.reach_ff ?_
    cases hhi : decide (k > 9) with
    | true => exact Tree.reach_tt rfl
    | false =>
    refine Tree.reach_ff (Tree.reach_req ⟨u8ok _, trivial⟩ ?_)
    cases h1 : (k == (1 : Int)) with
    | true => exact Tree.reach_tt (Tree.reach_req q0 (Tree.reach_req (l0 _ _ (by omega)) (fin _ _ _)))
    | false =>
    refine Tree.reach_ff ?_
    cases h2 : (k == (2 : Int)) with
    | true => exact Tree.reach_tt (Tree.reach_req q0 (fin _ _ true))
    | false =>
    refine Tree.reach_ff ?_
    cases h3 : (k == (3 : Int)) with
    | true => exact Tree.reach_tt (Tree.reach_tt (Tree.reach_req q1 (fin _ _ true)))
    | false =>
    refine Tree.reach_ff ?_
    cases h4 : (k == (4 : Int)) with
    | true => exact Tree.reach_tt (Tree.reach_req q1 (fin _ _ true))
    | false =>
    refine Tree.reach_ff ?_
    cases h5 : (k == (5 : Int)) with
    | true => exact Tree.reach_tt (Tree.reach_req q1 (Tree.reach_req (l1 _) (fin _ _ _)))
    | false =>
    refine Tree.reach_ff ?_
    cases h8 : (k == (8 : Int)) with
    | true => exact Tree.reach_tt (Tree.reach_req q0 (Tree.reach_req (l0 _ _ (by omega)) (fin _ _ _)))
    | false => exact Tree.reach_ff (Tree.reach_ff rfl)
  refine pureUn h0 fun xs rs h => ?_
  obtain ⟨e, _, rfl, g1⟩ := aEdit_r h
  obtain ⟨rfl, rfl⟩ := a0_r g1
  exact ⟨_, rfl, rfl, by simp, by intro x hx; simp at hx; subst hx; rfl⟩
end ref21_EditBytes
end Go.Rf
end
end
section
set_option linter.unusedSimpArgs false
set_option linter.unusedVariables false
noncomputable section
namespace Go.Rf
open Go.Proofs
set_option maxRecDepth 100000
namespace frame_reader_take
abbrev c := cx f_frame_reader_take [] [] []
theorem fn_t (n : Int) (w : BF) : fnRun frame_reader_take.c f_frame_reader_take (codeOf f_frame_reader_take) [tP 0 0, tI n] [stV t_frame_reader false w, .any] =
  Tree.ite (Prod.snd w)
  (Tree.ite true (Tree.leaf ([tL (0 : Nat) [] true], [RV.blk t_frame_reader [(Leaf.mk (LT.sl (0 : Nat)) [], true), (Leaf.mk LT.bool true, false)], RV.any]))
    (Tree.req ((0 : Int) ≤ (0 : Int) ∧ (0 : Int) ≤ n ∧ n ≤ (↑(List.length (Prod.fst w)) : Int))
      (Tree.req ((0 : Int) ≤ n ∧ n ≤ (↑(List.length (Prod.fst w)) : Int) ∧ (↑(List.length (Prod.fst w)) : Int) ≤ (↑(List.length (Prod.fst w)) : Int))
        (Tree.leaf ([tL (0 : Nat) (List.drop (0 : Nat) (List.take (Int.toNat n) (Prod.fst w))) false], [RV.blk t_frame_reader [(Leaf.mk (LT.sl (0 : Nat)) (List.drop (Int.toNat n) (List.take (List.length (Prod.fst w)) (Prod.fst w))), false), (Leaf.mk LT.bool (Prod.snd w), false)], RV.any])))))
  (Tree.ite (decide (n > (↑(List.length (Prod.fst w)) : Int))) (Tree.leaf ([tL (0 : Nat) [] true], [RV.blk t_frame_reader [(Leaf.mk (LT.sl (0 : Nat)) [], true), (Leaf.mk LT.bool true, false)], RV.any]))
    (Tree.req ((0 : Int) ≤ (0 : Int) ∧ (0 : Int) ≤ n ∧ n ≤ (↑(List.length (Prod.fst w)) : Int))
      (Tree.req ((0 : Int) ≤ n ∧ n ≤ (↑(List.length (Prod.fst w)) : Int) ∧ (↑(List.length (Prod.fst w)) : Int) ≤ (↑(List.length (Prod.fst w)) : Int))
        (Tree.leaf ([tL (0 : Nat) (List.drop (0 : Nat) (List.take (Int.toNat n) (Prod.fst w))) false], [RV.blk t_frame_reader [(Leaf.mk (LT.sl (0 : Nat)) (List.drop (Int.toNat n) (List.take (List.length (Prod.fst w)) (Prod.fst w))), false), (Leaf.mk LT.bool (Prod.snd w), false)], RV.any]))))) := by kernel_rfl
def F (w : BF) : List TV' → Tree (List TV' × BF) := aP 0 (aI fun n => a0 (.req (0 ≤ n) (.leaf ([tL 0 (rTake w n.toNat).1 false], (rTake w n.toNat).2))))
abbrev S : Spec En := stSpec t_frame_reader false 1 F
theorem ok : SpecOk pr i_frame_reader_take S := by
  refine stOkU (ctx := c) (cx_ok nil_ok nil_ok) h_frame_reader_take (by kernel_rfl) (no_loop (by kernel_rfl)) fun w xs rs w' h => ?_
  obtain ⟨xs, rfl, g1⟩ := aP_r h
  obtain ⟨n, _, rfl, g2⟩ := aI_r g1
  obtain ⟨rfl, h0, g⟩ := a0_r g2
  obtain ⟨rfl, rfl⟩ := Prod.mk.inj g
  refine ⟨rfl, Tree.ex_of (fn_t n w) ?_⟩
  obtain ⟨ys, b⟩ := w
  obtain ⟨k, rfl⟩ := Int.eq_ofNat_of_zero_le h0
  unfold rTake
  have e : decide ((k : Int) > (List.length ys : Int)) = decide (ys.length < k) := by congr 1; exact propext ⟨fun h => by omega, fun h => by omega⟩
  cases b with
  | true => exact Tree.ex_tt (Tree.ex_tt (Tree.ex_leaf ⟨rfl, rfl⟩))
  | false =>
  refine Tree.ex_ff ?_
  rw [e]
  simp only [Int.toNat_natCast]
  cases h1 : decide (ys.length < k) with
  | true => exact Tree.ex_tt (Tree.ex_leaf ⟨rfl, rfl⟩)
  | false =>
    have h2 : ¬ ys.length < k := by simpa using h1
    refine Tree.ex_ff (Tree.ex_req (by omega) (Tree.ex_req (by omega) (Tree.ex_leaf ⟨rfl, ?_⟩)))
    have e3 : (ys.take ys.length).drop k = ys.drop k := by rw [List.take_length]
    exact congrArg (fun z : List UInt8 => [stV t_frame_reader false (z, false), RV.any]) e3.symm
end frame_reader_take
namespace frame_reader_number
def L0 : LoopSum En := ⟨[5, 10, 12, 11, 1000000], rI fun n => rBytes fun b => rI fun i => rI fun l => rSt t_frame_reader false fun w => r0 (.req (0 ≤ i ∧ i ≤ b.length ∧ l = b.length ∧ b.length ≤ 6 ∧ n = numOf 0 (b.take i.toNat))
  (.leaf (.normal, [vI (numOf 0 b), .any, .any, .any, stV t_frame_reader false w])))⟩
abbrev c := cx f_frame_reader_number [(i_frame_reader_take, frame_reader_take.S)] [] [(0, L0)]
theorem body_t (n i l : Int) (b : List UInt8) (w : BF) : bodyRun frame_reader_number.c [5, 10, 12, 11, 1000000] (lb (codeOf f_frame_reader_number) 0) [vI n, vL 0 b false, vI i, vI l, stV t_frame_reader false w] =
  Tree.ite (decide (i < l))
  (Tree.req ((0 : Int) ≤ i ∧ i < (↑(List.length b) : Int))
    (Tree.req ((0 : Int) ≤ (8 : Int))
      (Tree.leaf
        (Ex.normal,
          [vI (bitsOp BinOp.or IntKind.i64 (IntKind.wrap IntKind.i64 (n * (2 : Int) ^ min (8 : Nat) (IntKind.bits IntKind.i64))) (IntKind.wrap IntKind.i64 (↑(UInt8.toNat (List.getD b (Int.toNat i) (Env.dflt En (0 : Nat)))) : Int))), vL (0 : Nat) b false,
            vI (IntKind.wrap IntKind.i64 (i + (1 : Int))), vI l, RV.blk t_frame_reader [(Leaf.mk (LT.sl (0 : Nat)) (Prod.fst w), false), (Leaf.mk LT.bool (Prod.snd w), false)]]))))
  (Tree.leaf (Ex.exit (0 : Nat), [vI n, vL (0 : Nat) b false, vI i, vI l, RV.blk t_frame_reader [(Leaf.mk (LT.sl (0 : Nat)) (Prod.fst w), false), (Leaf.mk LT.bool (Prod.snd w), false)]])) := by kernel_rfl
theorem fn_t (n : Int) (w : BF) : fnRun frame_reader_number.c f_frame_reader_number (codeOf f_frame_reader_number) [tP 0 0, tI n] [stV t_frame_reader false w, .any] =
  Tree.req ((0 : Int) ≤ n)
  (Tree.req
    ((0 : Int) ≤ (0 : Int) ∧
      (0 : Int) ≤ (↑(List.length (Prod.fst (rTake w (Int.toNat n)))) : Int) ∧
        (↑(List.length (Prod.fst (rTake w (Int.toNat n)))) : Int) = (↑(List.length (Prod.fst (rTake w (Int.toNat n)))) : Int) ∧ List.length (Prod.fst (rTake w (Int.toNat n))) ≤ (6 : Nat) ∧ (0 : Int) = (↑(numOf (0 : Nat) (List.take (0 : Nat) (Prod.fst (rTake w (Int.toNat n))))) : Int))
    (Tree.leaf ([tI (↑(numOf (0 : Nat) (Prod.fst (rTake w (Int.toNat n)))) : Int)], [RV.blk t_frame_reader [(Leaf.mk (LT.sl (0 : Nat)) (Prod.fst (Prod.snd (rTake w (Int.toNat n)))), false), (Leaf.mk LT.bool (Prod.snd (Prod.snd (rTake w (Int.toNat n)))), false)], RV.any]))) := by kernel_rfl
theorem cok : CtxOk pr c := cx_ok (.cons frame_reader_take.ok .nil) nil_ok
theorem L0_ok : LoopOk pr c 0 (lb (codeOf f_frame_reader_number) 0) L0 := by
  refine loopOk2 cok mixed (no_loop (by kernel_rfl)) (fun vs => match vs with | [_, .v (.leaf ⟨.sl 0, b⟩ _), .v (.leaf ⟨.int .i64, i⟩ _), _, _] => List.length b - i.toNat | _ => 0) fun vs r h => ?_
  obtain ⟨n, _, rfl, g1⟩ := rI_r h
  obtain ⟨b, _, rfl, g2⟩ := rBytes_r g1
  obtain ⟨i, _, rfl, g3⟩ := rI_r g2
  obtain ⟨l, _, rfl, g4⟩ := rI_r g3
  obtain ⟨w, _, rfl, g5⟩ := rSt_r g4
  obtain ⟨rfl, ⟨h0, h1, rfl, h2, rfl⟩, rfl⟩ := r0_r g5
  clear g1 g2 g3 g4 g5 h
  obtain ⟨k, rfl⟩ := Int.eq_ofNat_of_zero_le h0
  have hb := body_t (numOf 0 (b.take k)) k b.length b w
  simp only [Int.toNat_natCast] at hb ⊢
  rw [wrap_i64 (x := (k : Int) + 1) (by omega) (by omega)] at hb
  by_cases lt : k < b.length
  · have hn := numOf_le (b := b.take k) (k := 6) (by rw [List.length_take]; omega)
    have hs := numOf_take lt (Env.dflt En 0)
    generalize hx : List.getD b k (Env.dflt En 0) = x at hb
    replace hs : numOf 0 (b.take k) * 256 + UInt8.toNat x = numOf 0 (b.take (k + 1)) := by rw [← hx]; exact hs.symm
    have hc : UInt8.toNat x < 256 := UInt8.toNat_lt _
    rw [or256 (by omega) hc, hs] at hb
    refine ⟨(.normal, [vI (numOf 0 (b.take (k + 1))), vL 0 b false, vI ((k + 1 : Nat) : Int), vI b.length, stV t_frame_reader false w]), Tree.reach_of hb ?_, onward2 ⟨?_, ⟨by omega, by omega, rfl, h2, ?_⟩, rfl⟩⟩
    · exact Tree.reach_ite (fun _ => Tree.reach_req (by omega) (Tree.reach_req (by omega) rfl)) fun hx => by simp at hx; omega
    · show b.length - (k + 1) < b.length - k; omega
    · rw [Int.toNat_natCast]
  · refine ⟨(.exit 0, [vI (numOf 0 (b.take k)), vL 0 b false, vI k, vI b.length, stV t_frame_reader false w]), Tree.reach_of hb (Tree.reach_ite (fun hx => by simp at hx; omega) fun _ => rfl), onw_exit ⟨?_, wkV, wkV, wkV, wkE, trivial⟩⟩
    rw [List.take_of_length_le (by omega)]
    exact wkE
def F (w : BF) : List TV' → Tree (List TV' × BF) := aP 0 (aI fun n => a0 (.req (0 ≤ n ∧ n ≤ 6) (.leaf ([tI (numOf 0 (rTake w n.toNat).1)], (rTake w n.toNat).2))))
abbrev S : Spec En := stSpec t_frame_reader false 1 F
theorem ok : SpecOk pr i_frame_reader_number S := by
  refine stOk (ctx := c) cok h_frame_reader_number (by kernel_rfl) (one_loop (by kernel_rfl) (by kernel_rfl) L0_ok) fun w xs rs w' h => ?_
  obtain ⟨xs, rfl, g1⟩ := aP_r h
  obtain ⟨n, _, rfl, g2⟩ := aI_r g1
  obtain ⟨rfl, ⟨h0, h1⟩, g⟩ := a0_r g2
  obtain ⟨rfl, rfl⟩ := Prod.mk.inj g
  have := rTake_len w n.toNat
  exact ⟨rfl, Tree.reach_of (fn_t n w) (Tree.reach_req h0 (Tree.reach_req ⟨by omega, by omega, rfl, by omega, by rfl⟩ rfl))⟩
end frame_reader_number
namespace frame_reader_short
abbrev c := cx f_frame_reader_short [(i_frame_reader_take, frame_reader_take.S), (i_frame_reader_number, frame_reader_number.S)] [] []
theorem fn_t (w : BF) : fnRun frame_reader_short.c f_frame_reader_short (codeOf f_frame_reader_short) [tP 0 0] [stV t_frame_reader false w] =
  Tree.req ((0 : Int) ≤ (1 : Int) ∧ (1 : Int) ≤ (6 : Int))
  (Tree.req ((0 : Int) ≤ (↑(numOf (0 : Nat) (Prod.fst (rTake w (1 : Nat)))) : Int))
    (Tree.leaf
      ([tS (Prod.fst (rTake (Prod.snd (rTake w (1 : Nat))) (numOf (0 : Nat) (Prod.fst (rTake w (1 : Nat))))))],
        [RV.blk t_frame_reader
            [(Leaf.mk (LT.sl (0 : Nat)) (Prod.fst (Prod.snd (rTake (Prod.snd (rTake w (1 : Nat))) (numOf (0 : Nat) (Prod.fst (rTake w (1 : Nat))))))), false), (Leaf.mk LT.bool (Prod.snd (Prod.snd (rTake (Prod.snd (rTake w (1 : Nat))) (numOf (0 : Nat) (Prod.fst (rTake w (1 : Nat))))))), false)]]))) := by kernel_rfl
def F (w : BF) : List TV' → Tree (List TV' × BF) := aP 0 (a0 (.leaf ([tS (rShort w).1], (rShort w).2)))
abbrev S : Spec En := stSpec t_frame_reader false 0 F
theorem ok : SpecOk pr i_frame_reader_short S := by
  refine stOk (ctx := c) (cx_ok (.cons frame_reader_take.ok (.cons frame_reader_number.ok .nil)) nil_ok) h_frame_reader_short (by kernel_rfl) (no_loop (by kernel_rfl)) fun w xs rs w' h => ?_
  obtain ⟨xs, rfl, g1⟩ := aP_r h
  obtain ⟨rfl, g⟩ := a0_r g1
  obtain ⟨rfl, rfl⟩ := Prod.mk.inj g
  exact ⟨rfl, Tree.reach_of (fn_t w) (Tree.reach_req ⟨by omega, by omega⟩ (Tree.reach_req (by omega) rfl))⟩
end frame_reader_short
namespace frame_reader_cell
abbrev c := cx f_frame_reader_cell [(i_frame_reader_short, frame_reader_short.S), (i_frame_reader_number, frame_reader_number.S)] [] []
theorem fn_t (w : BF) : fnRun frame_reader_cell.c f_frame_reader_cell (codeOf f_frame_reader_cell) [tP 0 0] [stV t_frame_reader false w] =
  Tree.req ((0 : Int) ≤ (2 : Int) ∧ (2 : Int) ≤ (6 : Int))
  (Tree.req ((0 : Int) ≤ (2 : Int) ∧ (2 : Int) ≤ (6 : Int))
    (Tree.leaf
      ([TV.agg [Leaf.mk LT.str (Prod.fst (rShort w)), Leaf.mk (LT.int IntKind.i64) (↑(numOf (0 : Nat) (Prod.fst (rTake (Prod.snd (rShort w)) (2 : Nat)))) : Int), Leaf.mk (LT.int IntKind.i64) (↑(numOf (0 : Nat) (Prod.fst (rTake (Prod.snd (rTake (Prod.snd (rShort w)) (2 : Nat))) (2 : Nat)))) : Int)]],
        [RV.blk t_frame_reader [(Leaf.mk (LT.sl (0 : Nat)) (Prod.fst (Prod.snd (rTake (Prod.snd (rTake (Prod.snd (rShort w)) (2 : Nat))) (2 : Nat)))), false), (Leaf.mk LT.bool (Prod.snd (Prod.snd (rTake (Prod.snd (rTake (Prod.snd (rShort w)) (2 : Nat))) (2 : Nat)))), false)]]))) := by kernel_rfl
def F (w : BF) : List TV' → Tree (List TV' × BF) := aP 0 (a0 (.leaf ([tCell (rdCell w).1], (rdCell w).2)))
abbrev S : Spec En := stSpec t_frame_reader false 0 F
theorem ok : SpecOk pr i_frame_reader_cell S := by
  refine stOk (ctx := c) (cx_ok (.cons frame_reader_short.ok (.cons frame_reader_number.ok .nil)) nil_ok) h_frame_reader_cell (by kernel_rfl) (no_loop (by kernel_rfl)) fun w xs rs w' h => ?_
  obtain ⟨xs, rfl, g1⟩ := aP_r h
  obtain ⟨rfl, g⟩ := a0_r g1
  obtain ⟨rfl, rfl⟩ := Prod.mk.inj g
  exact ⟨rfl, Tree.reach_of (fn_t w) (Tree.reach_req ⟨by omega, by omega⟩ (Tree.reach_req ⟨by omega, by omega⟩ rfl))⟩
end frame_reader_cell
namespace frame_reader_ended
abbrev c := cx f_frame_reader_ended [] [] []
theorem fn_t (w : BF) : fnRun frame_reader_ended.c f_frame_reader_ended (codeOf f_frame_reader_ended) [tP 0 0] [stV t_frame_reader false w] =
  Tree.ite (!Prod.snd w) (Tree.leaf ([tB ((↑(List.length (Prod.fst w)) : Int) == (0 : Int))], [RV.blk t_frame_reader [(Leaf.mk (LT.sl (0 : Nat)) (Prod.fst w), false), (Leaf.mk LT.bool (Prod.snd w), false)]]))
  (Tree.leaf ([tB false], [RV.blk t_frame_reader [(Leaf.mk (LT.sl (0 : Nat)) (Prod.fst w), false), (Leaf.mk LT.bool (Prod.snd w), false)]])) := by kernel_rfl
def F (w : BF) : List TV' → Tree (List TV' × BF) := aP 0 (a0 (.leaf ([tB (rEnded w)], w)))
abbrev S : Spec En := stSpec t_frame_reader false 0 F
theorem ok : SpecOk pr i_frame_reader_ended S := by
  refine stOk (ctx := c) (cx_ok nil_ok nil_ok) h_frame_reader_ended (by kernel_rfl) (no_loop (by kernel_rfl)) fun w xs rs w' h => ?_
  obtain ⟨xs, rfl, g1⟩ := aP_r h
  obtain ⟨rfl, g⟩ := a0_r g1
  obtain ⟨rfl, rfl⟩ := Prod.mk.inj g
  obtain ⟨ys, b⟩ := w'
  refine ⟨rfl, Tree.reach_of (fn_t (ys, b)) ?_⟩
  cases b with
  | true => exact Tree.reach_ff rfl
  | false => exact Tree.reach_tt rfl
end frame_reader_ended
namespace value_Right
abbrev c := cx f_value_Right [] [] []
theorem fn_t (k n : Int) (s : List UInt8) : fnRun value_Right.c f_value_Right (codeOf f_value_Right) [tVal ⟨k, n, s⟩] (anys 1) =
  Tree.ite (k == (0 : Int)) (Tree.ite (n == (0 : Int)) (Tree.leaf ([tB (s == [])], [RV.any])) (Tree.leaf ([tB false], [RV.any])))
  (Tree.ite (k == (1 : Int)) (Tree.leaf ([tB (s == [])], [RV.any]))
    (Tree.ite (k == (2 : Int)) (Tree.ite (n == (0 : Int)) (Tree.leaf ([tB (decide ((↑(List.length s) : Int) ≤ (200 : Int)))], [RV.any])) (Tree.leaf ([tB false], [RV.any])))
      (Tree.ite (k == (3 : Int)) (Tree.ite (n == (0 : Int)) (Tree.ite true (Tree.leaf ([tB (s == [])], [RV.any])) (Tree.leaf ([tB false], [RV.any]))) (Tree.ite (n == (1 : Int)) (Tree.leaf ([tB (s == [])], [RV.any])) (Tree.leaf ([tB false], [RV.any]))))
        (Tree.ite (k == (4 : Int)) (Tree.ite (decide (n ≥ (1 : Int))) (Tree.ite (decide (n ≤ (7 : Int))) (Tree.leaf ([tB (s == [])], [RV.any])) (Tree.leaf ([tB false], [RV.any]))) (Tree.ite false (Tree.leaf ([tB (s == [])], [RV.any])) (Tree.leaf ([tB false], [RV.any]))))
          (Tree.leaf ([tB false], [RV.any])))))) := by kernel_rfl
def F : List TV' → Tree (List TV') := aVal fun v => a0 (.leaf [tB (vRight v)])
abbrev S : Spec En := pureSpec 1 F
theorem ok : SpecOk pr i_value_Right S := by
  refine pureOk (ctx := c) (cx_ok nil_ok nil_ok) mixed h_value_Right (by kernel_rfl) (no_loop (by kernel_rfl)) (by kernel_rfl) fun xs r h => ?_
  obtain ⟨⟨k, n, s⟩, _, rfl, g1⟩ := aVal_r h
  obtain ⟨rfl, rfl⟩ := a0_r g1
  refine ⟨rfl, Tree.reach_of (fn_t k n s) ?_⟩
  unfold vRight
  dsimp only
  cases h0 : (k == (0 : Int)) with
  | true => cases n0 : (n == (0 : Int)) with
    | true => exact Tree.reach_tt (Tree.reach_tt rfl)
    | false => exact Tree.reach_tt (Tree.reach_ff rfl)
  | false =>
  refine Tree.reach_ff ?_
  cases h1 : (k == (1 : Int)) with
  | true => exact Tree.reach_tt rfl
  | false =>
  refine Tree.reach_ff ?_
  cases h2 : (k == (2 : Int)) with
  | true => cases n0 : (n == (0 : Int)) with
    | true => exact Tree.reach_tt (Tree.reach_tt rfl)
    | false => exact Tree.reach_tt (Tree.reach_ff rfl)
  | false =>
  refine Tree.reach_ff ?_
  cases h3 : (k == (3 : Int)) with
  | true =>
    refine Tree.reach_tt ?_
    cases n0 : (n == (0 : Int)) with
    | true => exact Tree.reach_tt (Tree.reach_tt rfl)
    | false => cases n1 : (n == (1 : Int)) with
      | true => exact Tree.reach_ff (Tree.reach_tt rfl)
      | false => exact Tree.reach_ff (Tree.reach_ff rfl)
  | false =>
  refine Tree.reach_ff ?_
  cases h4 : (k == (4 : Int)) with
  | true =>
    refine Tree.reach_tt ?_
    cases n0 : decide (n ≥ (1 : Int)) with
    | true => cases n1 : decide (n ≤ (7 : Int)) with
      | true => exact Tree.reach_tt (Tree.reach_tt rfl)
      | false => exact Tree.reach_tt (Tree.reach_ff rfl)
    | false => exact Tree.reach_ff (Tree.reach_ff rfl)
  | false => exact Tree.reach_ff rfl
end value_Right
namespace value_size
abbrev c := cx f_value_size [] [] []
theorem fn_t (b : List UInt8) : fnRun value_size.c f_value_size (codeOf f_value_size) [tL 0 b false] (anys 1) =
  Tree.ite (decide ((↑(List.length b) : Int) < (1 : Int))) (Tree.leaf ([tI (-1 : Int)], [RV.any]))
  (Tree.req ((0 : Int) ≤ (0 : Int) ∧ (0 : Int) < (↑(List.length b) : Int))
    (Tree.ite (IntKind.wrap IntKind.i64 (↑(UInt8.toNat (List.getD b (0 : Nat) (Env.dflt En (0 : Nat)))) : Int) == (0 : Int)) (Tree.leaf ([tI (1 : Int)], [RV.any]))
      (Tree.ite (IntKind.wrap IntKind.i64 (↑(UInt8.toNat (List.getD b (0 : Nat) (Env.dflt En (0 : Nat)))) : Int) == (1 : Int)) (Tree.leaf ([tI (9 : Int)], [RV.any]))
        (Tree.ite (IntKind.wrap IntKind.i64 (↑(UInt8.toNat (List.getD b (0 : Nat) (Env.dflt En (0 : Nat)))) : Int) == (3 : Int))
          (Tree.ite (IntKind.wrap IntKind.i64 (↑(UInt8.toNat (List.getD b (0 : Nat) (Env.dflt En (0 : Nat)))) : Int) == (3 : Int)) (Tree.leaf ([tI (2 : Int)], [RV.any]))
            (Tree.ite (decide ((↑(List.length b) : Int) > (1 : Int)))
              (Tree.req ((0 : Int) ≤ (1 : Int) ∧ (1 : Int) < (↑(List.length b) : Int)) (Tree.leaf ([tI (IntKind.wrap IntKind.i64 ((2 : Int) + IntKind.wrap IntKind.i64 (↑(UInt8.toNat (List.getD b (1 : Nat) (Env.dflt En (0 : Nat)))) : Int)))], [RV.any]))) (Tree.leaf ([tI (-1 : Int)], [RV.any]))))
          (Tree.ite (IntKind.wrap IntKind.i64 (↑(UInt8.toNat (List.getD b (0 : Nat) (Env.dflt En (0 : Nat)))) : Int) == (4 : Int)) (Tree.leaf ([tI (2 : Int)], [RV.any]))
            (Tree.ite (decide ((↑(List.length b) : Int) > (1 : Int)))
              (Tree.req ((0 : Int) ≤ (1 : Int) ∧ (1 : Int) < (↑(List.length b) : Int)) (Tree.leaf ([tI (IntKind.wrap IntKind.i64 ((2 : Int) + IntKind.wrap IntKind.i64 (↑(UInt8.toNat (List.getD b (1 : Nat) (Env.dflt En (0 : Nat)))) : Int)))], [RV.any]))) (Tree.leaf ([tI (-1 : Int)], [RV.any])))))))) := by kernel_rfl
def F : List TV' → Tree (List TV') := aBytes fun b => a0 (.leaf [tI (vSize b)])
abbrev S : Spec En := pureSpec 1 F
theorem ok : SpecOk pr i_value_size S := by
  refine pureOk (ctx := c) (cx_ok nil_ok nil_ok) mixed h_value_size (by kernel_rfl) (no_loop (by kernel_rfl)) (by kernel_rfl) fun xs r h => ?_
  obtain ⟨b, _, rfl, g1⟩ := aBytes_r h
  obtain ⟨rfl, rfl⟩ := a0_r g1
  have hb := fn_t b
  have e0 : IntKind.wrap IntKind.i64 ((UInt8.toNat (List.getD b 0 (Env.dflt En 0)) : Nat) : Int) = (b0 b 0 : Int) := by
    have : (b.getD 0 0).toNat < 256 := UInt8.toNat_lt _
    exact wrap_i64 (x := ((b.getD 0 0).toNat : Int)) (by omega) (by omega)
  have h1 : (b.getD 1 0).toNat < 256 := UInt8.toNat_lt _
  have e1 : IntKind.wrap IntKind.i64 ((2 : Int) + IntKind.wrap IntKind.i64 ((UInt8.toNat (List.getD b 1 (Env.dflt En 0)) : Nat) : Int)) = 2 + (b0 b 1 : Int) := by
    have : IntKind.wrap IntKind.i64 ((UInt8.toNat (List.getD b 1 (Env.dflt En 0)) : Nat) : Int) = ((b.getD 1 0).toNat : Int) := wrap_i64 (x := ((b.getD 1 0).toNat : Int)) (by omega) (by omega)
    rw [this]
    exact wrap_i64 (x := 2 + ((b.getD 1 0).toNat : Int)) (by omega) (by omega)
  rw [e0, e1] at hb
  refine ⟨rfl, Tree.reach_of hb ?_⟩
  unfold vSize
  cases hl : decide ((b.length : Int) < 1) with
  | true => exact Tree.reach_tt rfl
  | false =>
  have hl' : ¬ ((b.length : Int) < 1) := by simpa using hl
  refine Tree.reach_ff (Tree.reach_req (by omega) ?_)
  cases k0 : ((b0 b 0 : Int) == 0) with
  | true => exact Tree.reach_tt rfl
  | false =>
  refine Tree.reach_ff ?_
  cases k1 : ((b0 b 0 : Int) == 1) with
  | true => exact Tree.reach_tt rfl
  | false =>
  refine Tree.reach_ff ?_
  cases k3 : ((b0 b 0 : Int) == 3) with
  | true => exact Tree.reach_tt (Tree.reach_tt rfl)
  | false =>
  refine Tree.reach_ff ?_
  cases k4 : ((b0 b 0 : Int) == 4) with
  | true => exact Tree.reach_tt rfl
  | false =>
  refine Tree.reach_ff ?_
  cases hm : decide ((b.length : Int) > 1) with
  | true =>
    have hm' : (b.length : Int) > 1 := by simpa using hm
    exact Tree.reach_tt (Tree.reach_req (by omega) rfl)
  | false => exact Tree.reach_ff rfl
end value_size
namespace frame_right
abbrev c := cx f_frame_right [] [] []
theorem fn_t (e : Int) : fnRun frame_right.c f_frame_right (codeOf f_frame_right) [tI e] (anys 1) =
  Tree.ite (decide (e ≥ (1 : Int))) (Tree.leaf ([tB (decide (e ≤ (10 : Int)))], [RV.any])) (Tree.leaf ([tB false], [RV.any])) := by kernel_rfl
def F : List TV' → Tree (List TV') := aI fun e => a0 (.leaf [tB (decide (e ≥ 1) && decide (e ≤ 10))])
abbrev S : Spec En := pureSpec 1 F
theorem ok : SpecOk pr i_frame_right S := by
  refine pureOk (ctx := c) (cx_ok nil_ok nil_ok) mixed h_frame_right (by kernel_rfl) (no_loop (by kernel_rfl)) (by kernel_rfl) fun xs r h => ?_
  obtain ⟨e, _, rfl, g1⟩ := aI_r h
  obtain ⟨rfl, rfl⟩ := a0_r g1
  refine ⟨rfl, Tree.reach_of (fn_t e) ?_⟩
  cases h0 : decide (e ≥ (1 : Int)) with
  | true => exact Tree.reach_tt rfl
  | false => exact Tree.reach_ff rfl
end frame_right
namespace ref1_RightValue
abbrev c := cx f_ref1_RightValue [] [] []
theorem fn_t (k n : Int) (s : List UInt8) : fnRun ref1_RightValue.c f_ref1_RightValue (codeOf f_ref1_RightValue) [tVal ⟨k, n, s⟩] (anys 1) =
  Tree.ite (k == (0 : Int)) (Tree.ite (n == (0 : Int)) (Tree.leaf ([tB (s == [])], [RV.any])) (Tree.leaf ([tB false], [RV.any])))
  (Tree.ite (k == (1 : Int)) (Tree.leaf ([tB (s == [])], [RV.any]))
    (Tree.ite (k == (2 : Int)) (Tree.ite (n == (0 : Int)) (Tree.leaf ([tB (decide ((↑(List.length s) : Int) ≤ (200 : Int)))], [RV.any])) (Tree.leaf ([tB false], [RV.any])))
      (Tree.ite (k == (3 : Int)) (Tree.ite (n == (0 : Int)) (Tree.ite true (Tree.leaf ([tB (s == [])], [RV.any])) (Tree.leaf ([tB false], [RV.any]))) (Tree.ite (n == (1 : Int)) (Tree.leaf ([tB (s == [])], [RV.any])) (Tree.leaf ([tB false], [RV.any]))))
        (Tree.ite (k == (4 : Int)) (Tree.ite (decide (n ≥ (1 : Int))) (Tree.ite (decide (n ≤ (7 : Int))) (Tree.leaf ([tB (s == [])], [RV.any])) (Tree.leaf ([tB false], [RV.any]))) (Tree.ite false (Tree.leaf ([tB (s == [])], [RV.any])) (Tree.leaf ([tB false], [RV.any]))))
          (Tree.leaf ([tB false], [RV.any])))))) := by kernel_rfl
def F : List TV' → Tree (List TV') := aVal fun v => a0 (.leaf [tB (vRight v)])
abbrev S : Spec En := pureSpec 1 F
theorem ok : SpecOk pr i_ref1_RightValue S := by
  refine pureOk (ctx := c) (cx_ok nil_ok nil_ok) mixed h_ref1_RightValue (by kernel_rfl) (no_loop (by kernel_rfl)) (by kernel_rfl) fun xs r h => ?_
  obtain ⟨⟨k, n, s⟩, _, rfl, g1⟩ := aVal_r h
  obtain ⟨rfl, rfl⟩ := a0_r g1
  refine ⟨rfl, Tree.reach_of (fn_t k n s) ?_⟩
  unfold vRight
  dsimp only
  cases h0 : (k == (0 : Int)) with
  | true => cases n0 : (n == (0 : Int)) with
    | true => exact Tree.reach_tt (Tree.reach_tt rfl)
    | false => exact Tree.reach_tt (Tree.reach_ff rfl)
  | false =>
  refine Tree.reach_ff ?_
  cases h1 : (k == (1 : Int)) with
  | true => exact Tree.reach_tt rfl
  | false =>
  refine Tree.reach_ff ?_
  cases h2 : (k == (2 : Int)) with
  | true => cases n0 : (n == (0 : Int)) with
    | true => exact Tree.reach_tt (Tree.reach_tt rfl)
    | false => exact Tree.reach_tt (Tree.reach_ff rfl)
  | false =>
  refine Tree.reach_ff ?_
  cases h3 : (k == (3 : Int)) with
  | true =>
    refine Tree.reach_tt ?_
    cases n0 : (n == (0 : Int)) with
    | true => exact Tree.reach_tt (Tree.reach_tt rfl)
    | false => cases n1 : (n == (1 : Int)) with
      | true => exact Tree.reach_ff (Tree.reach_tt rfl)
      | false => exact Tree.reach_ff (Tree.reach_ff rfl)
  | false =>
  refine Tree.reach_ff ?_
  cases h4 : (k == (4 : Int)) with
  | true =>
    refine Tree.reach_tt ?_
    cases n0 : decide (n ≥ (1 : Int)) with
    | true => cases n1 : decide (n ≤ (7 : Int)) with
      | true => exact Tree.reach_tt (Tree.reach_tt rfl)
      | false => exact Tree.reach_tt (Tree.reach_ff rfl)
    | false => exact Tree.reach_ff (Tree.reach_ff rfl)
  | false => exact Tree.reach_ff rfl
end ref1_RightValue
end Go.Rf
end
end
section
set_option linter.unusedSimpArgs false
set_option linter.unusedVariables false
noncomputable section
namespace Go.Rf
open Go.Proofs
set_option maxRecDepth 100000
namespace value_number
def L0 : LoopSum En := ⟨[3, 6, 8, 7], rW fun n => rBytes fun b => rI fun i => rI fun l => r0 (.req (0 ≤ i ∧ i ≤ b.length ∧ l = b.length ∧ b.length ≤ 8 ∧ n = numOf 0 (b.take i.toNat))
  (.leaf (.normal, [vW (numOf 0 b), .any, .any, .any])))⟩
abbrev c := cx f_value_number [] [] [(0, L0)]
theorem body_t (n i l : Int) (b : List UInt8) : bodyRun value_number.c [3, 6, 8, 7] (lb (codeOf f_value_number) 0) [vW n, vL 0 b false, vI i, vI l] =
  Tree.ite (decide (i < l))
  (Tree.req ((0 : Int) ≤ i ∧ i < (↑(List.length b) : Int))
    (Tree.req ((0 : Int) ≤ (8 : Int))
      (Tree.leaf
        (Ex.normal,
          [RV.v (TV.leaf (Leaf.mk (LT.int IntKind.u64) (bitsOp BinOp.or IntKind.u64 (IntKind.wrap IntKind.u64 (n * (2 : Int) ^ min (8 : Nat) (IntKind.bits IntKind.u64))) (IntKind.wrap IntKind.u64 (↑(UInt8.toNat (List.getD b (Int.toNat i) (Env.dflt En (0 : Nat)))) : Int)))) false),
            vL (0 : Nat) b false, vI (IntKind.wrap IntKind.i64 (i + (1 : Int))), vI l]))))
  (Tree.leaf (Ex.exit (0 : Nat), [RV.v (TV.leaf (Leaf.mk (LT.int IntKind.u64) n) false), vL (0 : Nat) b false, vI i, vI l])) := by kernel_rfl
theorem fn_t (b : List UInt8) : fnRun value_number.c f_value_number (codeOf f_value_number) [tL 0 b false] (anys 1) =
  Tree.req ((0 : Int) ≤ (0 : Int) ∧ (0 : Int) ≤ (↑(List.length b) : Int) ∧ (↑(List.length b) : Int) = (↑(List.length b) : Int) ∧ List.length b ≤ (8 : Nat) ∧ (0 : Int) = (↑(numOf (0 : Nat) (List.take (0 : Nat) b)) : Int))
  (Tree.leaf ([tI (IntKind.wrap IntKind.i64 (↑(numOf (0 : Nat) b) : Int))], [RV.any])) := by kernel_rfl
theorem cok : CtxOk pr c := cx_ok nil_ok nil_ok
theorem L0_ok : LoopOk pr c 0 (lb (codeOf f_value_number) 0) L0 := by
  refine loopOk2 cok mixed (no_loop (by kernel_rfl)) (fun vs => match vs with | [_, .v (.leaf ⟨.sl 0, b⟩ _), .v (.leaf ⟨.int .i64, i⟩ _), _] => List.length b - i.toNat | _ => 0) fun vs r h => ?_
  obtain ⟨n, _, rfl, g1⟩ := rW_r h
  obtain ⟨b, _, rfl, g2⟩ := rBytes_r g1
  obtain ⟨i, _, rfl, g3⟩ := rI_r g2
  obtain ⟨l, _, rfl, g4⟩ := rI_r g3
  obtain ⟨rfl, ⟨h0, h1, rfl, h2, rfl⟩, rfl⟩ := r0_r g4
  clear g1 g2 g3 g4 h
  obtain ⟨k, rfl⟩ := Int.eq_ofNat_of_zero_le h0
  have hb := body_t (numOf 0 (b.take k)) k b.length b
  simp only [Int.toNat_natCast] at hb ⊢
  rw [wrap_i64 (x := (k : Int) + 1) (by omega) (by omega)] at hb
  by_cases lt : k < b.length
  · have hn := numOf_le (b := b.take k) (k := 7) (by rw [List.length_take]; omega)
    have hs := numOf_take lt (Env.dflt En 0)
    generalize hx : List.getD b k (Env.dflt En 0) = x at hb
    replace hs : numOf 0 (b.take k) * 256 + UInt8.toNat x = numOf 0 (b.take (k + 1)) := by rw [← hx]; exact hs.symm
    have hc : UInt8.toNat x < 256 := UInt8.toNat_lt _
    rw [or256u (by omega) hc, hs] at hb
    refine ⟨(.normal, [vW (numOf 0 (b.take (k + 1))), vL 0 b false, vI ((k + 1 : Nat) : Int), vI b.length]), Tree.reach_of hb ?_, onward2 ⟨?_, ⟨by omega, by omega, rfl, h2, ?_⟩, rfl⟩⟩
    · exact Tree.reach_ite (fun _ => Tree.reach_req (by omega) (Tree.reach_req (by omega) rfl)) fun hx => by simp at hx; omega
    · show b.length - (k + 1) < b.length - k; omega
    · rw [Int.toNat_natCast]
  · refine ⟨(.exit 0, [vW (numOf 0 (b.take k)), vL 0 b false, vI k, vI b.length]), Tree.reach_of hb (Tree.reach_ite (fun hx => by simp at hx; omega) fun _ => rfl), onw_exit ⟨?_, wkV, wkV, wkV, trivial⟩⟩
    rw [List.take_of_length_le (by omega)]
    exact wkE
def F : List TV' → Tree (List TV') := aBytes fun b => a0 (.req (b.length ≤ 8) (.leaf [tI (IntKind.wrap .i64 (numOf 0 b : Nat))]))
abbrev S : Spec En := pureSpec 1 F
theorem ok : SpecOk pr i_value_number S := by
  refine pureOk (ctx := c) cok mixed h_value_number (by kernel_rfl) (one_loop (by kernel_rfl) (by kernel_rfl) L0_ok) (by kernel_rfl) fun xs r h => ?_
  obtain ⟨b, _, rfl, g1⟩ := aBytes_r h
  obtain ⟨rfl, h0, rfl⟩ := a0_r g1
  exact ⟨rfl, Tree.reach_of (fn_t b) (Tree.reach_req ⟨by omega, by omega, rfl, h0, rfl⟩ rfl)⟩
end value_number
namespace value_Bytes
def L0 : LoopSum En := ⟨[3, 4, 1, 1000001], rBytesO fun ys => rI fun i => rP 1 (rValB t_api_Value fun v => r0 (.req (-1 ≤ i ∧ i ≤ 7 ∧ room (ys.length + (i + 1).toNat))
  (.leaf (.normal, [vL 0 (ys ++ be (IntKind.wrap .u64 v.n) (i + 1).toNat) true, .any, .any, valV t_api_Value v]))))⟩
abbrev c := cx f_value_Bytes [(i_value_Right, value_Right.S)] [] [(1, L0)]
theorem body_t (ys : List UInt8) (i : Int) (k n : Int) (s : List UInt8) : bodyRun value_Bytes.c [3, 4, 1, 1000001] (lb (codeOf f_value_Bytes) 1) [vL 0 ys true, vI i, .v (tP 1 0), valV t_api_Value ⟨k, n, s⟩] =
  Tree.ite (decide (i ≥ (0 : Int)))
  (Tree.req ((0 : Int) ≤ IntKind.wrap IntKind.i64 ((8 : Int) * i))
    (Tree.req
      (((0 : Int) ≤ IntKind.wrap IntKind.u8 (Int.fdiv (IntKind.wrap IntKind.u64 n) ((2 : Int) ^ min (Int.toNat (IntKind.wrap IntKind.i64 ((8 : Int) * i))) (IntKind.bits IntKind.u64))) ∧
          IntKind.wrap IntKind.u8 (Int.fdiv (IntKind.wrap IntKind.u64 n) ((2 : Int) ^ min (Int.toNat (IntKind.wrap IntKind.i64 ((8 : Int) * i))) (IntKind.bits IntKind.u64))) < (256 : LT.den kindA (LT.int IntKind.u8))) ∧
        True)
      (Tree.req ((List.length ys + List.length [UInt8.ofNat (Int.toNat (IntKind.wrap IntKind.u8 (Int.fdiv (IntKind.wrap IntKind.u64 n) ((2 : Int) ^ min (Int.toNat (IntKind.wrap IntKind.i64 ((8 : Int) * i))) (IntKind.bits IntKind.u64)))))]) * (1 : Nat) ≤ (140737488355328 : Nat))
        (Tree.leaf
          (Ex.normal,
            [vL (0 : Nat) (ys ++ [UInt8.ofNat (Int.toNat (IntKind.wrap IntKind.u8 (Int.fdiv (IntKind.wrap IntKind.u64 n) ((2 : Int) ^ min (Int.toNat (IntKind.wrap IntKind.i64 ((8 : Int) * i))) (IntKind.bits IntKind.u64)))))]) true, vI (IntKind.wrap IntKind.i64 (i - (1 : Int))),
              RV.v (TV.leaf (Leaf.mk LT.ptr (some ((1 : Nat), (0 : Nat)))) false), RV.blk t_api_Value [(Leaf.mk (LT.int IntKind.i64) k, false), (Leaf.mk (LT.int IntKind.i64) n, false), (Leaf.mk LT.str s, false)]])))))
  (Tree.leaf (Ex.exit (1 : Nat), [vL (0 : Nat) ys true, vI i, RV.v (TV.leaf (Leaf.mk LT.ptr (some ((1 : Nat), (0 : Nat)))) false), RV.blk t_api_Value [(Leaf.mk (LT.int IntKind.i64) k, false), (Leaf.mk (LT.int IntKind.i64) n, false), (Leaf.mk LT.str s, false)]])) := by kernel_rfl
theorem cok : CtxOk pr c := cx_ok (.cons value_Right.ok .nil) nil_ok
theorem L0_ok : LoopOk pr c 1 (lb (codeOf f_value_Bytes) 1) L0 := by
  refine loopOk2 cok mixed (no_loop (by kernel_rfl)) (fun vs => match vs with | [_, .v (.leaf ⟨.int .i64, i⟩ _), _, _] => (i + 1).toNat | _ => 0) fun vs r h => ?_
  obtain ⟨ys, _, rfl, g1⟩ := rBytesO_r h
  obtain ⟨i, _, rfl, g2⟩ := rI_r g1
  obtain ⟨_, rfl, g3⟩ := rP_r g2
  obtain ⟨⟨q, n, s⟩, _, rfl, g4⟩ := rValB_r g3
  obtain ⟨rfl, ⟨h0, h1, h2⟩, rfl⟩ := r0_r g4
  clear g1 g2 g3 g4 h
  have hb := body_t ys i q n s
  rw [wrap_i64 (x := i - 1) (by omega) (by omega), wrap_i64 (x := 8 * i) (by omega) (by omega)] at hb
  by_cases lt : 0 ≤ i
  · obtain ⟨k, rfl⟩ := Int.eq_ofNat_of_zero_le lt
    have hm : min (Int.toNat (8 * (k : Int))) (IntKind.bits IntKind.u64) = 8 * k := by
      have : IntKind.bits IntKind.u64 = 64 := rfl
      rw [this]; omega
    rw [hm] at hb
    have hk : ((k : Int) + 1).toNat = k + 1 := by omega
    rw [hk] at h2 ⊢
    unfold room at h2
    refine ⟨(.normal, [vL 0 (ys ++ [bt (Int.fdiv (IntKind.wrap .u64 n) (2 ^ (8 * k)))]) true, vI ((k : Int) - 1), .v (tP 1 0), valV t_api_Value ⟨q, n, s⟩]), Tree.reach_of hb ?_, onward2 ⟨?_, ⟨by omega, by omega, ?_⟩, ?_⟩⟩
    · refine Tree.reach_ite (fun _ => Tree.reach_req (by omega) (Tree.reach_req ⟨u8ok _, trivial⟩ (Tree.reach_req ?_ rfl))) fun hx => by simp at hx
      simp only [List.length_singleton, Nat.mul_one]; omega
    · show ((k : Int) - 1 + 1).toNat < ((k : Int) + 1).toNat; omega
    · unfold room; simp only [List.length_append, List.length_singleton]; omega
    · have e : ((k : Int) - 1 + 1).toNat = k := by omega
      rw [e]
      show (Ex.normal, [vL 0 (ys ++ be (IntKind.wrap .u64 n) (k + 1)) true, RV.any, RV.any, valV t_api_Value ⟨q, n, s⟩]) = (Ex.normal, [vL 0 ((ys ++ [bt (Int.fdiv (IntKind.wrap .u64 n) (2 ^ (8 * k)))]) ++ be (IntKind.wrap .u64 n) k) true, RV.any, RV.any, valV t_api_Value ⟨q, n, s⟩])
      rw [List.append_assoc]; rfl
  · have e : (i + 1).toNat = 0 := by omega
    rw [e]
    refine ⟨(.exit 1, [vL 0 ys true, vI i, .v (tP 1 0), valV t_api_Value ⟨q, n, s⟩]), Tree.reach_of hb (Tree.reach_ite (fun hx => by simp at hx; omega) fun _ => rfl), onw_exit ⟨?_, wkV, wkV, wkE, trivial⟩⟩
    exact .inl (congrArg (fun z : List UInt8 => vL 0 z true) (List.append_nil ys))
theorem fn_t (k n : Int) (s : List UInt8) : fnRun value_Bytes.c f_value_Bytes (codeOf f_value_Bytes) [tVal ⟨k, n, s⟩] (anys 1) =
  Tree.ite (!vRight (Val.mk k n s)) (Tree.leaf ([tL (0 : Nat) [] true], [RV.any]))
  (Tree.req (((0 : Int) ≤ IntKind.wrap IntKind.u8 k ∧ IntKind.wrap IntKind.u8 k < (256 : LT.den kindA (LT.int IntKind.u8))) ∧ True)
    (Tree.ite (k == (1 : Int))
      (Tree.req ((-1 : Int) ≤ (7 : Int) ∧ (7 : Int) ≤ (7 : Int) ∧ room (List.length [UInt8.ofNat (Int.toNat (IntKind.wrap IntKind.u8 k))] + Int.toNat ((7 : Int) + (1 : Int))))
        (Tree.leaf ([tL (0 : Nat) ([UInt8.ofNat (Int.toNat (IntKind.wrap IntKind.u8 k))] ++ be (IntKind.wrap IntKind.u64 n) (Int.toNat ((7 : Int) + (1 : Int)))) false], [RV.any])))
      (Tree.ite (k == (2 : Int))
        (Tree.req (((0 : Int) ≤ IntKind.wrap IntKind.u8 (↑(List.length s) : Int) ∧ IntKind.wrap IntKind.u8 (↑(List.length s) : Int) < (256 : LT.den kindA (LT.int IntKind.u8))) ∧ True)
          (Tree.req ((List.length [UInt8.ofNat (Int.toNat (IntKind.wrap IntKind.u8 k))] + List.length [UInt8.ofNat (Int.toNat (IntKind.wrap IntKind.u8 (↑(List.length s) : Int)))]) * (1 : Nat) ≤ (140737488355328 : Nat))
            (Tree.req ((List.length ([UInt8.ofNat (Int.toNat (IntKind.wrap IntKind.u8 k))] ++ [UInt8.ofNat (Int.toNat (IntKind.wrap IntKind.u8 (↑(List.length s) : Int)))]) + List.length s) * (1 : Nat) ≤ (140737488355328 : Nat))
              (Tree.leaf ([tL (0 : Nat) ([UInt8.ofNat (Int.toNat (IntKind.wrap IntKind.u8 k))] ++ [UInt8.ofNat (Int.toNat (IntKind.wrap IntKind.u8 (↑(List.length s) : Int)))] ++ s) false], [RV.any])))))
        (Tree.ite (k == (3 : Int))
          (Tree.ite (k == (3 : Int))
            (Tree.req (((0 : Int) ≤ IntKind.wrap IntKind.u8 n ∧ IntKind.wrap IntKind.u8 n < (256 : LT.den kindA (LT.int IntKind.u8))) ∧ True)
              (Tree.req ((List.length [UInt8.ofNat (Int.toNat (IntKind.wrap IntKind.u8 k))] + List.length [UInt8.ofNat (Int.toNat (IntKind.wrap IntKind.u8 n))]) * (1 : Nat) ≤ (140737488355328 : Nat))
                (Tree.leaf ([tL (0 : Nat) ([UInt8.ofNat (Int.toNat (IntKind.wrap IntKind.u8 k))] ++ [UInt8.ofNat (Int.toNat (IntKind.wrap IntKind.u8 n))]) false], [RV.any]))))
            (Tree.leaf ([tL (0 : Nat) [UInt8.ofNat (Int.toNat (IntKind.wrap IntKind.u8 k))] false], [RV.any])))
          (Tree.ite (k == (4 : Int))
            (Tree.req (((0 : Int) ≤ IntKind.wrap IntKind.u8 n ∧ IntKind.wrap IntKind.u8 n < (256 : LT.den kindA (LT.int IntKind.u8))) ∧ True)
              (Tree.req ((List.length [UInt8.ofNat (Int.toNat (IntKind.wrap IntKind.u8 k))] + List.length [UInt8.ofNat (Int.toNat (IntKind.wrap IntKind.u8 n))]) * (1 : Nat) ≤ (140737488355328 : Nat))
                (Tree.leaf ([tL (0 : Nat) ([UInt8.ofNat (Int.toNat (IntKind.wrap IntKind.u8 k))] ++ [UInt8.ofNat (Int.toNat (IntKind.wrap IntKind.u8 n))]) false], [RV.any]))))
            (Tree.leaf ([tL (0 : Nat) [UInt8.ofNat (Int.toNat (IntKind.wrap IntKind.u8 k))] false], [RV.any]))))))) := by kernel_rfl
def F : List TV' → Tree (List TV') := aVal fun v => a0 (.leaf [tL 0 (vBytes v) false])
abbrev S : Spec En := pureSpec 1 F
theorem ok : SpecOk pr i_value_Bytes S := by
  have h0 : SpecOk pr i_value_Bytes (pureSpec (E := En) 1 (aVal fun v => a0 (.leaf [tL 0 (vBytes v) (!vRight v)]))) := by
    refine pureOk (ctx := c) cok mixed h_value_Bytes (by kernel_rfl) (one_loop (by kernel_rfl) (by kernel_rfl) L0_ok) (by kernel_rfl) fun xs r h => ?_
    obtain ⟨⟨k, n, s⟩, _, rfl, g1⟩ := aVal_r h
    obtain ⟨rfl, rfl⟩ := a0_r g1
    refine ⟨rfl, Tree.reach_of (fn_t k n s) ?_⟩
    unfold vBytes
    dsimp only
    cases hr : vRight ⟨k, n, s⟩ with
    | false => exact Tree.reach_tt rfl
    | true =>
    refine Tree.reach_ff (Tree.reach_req ⟨u8ok _, trivial⟩ ?_)
    cases h1 : (k == (1 : Int)) with
    | true => exact Tree.reach_tt (Tree.reach_req ⟨by omega, by omega, by unfold room; simp⟩ rfl)
    | false =>
    refine Tree.reach_ff ?_
    cases h2 : (k == (2 : Int)) with
    | true =>
      have hk : k = 2 := by simpa using h2
      subst hk
      have hs : (s.length : Int) ≤ 200 := by
        cases hn : (n == (0 : Int)) with
        | false => unfold vRight at hr; dsimp only at hr; rw [hn] at hr; cases hr
        | true => unfold vRight at hr; dsimp only at hr; rw [hn] at hr; exact of_decide_eq_true hr
      refine Tree.reach_tt (Tree.reach_req ⟨u8ok _, trivial⟩ (Tree.reach_req (by simp) (Tree.reach_req ?_ rfl)))
      simp only [List.length_append, List.length_singleton]; omega
    | false =>
    refine Tree.reach_ff ?_
    cases h3 : (k == (3 : Int)) with
    | true => exact Tree.reach_tt (Tree.reach_tt (Tree.reach_req ⟨u8ok _, trivial⟩ (Tree.reach_req (by simp) rfl)))
    | false =>
    refine Tree.reach_ff ?_
    cases h4 : (k == (4 : Int)) with
    | true => exact Tree.reach_tt (Tree.reach_req ⟨u8ok _, trivial⟩ (Tree.reach_req (by simp) rfl))
    | false => exact Tree.reach_ff rfl
  refine pureUn h0 fun xs rs h => ?_
  obtain ⟨v, _, rfl, g1⟩ := aVal_r h
  obtain ⟨rfl, rfl⟩ := a0_r g1
  exact ⟨_, rfl, rfl, by simp, by intro x hx; simp at hx; subst hx; rfl⟩
end value_Bytes
namespace ref1_ValueBytes
def L0 : LoopSum En := ⟨[3, 4, 5], rBytesO fun ys => rW fun x => rI fun i => r0 (.req (-1 ≤ i ∧ i ≤ 7 ∧ room (ys.length + (i + 1).toNat) ∧ 0 ≤ x ∧ x < 18446744073709551616)
  (.leaf (.normal, [vL 0 (ys ++ be x (i + 1).toNat) true, .any, .any])))⟩
abbrev c := cx f_ref1_ValueBytes [(i_ref1_RightValue, ref1_RightValue.S)] [] [(1, L0)]
theorem body_t (ys : List UInt8) (x i : Int) : bodyRun ref1_ValueBytes.c [3, 4, 5] (lb (codeOf f_ref1_ValueBytes) 1) [vL 0 ys true, vW x, vI i] =
  Tree.ite (decide (i ≥ (0 : Int)))
  (Tree.req ((0 : Int) ≤ IntKind.wrap IntKind.u64 (IntKind.wrap IntKind.i64 ((8 : Int) * i)))
    (Tree.req
      (((0 : Int) ≤ IntKind.wrap IntKind.u8 (bitsOp BinOp.and IntKind.u64 (Int.fdiv x ((2 : Int) ^ min (Int.toNat (IntKind.wrap IntKind.u64 (IntKind.wrap IntKind.i64 ((8 : Int) * i)))) (IntKind.bits IntKind.u64))) (255 : Int)) ∧
          IntKind.wrap IntKind.u8 (bitsOp BinOp.and IntKind.u64 (Int.fdiv x ((2 : Int) ^ min (Int.toNat (IntKind.wrap IntKind.u64 (IntKind.wrap IntKind.i64 ((8 : Int) * i)))) (IntKind.bits IntKind.u64))) (255 : Int)) < (256 : LT.den kindA (LT.int IntKind.u8))) ∧
        True)
      (Tree.req
        ((List.length ys + List.length [UInt8.ofNat (Int.toNat (IntKind.wrap IntKind.u8 (bitsOp BinOp.and IntKind.u64 (Int.fdiv x ((2 : Int) ^ min (Int.toNat (IntKind.wrap IntKind.u64 (IntKind.wrap IntKind.i64 ((8 : Int) * i)))) (IntKind.bits IntKind.u64))) (255 : Int))))]) * (1 : Nat) ≤
          (140737488355328 : Nat))
        (Tree.leaf
          (Ex.normal,
            [vL (0 : Nat) (ys ++ [UInt8.ofNat (Int.toNat (IntKind.wrap IntKind.u8 (bitsOp BinOp.and IntKind.u64 (Int.fdiv x ((2 : Int) ^ min (Int.toNat (IntKind.wrap IntKind.u64 (IntKind.wrap IntKind.i64 ((8 : Int) * i)))) (IntKind.bits IntKind.u64))) (255 : Int))))]) true,
              RV.v (TV.leaf (Leaf.mk (LT.int IntKind.u64) x) false), vI (IntKind.wrap IntKind.i64 (i - (1 : Int)))])))))
  (Tree.leaf (Ex.exit (1 : Nat), [vL (0 : Nat) ys true, RV.v (TV.leaf (Leaf.mk (LT.int IntKind.u64) x) false), vI i])) := by kernel_rfl
theorem cok : CtxOk pr c := cx_ok (.cons ref1_RightValue.ok .nil) nil_ok
theorem L0_ok : LoopOk pr c 1 (lb (codeOf f_ref1_ValueBytes) 1) L0 := by
  refine loopOk2 cok mixed (no_loop (by kernel_rfl)) (fun vs => match vs with | [_, _, .v (.leaf ⟨.int .i64, i⟩ _)] => (i + 1).toNat | _ => 0) fun vs r h => ?_
  obtain ⟨ys, _, rfl, g1⟩ := rBytesO_r h
  obtain ⟨x, _, rfl, g2⟩ := rW_r g1
  obtain ⟨i, _, rfl, g3⟩ := rI_r g2
  obtain ⟨rfl, ⟨h0, h1, h2, h3, h4⟩, rfl⟩ := r0_r g3
  clear g1 g2 g3 h
  have hb := body_t ys x i
  rw [wrap_i64 (x := i - 1) (by omega) (by omega), wrap_i64 (x := 8 * i) (by omega) (by omega)] at hb
  by_cases lt : 0 ≤ i
  · obtain ⟨k, rfl⟩ := Int.eq_ofNat_of_zero_le lt
    rw [wrap_u64 (8 * (k : Int)), Int.emod_eq_of_lt (a := 8 * (k : Int)) (by omega) (by omega)] at hb
    have hm : min (Int.toNat (8 * (k : Int))) (IntKind.bits IntKind.u64) = 8 * k := by
      have : IntKind.bits IntKind.u64 = 64 := rfl
      rw [this]; omega
    obtain ⟨f1, f2⟩ := fdiv_bnd h3 h4 (8 * k)
    rw [hm, and255u f1 f2] at hb
    have hk : ((k : Int) + 1).toNat = k + 1 := by omega
    rw [hk] at h2 ⊢
    unfold room at h2
    have hbm : UInt8.ofNat (Int.toNat (IntKind.wrap IntKind.u8 (Int.fdiv x (2 ^ (8 * k)) % 256))) = bt (Int.fdiv x (2 ^ (8 * k))) := bt_mod _
    rw [hbm] at hb
    refine ⟨(.normal, [vL 0 (ys ++ [bt (Int.fdiv x (2 ^ (8 * k)))]) true, vW x, vI ((k : Int) - 1)]), Tree.reach_of hb ?_, onward2 ⟨?_, ⟨by omega, by omega, ?_, h3, h4⟩, ?_⟩⟩
    · refine Tree.reach_ite (fun _ => Tree.reach_req (by omega) (Tree.reach_req ⟨u8ok _, trivial⟩ (Tree.reach_req ?_ rfl))) fun hx => by simp at hx
      simp only [List.length_singleton, Nat.mul_one]; omega
    · show ((k : Int) - 1 + 1).toNat < ((k : Int) + 1).toNat; omega
    · unfold room; simp only [List.length_append, List.length_singleton]; omega
    · have e : ((k : Int) - 1 + 1).toNat = k := by omega
      rw [e]
      show (Ex.normal, [vL 0 (ys ++ be x (k + 1)) true, RV.any, RV.any]) = (Ex.normal, [vL 0 ((ys ++ [bt (Int.fdiv x (2 ^ (8 * k)))]) ++ be x k) true, RV.any, RV.any])
      rw [List.append_assoc]; rfl
  · have e : (i + 1).toNat = 0 := by omega
    rw [e]
    refine ⟨(.exit 1, [vL 0 ys true, vW x, vI i]), Tree.reach_of hb (Tree.reach_ite (fun hx => by simp at hx; omega) fun _ => rfl), onw_exit ⟨?_, wkV, wkV, trivial⟩⟩
    exact .inl (congrArg (fun z : List UInt8 => vL 0 z true) (List.append_nil ys))
theorem fn_t (k n : Int) (s : List UInt8) : fnRun ref1_ValueBytes.c f_ref1_ValueBytes (codeOf f_ref1_ValueBytes) [tVal ⟨k, n, s⟩] (anys 1) =
  Tree.ite (!vRight (Val.mk k n s)) (Tree.leaf ([tL (0 : Nat) [] true], [RV.any]))
  (Tree.req (((0 : Int) ≤ IntKind.wrap IntKind.u8 k ∧ IntKind.wrap IntKind.u8 k < (256 : LT.den kindA (LT.int IntKind.u8))) ∧ True)
    (Tree.ite (k == (1 : Int))
      (Tree.req ((-1 : Int) ≤ (7 : Int) ∧ (7 : Int) ≤ (7 : Int) ∧ room (List.length [UInt8.ofNat (Int.toNat (IntKind.wrap IntKind.u8 k))] + Int.toNat ((7 : Int) + (1 : Int))) ∧ (0 : Int) ≤ IntKind.wrap IntKind.u64 n ∧ IntKind.wrap IntKind.u64 n < (18446744073709551616 : Int))
        (Tree.leaf ([tL (0 : Nat) ([UInt8.ofNat (Int.toNat (IntKind.wrap IntKind.u8 k))] ++ be (IntKind.wrap IntKind.u64 n) (Int.toNat ((7 : Int) + (1 : Int)))) false], [RV.any])))
      (Tree.ite (k == (2 : Int))
        (Tree.req (((0 : Int) ≤ IntKind.wrap IntKind.u8 (↑(List.length s) : Int) ∧ IntKind.wrap IntKind.u8 (↑(List.length s) : Int) < (256 : LT.den kindA (LT.int IntKind.u8))) ∧ True)
          (Tree.req ((List.length [UInt8.ofNat (Int.toNat (IntKind.wrap IntKind.u8 k))] + List.length [UInt8.ofNat (Int.toNat (IntKind.wrap IntKind.u8 (↑(List.length s) : Int)))]) * (1 : Nat) ≤ (140737488355328 : Nat))
            (Tree.req ((List.length ([UInt8.ofNat (Int.toNat (IntKind.wrap IntKind.u8 k))] ++ [UInt8.ofNat (Int.toNat (IntKind.wrap IntKind.u8 (↑(List.length s) : Int)))]) + List.length s) * (1 : Nat) ≤ (140737488355328 : Nat))
              (Tree.leaf ([tL (0 : Nat) ([UInt8.ofNat (Int.toNat (IntKind.wrap IntKind.u8 k))] ++ [UInt8.ofNat (Int.toNat (IntKind.wrap IntKind.u8 (↑(List.length s) : Int)))] ++ s) false], [RV.any])))))
        (Tree.ite (k == (3 : Int))
          (Tree.ite (k == (3 : Int))
            (Tree.req (((0 : Int) ≤ IntKind.wrap IntKind.u8 n ∧ IntKind.wrap IntKind.u8 n < (256 : LT.den kindA (LT.int IntKind.u8))) ∧ True)
              (Tree.req ((List.length [UInt8.ofNat (Int.toNat (IntKind.wrap IntKind.u8 k))] + List.length [UInt8.ofNat (Int.toNat (IntKind.wrap IntKind.u8 n))]) * (1 : Nat) ≤ (140737488355328 : Nat))
                (Tree.leaf ([tL (0 : Nat) ([UInt8.ofNat (Int.toNat (IntKind.wrap IntKind.u8 k))] ++ [UInt8.ofNat (Int.toNat (IntKind.wrap IntKind.u8 n))]) false], [RV.any]))))
            (Tree.leaf ([tL (0 : Nat) [UInt8.ofNat (Int.toNat (IntKind.wrap IntKind.u8 k))] false], [RV.any])))
          (Tree.ite (k == (4 : Int))
            (Tree.req (((0 : Int) ≤ IntKind.wrap IntKind.u8 n ∧ IntKind.wrap IntKind.u8 n < (256 : LT.den kindA (LT.int IntKind.u8))) ∧ True)
              (Tree.req ((List.length [UInt8.ofNat (Int.toNat (IntKind.wrap IntKind.u8 k))] + List.length [UInt8.ofNat (Int.toNat (IntKind.wrap IntKind.u8 n))]) * (1 : Nat) ≤ (140737488355328 : Nat))
                (Tree.leaf ([tL (0 : Nat) ([UInt8.ofNat (Int.toNat (IntKind.wrap IntKind.u8 k))] ++ [UInt8.ofNat (Int.toNat (IntKind.wrap IntKind.u8 n))]) false], [RV.any]))))
            (Tree.leaf ([tL (0 : Nat) [UInt8.ofNat (Int.toNat (IntKind.wrap IntKind.u8 k))] false], [RV.any]))))))) := by kernel_rfl
def F : List TV' → Tree (List TV') := aVal fun v => a0 (.leaf [tL 0 (vBytes v) false])
abbrev S : Spec En := pureSpec 1 F
theorem ok : SpecOk pr i_ref1_ValueBytes S := by
  have h0 : SpecOk pr i_ref1_ValueBytes (pureSpec (E := En) 1 (aVal fun v => a0 (.leaf [tL 0 (vBytes v) (!vRight v)]))) := by
    refine pureOk (ctx := c) cok mixed h_ref1_ValueBytes (by kernel_rfl) (one_loop (by kernel_rfl) (by kernel_rfl) L0_ok) (by kernel_rfl) fun xs r h => ?_
    obtain ⟨⟨k, n, s⟩, _, rfl, g1⟩ := aVal_r h
    obtain ⟨rfl, rfl⟩ := a0_r g1
    refine ⟨rfl, Tree.reach_of (fn_t k n s) ?_⟩
    unfold vBytes
    dsimp only
    cases hr : vRight ⟨k, n, s⟩ with
    | false => exact Tree.reach_tt rfl
    | true =>
    refine Tree.reach_ff (Tree.reach_req ⟨u8ok _, trivial⟩ ?_)
    cases h1 : (k == (1 : Int)) with
    | true => exact Tree.reach_tt (Tree.reach_req ⟨by omega, by omega, by unfold room; simp, by rw [wrap_u64]; omega, by rw [wrap_u64]; omega⟩ rfl)
    | false =>
    refine Tree.reach_ff ?_
    cases h2 : (k == (2 : Int)) with
    | true =>
      have hk : k = 2 := by simpa using h2
      subst hk
      have hs : (s.length : Int) ≤ 200 := by
        cases hn : (n == (0 : Int)) with
        | false => unfold vRight at hr; dsimp only at hr; rw [hn] at hr; cases hr
        | true => unfold vRight at hr; dsimp only at hr; rw [hn] at hr; exact of_decide_eq_true hr
      refine Tree.reach_tt (Tree.reach_req ⟨u8ok _, trivial⟩ (Tree.reach_req (by simp) (Tree.reach_req ?_ rfl)))
      simp only [List.length_append, List.length_singleton]; omega
    | false =>
    refine Tree.reach_ff ?_
    cases h3 : (k == (3 : Int)) with
    | true => exact Tree.reach_tt (Tree.reach_tt (Tree.reach_req ⟨u8ok _, trivial⟩ (Tree.reach_req (by simp) rfl)))
    | false =>
    refine Tree.reach_ff ?_
    cases h4 : (k == (4 : Int)) with
    | true => exact Tree.reach_tt (Tree.reach_req ⟨u8ok _, trivial⟩ (Tree.reach_req (by simp) rfl))
    | false => exact Tree.reach_ff rfl
  refine pureUn h0 fun xs rs h => ?_
  obtain ⟨v, _, rfl, g1⟩ := aVal_r h
  obtain ⟨rfl, rfl⟩ := a0_r g1
  exact ⟨_, rfl, rfl, by simp, by intro x hx; simp at hx; subst hx; rfl⟩
end ref1_ValueBytes
theorem vfin (v : Val) (s : Int) : (Tree.ite (!vRight v) (.leaf ([tVal ⟨0, 0, []⟩, tI 0, tI 2], [RV.any])) (.leaf ([tVal v, tI s, tI 0], [RV.any])) : Tree (List TV' × List RV')).reach ([tVal (vTail v s).1, tI (vTail v s).2.1, tI (vTail v s).2.2], [RV.any]) := by
  unfold vTail
  cases vRight v
  · exact Tree.reach_tt rfl
  · exact Tree.reach_ff rfl
namespace ref1_ReadValue
def L0 : LoopSum En := ⟨[7, 8, 0, 5, 1000005, 2, 1000002], rW fun x => rI fun i => rBytes fun b => rP 5 (rValB t_api_Value fun v => rP 2 (rValB t_api_Value fun u => r0 (.req (1 ≤ i ∧ i ≤ 9 ∧ 9 ≤ b.length ∧ x = numOf 0 ((b.take i.toNat).drop 1))
  (.leaf (.normal, [vW (numOf 0 ((b.take 9).drop 1)), .any, .any, .v (tP 5 0), valV t_api_Value v, .v (tP 2 0), valV t_api_Value u])))))⟩
abbrev c := cx f_ref1_ReadValue [(i_ref1_RightValue, ref1_RightValue.S)] [] [(1, L0)]
theorem body_t (x i : Int) (b : List UInt8) (v u : Val) : bodyRun ref1_ReadValue.c [7, 8, 0, 5, 1000005, 2, 1000002] (lb (codeOf f_ref1_ReadValue) 1) [vW x, vI i, vL 0 b false, .v (tP 5 0), valV t_api_Value v, .v (tP 2 0), valV t_api_Value u] =
  Tree.ite (decide (i < (9 : Int)))
  (Tree.req ((0 : Int) ≤ (8 : Int))
    (Tree.req ((0 : Int) ≤ i ∧ i < (↑(List.length b) : Int))
      (Tree.leaf
        (Ex.normal,
          [RV.v (TV.leaf (Leaf.mk (LT.int IntKind.u64) (bitsOp BinOp.or IntKind.u64 (IntKind.wrap IntKind.u64 (x * (2 : Int) ^ min (8 : Nat) (IntKind.bits IntKind.u64))) (IntKind.wrap IntKind.u64 (↑(UInt8.toNat (List.getD b (Int.toNat i) (Env.dflt En (0 : Nat)))) : Int)))) false),
            vI (IntKind.wrap IntKind.i64 (i + (1 : Int))), vL (0 : Nat) b false, RV.v (TV.leaf (Leaf.mk LT.ptr (some ((5 : Nat), (0 : Nat)))) false),
            RV.blk t_api_Value [(Leaf.mk (LT.int IntKind.i64) (Val.kind v), false), (Leaf.mk (LT.int IntKind.i64) (Val.n v), false), (Leaf.mk LT.str (Val.s v), false)], RV.v (TV.leaf (Leaf.mk LT.ptr (some ((2 : Nat), (0 : Nat)))) false),
            RV.blk t_api_Value [(Leaf.mk (LT.int IntKind.i64) (Val.kind u), false), (Leaf.mk (LT.int IntKind.i64) (Val.n u), false), (Leaf.mk LT.str (Val.s u), false)]]))))
  (Tree.leaf
    (Ex.exit (1 : Nat),
      [RV.v (TV.leaf (Leaf.mk (LT.int IntKind.u64) x) false), vI i, vL (0 : Nat) b false, RV.v (TV.leaf (Leaf.mk LT.ptr (some ((5 : Nat), (0 : Nat)))) false),
        RV.blk t_api_Value [(Leaf.mk (LT.int IntKind.i64) (Val.kind v), false), (Leaf.mk (LT.int IntKind.i64) (Val.n v), false), (Leaf.mk LT.str (Val.s v), false)], RV.v (TV.leaf (Leaf.mk LT.ptr (some ((2 : Nat), (0 : Nat)))) false),
        RV.blk t_api_Value [(Leaf.mk (LT.int IntKind.i64) (Val.kind u), false), (Leaf.mk (LT.int IntKind.i64) (Val.n u), false), (Leaf.mk LT.str (Val.s u), false)]])) := by kernel_rfl
theorem cok : CtxOk pr c := cx_ok (.cons ref1_RightValue.ok .nil) nil_ok
theorem L0_ok : LoopOk pr c 1 (lb (codeOf f_ref1_ReadValue) 1) L0 := by
  refine loopOk2 cok mixed (no_loop (by kernel_rfl)) (fun vs => match vs with | [_, .v (.leaf ⟨.int .i64, i⟩ _), _, _, _, _, _] => 9 - i.toNat | _ => 0) fun vs r h => ?_
  obtain ⟨x, _, rfl, g1⟩ := rW_r h
  obtain ⟨i, _, rfl, g2⟩ := rI_r g1
  obtain ⟨b, _, rfl, g3⟩ := rBytes_r g2
  obtain ⟨_, rfl, g4⟩ := rP_r g3
  obtain ⟨v, _, rfl, g5⟩ := rValB_r g4
  obtain ⟨_, rfl, g6⟩ := rP_r g5
  obtain ⟨u, _, rfl, g7⟩ := rValB_r g6
  obtain ⟨rfl, ⟨h0, h1, h2, rfl⟩, rfl⟩ := r0_r g7
  clear g1 g2 g3 g4 g5 g6 g7 h
  obtain ⟨k, rfl⟩ := Int.eq_ofNat_of_zero_le (show 0 ≤ i by omega)
  have hb := body_t (numOf 0 ((b.take k).drop 1)) k b v u
  simp only [Int.toNat_natCast] at hb ⊢
  rw [wrap_i64 (x := (k : Int) + 1) (by omega) (by omega)] at hb
  by_cases lt : k < 9
  · have hn := numOf_le (b := (b.take k).drop 1) (k := 7) (by rw [List.length_drop, List.length_take]; omega)
    have hs := numOf_mid (b := b) (i := k) (by omega) (by omega) (Env.dflt En 0)
    generalize hx : List.getD b k (Env.dflt En 0) = x at hb
    replace hs : numOf 0 ((b.take k).drop 1) * 256 + UInt8.toNat x = numOf 0 ((b.take (k + 1)).drop 1) := by rw [← hx]; exact hs.symm
    have hc : UInt8.toNat x < 256 := UInt8.toNat_lt _
    rw [or256u (by omega) hc, hs] at hb
    refine ⟨(.normal, [vW (numOf 0 ((b.take (k + 1)).drop 1)), vI ((k + 1 : Nat) : Int), vL 0 b false, .v (tP 5 0), valV t_api_Value v, .v (tP 2 0), valV t_api_Value u]), Tree.reach_of hb ?_, onward2 ⟨?_, ⟨by omega, by omega, h2, ?_⟩, rfl⟩⟩
    · exact Tree.reach_ite (fun _ => Tree.reach_req (by omega) (Tree.reach_req (by omega) rfl)) fun hx => by simp at hx; omega
    · show 9 - (k + 1) < 9 - k; omega
    · rw [Int.toNat_natCast]
  · obtain rfl : k = 9 := by omega
    exact ⟨(.exit 1, [vW (numOf 0 ((b.take 9).drop 1)), vI (9 : Nat), vL 0 b false, .v (tP 5 0), valV t_api_Value v, .v (tP 2 0), valV t_api_Value u]), Tree.reach_of hb (Tree.reach_ite (fun hx => by simp at hx) fun _ => rfl), onw_exit ⟨wkE, wkV, wkV, wkE, wkE, wkE, wkE, trivial⟩⟩
theorem fn_t (b : List UInt8) : fnRun ref1_ReadValue.c f_ref1_ReadValue (codeOf f_ref1_ReadValue) [tL 0 b false] (anys 1) =
  Tree.ite ((↑(List.length b) : Int) == (0 : Int)) (Tree.leaf ([TV.agg [Leaf.mk (LT.int IntKind.i64) (0 : Int), Leaf.mk (LT.int IntKind.i64) (0 : Int), Leaf.mk LT.str []], tI (0 : Int), tI (2 : Int)], [RV.any]))
  (Tree.req ((0 : Int) ≤ (0 : Int) ∧ (0 : Int) < (↑(List.length b) : Int))
    (Tree.ite (IntKind.wrap IntKind.i64 (↑(UInt8.toNat (List.getD b (0 : Nat) (Env.dflt En (0 : Nat)))) : Int) == (1 : Int))
      (Tree.ite (decide ((↑(List.length b) : Int) ≥ (9 : Int)))
        (Tree.req ((1 : Int) ≤ (1 : Int) ∧ (1 : Int) ≤ (9 : Int) ∧ (9 : Nat) ≤ List.length b ∧ (0 : Int) = (↑(numOf (0 : Nat) (List.drop (1 : Nat) (List.take (1 : Nat) b))) : Int))
          (Tree.ite (!vRight (Val.mk (IntKind.wrap IntKind.i64 (↑(UInt8.toNat (List.getD b (0 : Nat) (Env.dflt En (0 : Nat)))) : Int)) (IntKind.wrap IntKind.i64 (↑(numOf (0 : Nat) (List.drop (1 : Nat) (List.take (9 : Nat) b))) : Int)) []))
            (Tree.leaf ([TV.agg [Leaf.mk (LT.int IntKind.i64) (0 : Int), Leaf.mk (LT.int IntKind.i64) (0 : Int), Leaf.mk LT.str []], tI (0 : Int), tI (2 : Int)], [RV.any]))
            (Tree.leaf
              ([TV.agg
                    [Leaf.mk (LT.int IntKind.i64) (IntKind.wrap IntKind.i64 (↑(UInt8.toNat (List.getD b (0 : Nat) (Env.dflt En (0 : Nat)))) : Int)), Leaf.mk (LT.int IntKind.i64) (IntKind.wrap IntKind.i64 (↑(numOf (0 : Nat) (List.drop (1 : Nat) (List.take (9 : Nat) b))) : Int)), Leaf.mk LT.str []],
                  tI (9 : Int), tI (0 : Int)],
                [RV.any]))))
        (Tree.ite (IntKind.wrap IntKind.i64 (↑(UInt8.toNat (List.getD b (0 : Nat) (Env.dflt En (0 : Nat)))) : Int) == (2 : Int))
          (Tree.ite (decide ((↑(List.length b) : Int) ≥ (2 : Int)))
            (Tree.req ((0 : Int) ≤ (1 : Int) ∧ (1 : Int) < (↑(List.length b) : Int))
              (Tree.ite (decide ((↑(List.length b) : Int) ≥ IntKind.wrap IntKind.i64 ((2 : Int) + IntKind.wrap IntKind.i64 (↑(UInt8.toNat (List.getD b (1 : Nat) (Env.dflt En (0 : Nat)))) : Int))))
                (Tree.req ((0 : Int) ≤ (1 : Int) ∧ (1 : Int) < (↑(List.length b) : Int))
                  (Tree.req
                    ((0 : Int) ≤ (2 : Int) ∧
                      (2 : Int) ≤ IntKind.wrap IntKind.i64 ((2 : Int) + IntKind.wrap IntKind.i64 (↑(UInt8.toNat (List.getD b (1 : Nat) (Env.dflt En (0 : Nat)))) : Int)) ∧
                        IntKind.wrap IntKind.i64 ((2 : Int) + IntKind.wrap IntKind.i64 (↑(UInt8.toNat (List.getD b (1 : Nat) (Env.dflt En (0 : Nat)))) : Int)) ≤ (↑(List.length b) : Int))
                    (Tree.ite
                      (!vRight
                          (Val.mk (IntKind.wrap IntKind.i64 (↑(UInt8.toNat (List.getD b (0 : Nat) (Env.dflt En (0 : Nat)))) : Int)) (0 : Int)
                            (List.drop (2 : Nat) (List.take (Int.toNat (IntKind.wrap IntKind.i64 ((2 : Int) + IntKind.wrap IntKind.i64 (↑(UInt8.toNat (List.getD b (1 : Nat) (Env.dflt En (0 : Nat)))) : Int)))) b))))
                      (Tree.leaf ([TV.agg [Leaf.mk (LT.int IntKind.i64) (0 : Int), Leaf.mk (LT.int IntKind.i64) (0 : Int), Leaf.mk LT.str []], tI (0 : Int), tI (2 : Int)], [RV.any]))
                      (Tree.leaf
                        ([TV.agg
                              [Leaf.mk (LT.int IntKind.i64) (IntKind.wrap IntKind.i64 (↑(UInt8.toNat (List.getD b (0 : Nat) (Env.dflt En (0 : Nat)))) : Int)), Leaf.mk (LT.int IntKind.i64) (0 : Int),
                                Leaf.mk LT.str (List.drop (2 : Nat) (List.take (Int.toNat (IntKind.wrap IntKind.i64 ((2 : Int) + IntKind.wrap IntKind.i64 (↑(UInt8.toNat (List.getD b (1 : Nat) (Env.dflt En (0 : Nat)))) : Int)))) b))],
                            tI (IntKind.wrap IntKind.i64 ((2 : Int) + IntKind.wrap IntKind.i64 (↑(UInt8.toNat (List.getD b (1 : Nat) (Env.dflt En (0 : Nat)))) : Int))), tI (0 : Int)],
                          [RV.any])))))
                (Tree.ite (IntKind.wrap IntKind.i64 (↑(UInt8.toNat (List.getD b (0 : Nat) (Env.dflt En (0 : Nat)))) : Int) == (3 : Int))
                  (Tree.ite true
                    (Tree.ite (decide ((↑(List.length b) : Int) ≥ (2 : Int)))
                      (Tree.req ((0 : Int) ≤ (1 : Int) ∧ (1 : Int) < (↑(List.length b) : Int))
                        (Tree.ite (!vRight (Val.mk (IntKind.wrap IntKind.i64 (↑(UInt8.toNat (List.getD b (0 : Nat) (Env.dflt En (0 : Nat)))) : Int)) (IntKind.wrap IntKind.i64 (↑(UInt8.toNat (List.getD b (1 : Nat) (Env.dflt En (0 : Nat)))) : Int)) []))
                          (Tree.leaf ([TV.agg [Leaf.mk (LT.int IntKind.i64) (0 : Int), Leaf.mk (LT.int IntKind.i64) (0 : Int), Leaf.mk LT.str []], tI (0 : Int), tI (2 : Int)], [RV.any]))
                          (Tree.leaf
                            ([TV.agg
                                  [Leaf.mk (LT.int IntKind.i64) (IntKind.wrap IntKind.i64 (↑(UInt8.toNat (List.getD b (0 : Nat) (Env.dflt En (0 : Nat)))) : Int)), Leaf.mk (LT.int IntKind.i64) (IntKind.wrap IntKind.i64 (↑(UInt8.toNat (List.getD b (1 : Nat) (Env.dflt En (0 : Nat)))) : Int)),
                                    Leaf.mk LT.str []],
                                tI (2 : Int), tI (0 : Int)],
                              [RV.any]))))
                      (Tree.ite (IntKind.wrap IntKind.i64 (↑(UInt8.toNat (List.getD b (0 : Nat) (Env.dflt En (0 : Nat)))) : Int) != (0 : Int))
                        (Tree.leaf ([TV.agg [Leaf.mk (LT.int IntKind.i64) (0 : Int), Leaf.mk (LT.int IntKind.i64) (0 : Int), Leaf.mk LT.str []], tI (0 : Int), tI (2 : Int)], [RV.any]))
                        (Tree.ite (!vRight (Val.mk (IntKind.wrap IntKind.i64 (↑(UInt8.toNat (List.getD b (0 : Nat) (Env.dflt En (0 : Nat)))) : Int)) (0 : Int) []))
                          (Tree.leaf ([TV.agg [Leaf.mk (LT.int IntKind.i64) (0 : Int), Leaf.mk (LT.int IntKind.i64) (0 : Int), Leaf.mk LT.str []], tI (0 : Int), tI (2 : Int)], [RV.any]))
                          (Tree.leaf ([TV.agg [Leaf.mk (LT.int IntKind.i64) (IntKind.wrap IntKind.i64 (↑(UInt8.toNat (List.getD b (0 : Nat) (Env.dflt En (0 : Nat)))) : Int)), Leaf.mk (LT.int IntKind.i64) (0 : Int), Leaf.mk LT.str []], tI (1 : Int), tI (0 : Int)], [RV.any])))))
                    (Tree.ite false
                      (Tree.req ((0 : Int) ≤ (1 : Int) ∧ (1 : Int) < (↑(List.length b) : Int))
                        (Tree.ite (!vRight (Val.mk (IntKind.wrap IntKind.i64 (↑(UInt8.toNat (List.getD b (0 : Nat) (Env.dflt En (0 : Nat)))) : Int)) (IntKind.wrap IntKind.i64 (↑(UInt8.toNat (List.getD b (1 : Nat) (Env.dflt En (0 : Nat)))) : Int)) []))
                          (Tree.leaf ([TV.agg [Leaf.mk (LT.int IntKind.i64) (0 : Int), Leaf.mk (LT.int IntKind.i64) (0 : Int), Leaf.mk LT.str []], tI (0 : Int), tI (2 : Int)], [RV.any]))
                          (Tree.leaf
                            ([TV.agg
                                  [Leaf.mk (LT.int IntKind.i64) (IntKind.wrap IntKind.i64 (↑(UInt8.toNat (List.getD b (0 : Nat) (Env.dflt En (0 : Nat)))) : Int)), Leaf.mk (LT.int IntKind.i64) (IntKind.wrap IntKind.i64 (↑(UInt8.toNat (List.getD b (1 : Nat) (Env.dflt En (0 : Nat)))) : Int)),
                                    Leaf.mk LT.str []],
                                tI (2 : Int), tI (0 : Int)],
                              [RV.any]))))
                      (Tree.ite (IntKind.wrap IntKind.i64 (↑(UInt8.toNat (List.getD b (0 : Nat) (Env.dflt En (0 : Nat)))) : Int) != (0 : Int))
                        (Tree.leaf ([TV.agg [Leaf.mk (LT.int IntKind.i64) (0 : Int), Leaf.mk (LT.int IntKind.i64) (0 : Int), Leaf.mk LT.str []], tI (0 : Int), tI (2 : Int)], [RV.any]))
                        (Tree.ite (!vRight (Val.mk (IntKind.wrap IntKind.i64 (↑(UInt8.toNat (List.getD b (0 : Nat) (Env.dflt En (0 : Nat)))) : Int)) (0 : Int) []))
                          (Tree.leaf ([TV.agg [Leaf.mk (LT.int IntKind.i64) (0 : Int), Leaf.mk (LT.int IntKind.i64) (0 : Int), Leaf.mk LT.str []], tI (0 : Int), tI (2 : Int)], [RV.any]))
                          (Tree.leaf ([TV.agg [Leaf.mk (LT.int IntKind.i64) (IntKind.wrap IntKind.i64 (↑(UInt8.toNat (List.getD b (0 : Nat) (Env.dflt En (0 : Nat)))) : Int)), Leaf.mk (LT.int IntKind.i64) (0 : Int), Leaf.mk LT.str []], tI (1 : Int), tI (0 : Int)], [RV.any]))))))
                  (Tree.ite (IntKind.wrap IntKind.i64 (↑(UInt8.toNat (List.getD b (0 : Nat) (Env.dflt En (0 : Nat)))) : Int) == (4 : Int))
                    (Tree.ite (decide ((↑(List.length b) : Int) ≥ (2 : Int)))
                      (Tree.req ((0 : Int) ≤ (1 : Int) ∧ (1 : Int) < (↑(List.length b) : Int))
                        (Tree.ite (!vRight (Val.mk (IntKind.wrap IntKind.i64 (↑(UInt8.toNat (List.getD b (0 : Nat) (Env.dflt En (0 : Nat)))) : Int)) (IntKind.wrap IntKind.i64 (↑(UInt8.toNat (List.getD b (1 : Nat) (Env.dflt En (0 : Nat)))) : Int)) []))
                          (Tree.leaf ([TV.agg [Leaf.mk (LT.int IntKind.i64) (0 : Int), Leaf.mk (LT.int IntKind.i64) (0 : Int), Leaf.mk LT.str []], tI (0 : Int), tI (2 : Int)], [RV.any]))
                          (Tree.leaf
                            ([TV.agg
                                  [Leaf.mk (LT.int IntKind.i64) (IntKind.wrap IntKind.i64 (↑(UInt8.toNat (List.getD b (0 : Nat) (Env.dflt En (0 : Nat)))) : Int)), Leaf.mk (LT.int IntKind.i64) (IntKind.wrap IntKind.i64 (↑(UInt8.toNat (List.getD b (1 : Nat) (Env.dflt En (0 : Nat)))) : Int)),
                                    Leaf.mk LT.str []],
                                tI (2 : Int), tI (0 : Int)],
                              [RV.any]))))
                      (Tree.ite (IntKind.wrap IntKind.i64 (↑(UInt8.toNat (List.getD b (0 : Nat) (Env.dflt En (0 : Nat)))) : Int) != (0 : Int))
                        (Tree.leaf ([TV.agg [Leaf.mk (LT.int IntKind.i64) (0 : Int), Leaf.mk (LT.int IntKind.i64) (0 : Int), Leaf.mk LT.str []], tI (0 : Int), tI (2 : Int)], [RV.any]))
                        (Tree.ite (!vRight (Val.mk (IntKind.wrap IntKind.i64 (↑(UInt8.toNat (List.getD b (0 : Nat) (Env.dflt En (0 : Nat)))) : Int)) (0 : Int) []))
                          (Tree.leaf ([TV.agg [Leaf.mk (LT.int IntKind.i64) (0 : Int), Leaf.mk (LT.int IntKind.i64) (0 : Int), Leaf.mk LT.str []], tI (0 : Int), tI (2 : Int)], [RV.any]))
                          (Tree.leaf ([TV.agg [Leaf.mk (LT.int IntKind.i64) (IntKind.wrap IntKind.i64 (↑(UInt8.toNat (List.getD b (0 : Nat) (Env.dflt En (0 : Nat)))) : Int)), Leaf.mk (LT.int IntKind.i64) (0 : Int), Leaf.mk LT.str []], tI (1 : Int), tI (0 : Int)], [RV.any])))))
                    (Tree.ite false
                      (Tree.req ((0 : Int) ≤ (1 : Int) ∧ (1 : Int) < (↑(List.length b) : Int))
                        (Tree.ite (!vRight (Val.mk (IntKind.wrap IntKind.i64 (↑(UInt8.toNat (List.getD b (0 : Nat) (Env.dflt En (0 : Nat)))) : Int)) (IntKind.wrap IntKind.i64 (↑(UInt8.toNat (List.getD b (1 : Nat) (Env.dflt En (0 : Nat)))) : Int)) []))
                          (Tree.leaf ([TV.agg [Leaf.mk (LT.int IntKind.i64) (0 : Int), Leaf.mk (LT.int IntKind.i64) (0 : Int), Leaf.mk LT.str []], tI (0 : Int), tI (2 : Int)], [RV.any]))
                          (Tree.leaf
                            ([TV.agg
                                  [Leaf.mk (LT.int IntKind.i64) (IntKind.wrap IntKind.i64 (↑(UInt8.toNat (List.getD b (0 : Nat) (Env.dflt En (0 : Nat)))) : Int)), Leaf.mk (LT.int IntKind.i64) (IntKind.wrap IntKind.i64 (↑(UInt8.toNat (List.getD b (1 : Nat) (Env.dflt En (0 : Nat)))) : Int)),
                                    Leaf.mk LT.str []],
                                tI (2 : Int), tI (0 : Int)],
                              [RV.any]))))
                      (Tree.ite (IntKind.wrap IntKind.i64 (↑(UInt8.toNat (List.getD b (0 : Nat) (Env.dflt En (0 : Nat)))) : Int) != (0 : Int))
                        (Tree.leaf ([TV.agg [Leaf.mk (LT.int IntKind.i64) (0 : Int), Leaf.mk (LT.int IntKind.i64) (0 : Int), Leaf.mk LT.str []], tI (0 : Int), tI (2 : Int)], [RV.any]))
                        (Tree.ite (!vRight (Val.mk (IntKind.wrap IntKind.i64 (↑(UInt8.toNat (List.getD b (0 : Nat) (Env.dflt En (0 : Nat)))) : Int)) (0 : Int) []))
                          (Tree.leaf ([TV.agg [Leaf.mk (LT.int IntKind.i64) (0 : Int), Leaf.mk (LT.int IntKind.i64) (0 : Int), Leaf.mk LT.str []], tI (0 : Int), tI (2 : Int)], [RV.any]))
                          (Tree.leaf ([TV.agg [Leaf.mk (LT.int IntKind.i64) (IntKind.wrap IntKind.i64 (↑(UInt8.toNat (List.getD b (0 : Nat) (Env.dflt En (0 : Nat)))) : Int)), Leaf.mk (LT.int IntKind.i64) (0 : Int), Leaf.mk LT.str []], tI (1 : Int), tI (0 : Int)], [RV.any])))))))))
            (Tree.ite false
              (Tree.req ((0 : Int) ≤ (1 : Int) ∧ (1 : Int) < (↑(List.length b) : Int))
                (Tree.req
                  ((0 : Int) ≤ (2 : Int) ∧
                    (2 : Int) ≤ IntKind.wrap IntKind.i64 ((2 : Int) + IntKind.wrap IntKind.i64 (↑(UInt8.toNat (List.getD b (1 : Nat) (Env.dflt En (0 : Nat)))) : Int)) ∧
                      IntKind.wrap IntKind.i64 ((2 : Int) + IntKind.wrap IntKind.i64 (↑(UInt8.toNat (List.getD b (1 : Nat) (Env.dflt En (0 : Nat)))) : Int)) ≤ (↑(List.length b) : Int))
                  (Tree.ite
                    (!vRight
                        (Val.mk (IntKind.wrap IntKind.i64 (↑(UInt8.toNat (List.getD b (0 : Nat) (Env.dflt En (0 : Nat)))) : Int)) (0 : Int)
                          (List.drop (2 : Nat) (List.take (Int.toNat (IntKind.wrap IntKind.i64 ((2 : Int) + IntKind.wrap IntKind.i64 (↑(UInt8.toNat (List.getD b (1 : Nat) (Env.dflt En (0 : Nat)))) : Int)))) b))))
                    (Tree.leaf ([TV.agg [Leaf.mk (LT.int IntKind.i64) (0 : Int), Leaf.mk (LT.int IntKind.i64) (0 : Int), Leaf.mk LT.str []], tI (0 : Int), tI (2 : Int)], [RV.any]))
                    (Tree.leaf
                      ([TV.agg
                            [Leaf.mk (LT.int IntKind.i64) (IntKind.wrap IntKind.i64 (↑(UInt8.toNat (List.getD b (0 : Nat) (Env.dflt En (0 : Nat)))) : Int)), Leaf.mk (LT.int IntKind.i64) (0 : Int),
                              Leaf.mk LT.str (List.drop (2 : Nat) (List.take (Int.toNat (IntKind.wrap IntKind.i64 ((2 : Int) + IntKind.wrap IntKind.i64 (↑(UInt8.toNat (List.getD b (1 : Nat) (Env.dflt En (0 : Nat)))) : Int)))) b))],
                          tI (IntKind.wrap IntKind.i64 ((2 : Int) + IntKind.wrap IntKind.i64 (↑(UInt8.toNat (List.getD b (1 : Nat) (Env.dflt En (0 : Nat)))) : Int))), tI (0 : Int)],
                        [RV.any])))))
              (Tree.ite (IntKind.wrap IntKind.i64 (↑(UInt8.toNat (List.getD b (0 : Nat) (Env.dflt En (0 : Nat)))) : Int) == (3 : Int))
                (Tree.ite true
                  (Tree.ite (decide ((↑(List.length b) : Int) ≥ (2 : Int)))
                    (Tree.req ((0 : Int) ≤ (1 : Int) ∧ (1 : Int) < (↑(List.length b) : Int))
                      (Tree.ite (!vRight (Val.mk (IntKind.wrap IntKind.i64 (↑(UInt8.toNat (List.getD b (0 : Nat) (Env.dflt En (0 : Nat)))) : Int)) (IntKind.wrap IntKind.i64 (↑(UInt8.toNat (List.getD b (1 : Nat) (Env.dflt En (0 : Nat)))) : Int)) []))
                        (Tree.leaf ([TV.agg [Leaf.mk (LT.int IntKind.i64) (0 : Int), Leaf.mk (LT.int IntKind.i64) (0 : Int), Leaf.mk LT.str []], tI (0 : Int), tI (2 : Int)], [RV.any]))
                        (Tree.leaf
                          ([TV.agg
                                [Leaf.mk (LT.int IntKind.i64) (IntKind.wrap IntKind.i64 (↑(UInt8.toNat (List.getD b (0 : Nat) (Env.dflt En (0 : Nat)))) : Int)), Leaf.mk (LT.int IntKind.i64) (IntKind.wrap IntKind.i64 (↑(UInt8.toNat (List.getD b (1 : Nat) (Env.dflt En (0 : Nat)))) : Int)),
                                  Leaf.mk LT.str []],
                              tI (2 : Int), tI (0 : Int)],
                            [RV.any]))))
                    (Tree.ite (IntKind.wrap IntKind.i64 (↑(UInt8.toNat (List.getD b (0 : Nat) (Env.dflt En (0 : Nat)))) : Int) != (0 : Int))
                      (Tree.leaf ([TV.agg [Leaf.mk (LT.int IntKind.i64) (0 : Int), Leaf.mk (LT.int IntKind.i64) (0 : Int), Leaf.mk LT.str []], tI (0 : Int), tI (2 : Int)], [RV.any]))
                      (Tree.ite (!vRight (Val.mk (IntKind.wrap IntKind.i64 (↑(UInt8.toNat (List.getD b (0 : Nat) (Env.dflt En (0 : Nat)))) : Int)) (0 : Int) []))
                        (Tree.leaf ([TV.agg [Leaf.mk (LT.int IntKind.i64) (0 : Int), Leaf.mk (LT.int IntKind.i64) (0 : Int), Leaf.mk LT.str []], tI (0 : Int), tI (2 : Int)], [RV.any]))
                        (Tree.leaf ([TV.agg [Leaf.mk (LT.int IntKind.i64) (IntKind.wrap IntKind.i64 (↑(UInt8.toNat (List.getD b (0 : Nat) (Env.dflt En (0 : Nat)))) : Int)), Leaf.mk (LT.int IntKind.i64) (0 : Int), Leaf.mk LT.str []], tI (1 : Int), tI (0 : Int)], [RV.any])))))
                  (Tree.ite false
                    (Tree.req ((0 : Int) ≤ (1 : Int) ∧ (1 : Int) < (↑(List.length b) : Int))
                      (Tree.ite (!vRight (Val.mk (IntKind.wrap IntKind.i64 (↑(UInt8.toNat (List.getD b (0 : Nat) (Env.dflt En (0 : Nat)))) : Int)) (IntKind.wrap IntKind.i64 (↑(UInt8.toNat (List.getD b (1 : Nat) (Env.dflt En (0 : Nat)))) : Int)) []))
                        (Tree.leaf ([TV.agg [Leaf.mk (LT.int IntKind.i64) (0 : Int), Leaf.mk (LT.int IntKind.i64) (0 : Int), Leaf.mk LT.str []], tI (0 : Int), tI (2 : Int)], [RV.any]))
                        (Tree.leaf
                          ([TV.agg
                                [Leaf.mk (LT.int IntKind.i64) (IntKind.wrap IntKind.i64 (↑(UInt8.toNat (List.getD b (0 : Nat) (Env.dflt En (0 : Nat)))) : Int)), Leaf.mk (LT.int IntKind.i64) (IntKind.wrap IntKind.i64 (↑(UInt8.toNat (List.getD b (1 : Nat) (Env.dflt En (0 : Nat)))) : Int)),
                                  Leaf.mk LT.str []],
                              tI (2 : Int), tI (0 : Int)],
                            [RV.any]))))
                    (Tree.ite (IntKind.wrap IntKind.i64 (↑(UInt8.toNat (List.getD b (0 : Nat) (Env.dflt En (0 : Nat)))) : Int) != (0 : Int))
                      (Tree.leaf ([TV.agg [Leaf.mk (LT.int IntKind.i64) (0 : Int), Leaf.mk (LT.int IntKind.i64) (0 : Int), Leaf.mk LT.str []], tI (0 : Int), tI (2 : Int)], [RV.any]))
                      (Tree.ite (!vRight (Val.mk (IntKind.wrap IntKind.i64 (↑(UInt8.toNat (List.getD b (0 : Nat) (Env.dflt En (0 : Nat)))) : Int)) (0 : Int) []))
                        (Tree.leaf ([TV.agg [Leaf.mk (LT.int IntKind.i64) (0 : Int), Leaf.mk (LT.int IntKind.i64) (0 : Int), Leaf.mk LT.str []], tI (0 : Int), tI (2 : Int)], [RV.any]))
                        (Tree.leaf ([TV.agg [Leaf.mk (LT.int IntKind.i64) (IntKind.wrap IntKind.i64 (↑(UInt8.toNat (List.getD b (0 : Nat) (Env.dflt En (0 : Nat)))) : Int)), Leaf.mk (LT.int IntKind.i64) (0 : Int), Leaf.mk LT.str []], tI (1 : Int), tI (0 : Int)], [RV.any]))))))
                (Tree.ite (IntKind.wrap IntKind.i64 (↑(UInt8.toNat (List.getD b (0 : Nat) (Env.dflt En (0 : Nat)))) : Int) == (4 : Int))
                  (Tree.ite (decide ((↑(List.length b) : Int) ≥ (2 : Int)))
                    (Tree.req ((0 : Int) ≤ (1 : Int) ∧ (1 : Int) < (↑(List.length b) : Int))
                      (Tree.ite (!vRight (Val.mk (IntKind.wrap IntKind.i64 (↑(UInt8.toNat (List.getD b (0 : Nat) (Env.dflt En (0 : Nat)))) : Int)) (IntKind.wrap IntKind.i64 (↑(UInt8.toNat (List.getD b (1 : Nat) (Env.dflt En (0 : Nat)))) : Int)) []))
                        (Tree.leaf ([TV.agg [Leaf.mk (LT.int IntKind.i64) (0 : Int), Leaf.mk (LT.int IntKind.i64) (0 : Int), Leaf.mk LT.str []], tI (0 : Int), tI (2 : Int)], [RV.any]))
                        (Tree.leaf
                          ([TV.agg
                                [Leaf.mk (LT.int IntKind.i64) (IntKind.wrap IntKind.i64 (↑(UInt8.toNat (List.getD b (0 : Nat) (Env.dflt En (0 : Nat)))) : Int)), Leaf.mk (LT.int IntKind.i64) (IntKind.wrap IntKind.i64 (↑(UInt8.toNat (List.getD b (1 : Nat) (Env.dflt En (0 : Nat)))) : Int)),
                                  Leaf.mk LT.str []],
                              tI (2 : Int), tI (0 : Int)],
                            [RV.any]))))
                    (Tree.ite (IntKind.wrap IntKind.i64 (↑(UInt8.toNat (List.getD b (0 : Nat) (Env.dflt En (0 : Nat)))) : Int) != (0 : Int))
                      (Tree.leaf ([TV.agg [Leaf.mk (LT.int IntKind.i64) (0 : Int), Leaf.mk (LT.int IntKind.i64) (0 : Int), Leaf.mk LT.str []], tI (0 : Int), tI (2 : Int)], [RV.any]))
                      (Tree.ite (!vRight (Val.mk (IntKind.wrap IntKind.i64 (↑(UInt8.toNat (List.getD b (0 : Nat) (Env.dflt En (0 : Nat)))) : Int)) (0 : Int) []))
                        (Tree.leaf ([TV.agg [Leaf.mk (LT.int IntKind.i64) (0 : Int), Leaf.mk (LT.int IntKind.i64) (0 : Int), Leaf.mk LT.str []], tI (0 : Int), tI (2 : Int)], [RV.any]))
                        (Tree.leaf ([TV.agg [Leaf.mk (LT.int IntKind.i64) (IntKind.wrap IntKind.i64 (↑(UInt8.toNat (List.getD b (0 : Nat) (Env.dflt En (0 : Nat)))) : Int)), Leaf.mk (LT.int IntKind.i64) (0 : Int), Leaf.mk LT.str []], tI (1 : Int), tI (0 : Int)], [RV.any])))))
                  (Tree.ite false
                    (Tree.req ((0 : Int) ≤ (1 : Int) ∧ (1 : Int) < (↑(List.length b) : Int))
                      (Tree.ite (!vRight (Val.mk (IntKind.wrap IntKind.i64 (↑(UInt8.toNat (List.getD b (0 : Nat) (Env.dflt En (0 : Nat)))) : Int)) (IntKind.wrap IntKind.i64 (↑(UInt8.toNat (List.getD b (1 : Nat) (Env.dflt En (0 : Nat)))) : Int)) []))
                        (Tree.leaf ([TV.agg [Leaf.mk (LT.int IntKind.i64) (0 : Int), Leaf.mk (LT.int IntKind.i64) (0 : Int), Leaf.mk LT.str []], tI (0 : Int), tI (2 : Int)], [RV.any]))
                        (Tree.leaf
                          ([TV.agg
                                [Leaf.mk (LT.int IntKind.i64) (IntKind.wrap IntKind.i64 (↑(UInt8.toNat (List.getD b (0 : Nat) (Env.dflt En (0 : Nat)))) : Int)), Leaf.mk (LT.int IntKind.i64) (IntKind.wrap IntKind.i64 (↑(UInt8.toNat (List.getD b (1 : Nat) (Env.dflt En (0 : Nat)))) : Int)),
                                  Leaf.mk LT.str []],
                              tI (2 : Int), tI (0 : Int)],
                            [RV.any]))))
                    (Tree.ite (IntKind.wrap IntKind.i64 (↑(UInt8.toNat (List.getD b (0 : Nat) (Env.dflt En (0 : Nat)))) : Int) != (0 : Int))
                      (Tree.leaf ([TV.agg [Leaf.mk (LT.int IntKind.i64) (0 : Int), Leaf.mk (LT.int IntKind.i64) (0 : Int), Leaf.mk LT.str []], tI (0 : Int), tI (2 : Int)], [RV.any]))
                      (Tree.ite (!vRight (Val.mk (IntKind.wrap IntKind.i64 (↑(UInt8.toNat (List.getD b (0 : Nat) (Env.dflt En (0 : Nat)))) : Int)) (0 : Int) []))
                        (Tree.leaf ([TV.agg [Leaf.mk (LT.int IntKind.i64) (0 : Int), Leaf.mk (LT.int IntKind.i64) (0 : Int), Leaf.mk LT.str []], tI (0 : Int), tI (2 : Int)], [RV.any]))
                        (Tree.leaf ([TV.agg [Leaf.mk (LT.int IntKind.i64) (IntKind.wrap IntKind.i64 (↑(UInt8.toNat (List.getD b (0 : Nat) (Env.dflt En (0 : Nat)))) : Int)), Leaf.mk (LT.int IntKind.i64) (0 : Int), Leaf.mk LT.str []], tI (1 : Int), tI (0 : Int)], [RV.any])))))))))
          (Tree.ite false
            (Tree.req ((0 : Int) ≤ (1 : Int) ∧ (1 : Int) < (↑(List.length b) : Int))
              (Tree.ite (decide ((↑(List.length b) : Int) ≥ IntKind.wrap IntKind.i64 ((2 : Int) + IntKind.wrap IntKind.i64 (↑(UInt8.toNat (List.getD b (1 : Nat) (Env.dflt En (0 : Nat)))) : Int))))
                (Tree.req ((0 : Int) ≤ (1 : Int) ∧ (1 : Int) < (↑(List.length b) : Int))
                  (Tree.req
                    ((0 : Int) ≤ (2 : Int) ∧
                      (2 : Int) ≤ IntKind.wrap IntKind.i64 ((2 : Int) + IntKind.wrap IntKind.i64 (↑(UInt8.toNat (List.getD b (1 : Nat) (Env.dflt En (0 : Nat)))) : Int)) ∧
                        IntKind.wrap IntKind.i64 ((2 : Int) + IntKind.wrap IntKind.i64 (↑(UInt8.toNat (List.getD b (1 : Nat) (Env.dflt En (0 : Nat)))) : Int)) ≤ (↑(List.length b) : Int))
                    (Tree.ite
                      (!vRight
                          (Val.mk (IntKind.wrap IntKind.i64 (↑(UInt8.toNat (List.getD b (0 : Nat) (Env.dflt En (0 : Nat)))) : Int)) (0 : Int)
                            (List.drop (2 : Nat) (List.take (Int.toNat (IntKind.wrap IntKind.i64 ((2 : Int) + IntKind.wrap IntKind.i64 (↑(UInt8.toNat (List.getD b (1 : Nat) (Env.dflt En (0 : Nat)))) : Int)))) b))))
                      (Tree.leaf ([TV.agg [Leaf.mk (LT.int IntKind.i64) (0 : Int), Leaf.mk (LT.int IntKind.i64) (0 : Int), Leaf.mk LT.str []], tI (0 : Int), tI (2 : Int)], [RV.any]))
                      (Tree.leaf
                        ([TV.agg
                              [Leaf.mk (LT.int IntKind.i64) (IntKind.wrap IntKind.i64 (↑(UInt8.toNat (List.getD b (0 : Nat) (Env.dflt En (0 : Nat)))) : Int)), Leaf.mk (LT.int IntKind.i64) (0 : Int),
                                Leaf.mk LT.str (List.drop (2 : Nat) (List.take (Int.toNat (IntKind.wrap IntKind.i64 ((2 : Int) + IntKind.wrap IntKind.i64 (↑(UInt8.toNat (List.getD b (1 : Nat) (Env.dflt En (0 : Nat)))) : Int)))) b))],
                            tI (IntKind.wrap IntKind.i64 ((2 : Int) + IntKind.wrap IntKind.i64 (↑(UInt8.toNat (List.getD b (1 : Nat) (Env.dflt En (0 : Nat)))) : Int))), tI (0 : Int)],
                          [RV.any])))))
                (Tree.ite (IntKind.wrap IntKind.i64 (↑(UInt8.toNat (List.getD b (0 : Nat) (Env.dflt En (0 : Nat)))) : Int) == (3 : Int))
                  (Tree.ite true
                    (Tree.ite (decide ((↑(List.length b) : Int) ≥ (2 : Int)))
                      (Tree.req ((0 : Int) ≤ (1 : Int) ∧ (1 : Int) < (↑(List.length b) : Int))
                        (Tree.ite (!vRight (Val.mk (IntKind.wrap IntKind.i64 (↑(UInt8.toNat (List.getD b (0 : Nat) (Env.dflt En (0 : Nat)))) : Int)) (IntKind.wrap IntKind.i64 (↑(UInt8.toNat (List.getD b (1 : Nat) (Env.dflt En (0 : Nat)))) : Int)) []))
                          (Tree.leaf ([TV.agg [Leaf.mk (LT.int IntKind.i64) (0 : Int), Leaf.mk (LT.int IntKind.i64) (0 : Int), Leaf.mk LT.str []], tI (0 : Int), tI (2 : Int)], [RV.any]))
                          (Tree.leaf
                            ([TV.agg
                                  [Leaf.mk (LT.int IntKind.i64) (IntKind.wrap IntKind.i64 (↑(UInt8.toNat (List.getD b (0 : Nat) (Env.dflt En (0 : Nat)))) : Int)), Leaf.mk (LT.int IntKind.i64) (IntKind.wrap IntKind.i64 (↑(UInt8.toNat (List.getD b (1 : Nat) (Env.dflt En (0 : Nat)))) : Int)),
                                    Leaf.mk LT.str []],
                                tI (2 : Int), tI (0 : Int)],
                              [RV.any]))))
                      (Tree.ite (IntKind.wrap IntKind.i64 (↑(UInt8.toNat (List.getD b (0 : Nat) (Env.dflt En (0 : Nat)))) : Int) != (0 : Int))
                        (Tree.leaf ([TV.agg [Leaf.mk (LT.int IntKind.i64) (0 : Int), Leaf.mk (LT.int IntKind.i64) (0 : Int), Leaf.mk LT.str []], tI (0 : Int), tI (2 : Int)], [RV.any]))
                        (Tree.ite (!vRight (Val.mk (IntKind.wrap IntKind.i64 (↑(UInt8.toNat (List.getD b (0 : Nat) (Env.dflt En (0 : Nat)))) : Int)) (0 : Int) []))
                          (Tree.leaf ([TV.agg [Leaf.mk (LT.int IntKind.i64) (0 : Int), Leaf.mk (LT.int IntKind.i64) (0 : Int), Leaf.mk LT.str []], tI (0 : Int), tI (2 : Int)], [RV.any]))
                          (Tree.leaf ([TV.agg [Leaf.mk (LT.int IntKind.i64) (IntKind.wrap IntKind.i64 (↑(UInt8.toNat (List.getD b (0 : Nat) (Env.dflt En (0 : Nat)))) : Int)), Leaf.mk (LT.int IntKind.i64) (0 : Int), Leaf.mk LT.str []], tI (1 : Int), tI (0 : Int)], [RV.any])))))
                    (Tree.ite false
                      (Tree.req ((0 : Int) ≤ (1 : Int) ∧ (1 : Int) < (↑(List.length b) : Int))
                        (Tree.ite (!vRight (Val.mk (IntKind.wrap IntKind.i64 (↑(UInt8.toNat (List.getD b (0 : Nat) (Env.dflt En (0 : Nat)))) : Int)) (IntKind.wrap IntKind.i64 (↑(UInt8.toNat (List.getD b (1 : Nat) (Env.dflt En (0 : Nat)))) : Int)) []))
                          (Tree.leaf ([TV.agg [Leaf.mk (LT.int IntKind.i64) (0 : Int), Leaf.mk (LT.int IntKind.i64) (0 : Int), Leaf.mk LT.str []], tI (0 : Int), tI (2 : Int)], [RV.any]))
                          (Tree.leaf
                            ([TV.agg
                                  [Leaf.mk (LT.int IntKind.i64) (IntKind.wrap IntKind.i64 (↑(UInt8.toNat (List.getD b (0 : Nat) (Env.dflt En (0 : Nat)))) : Int)), Leaf.mk (LT.int IntKind.i64) (IntKind.wrap IntKind.i64 (↑(UInt8.toNat (List.getD b (1 : Nat) (Env.dflt En (0 : Nat)))) : Int)),
                                    Leaf.mk LT.str []],
                                tI (2 : Int), tI (0 : Int)],
                              [RV.any]))))
                      (Tree.ite (IntKind.wrap IntKind.i64 (↑(UInt8.toNat (List.getD b (0 : Nat) (Env.dflt En (0 : Nat)))) : Int) != (0 : Int))
                        (Tree.leaf ([TV.agg [Leaf.mk (LT.int IntKind.i64) (0 : Int), Leaf.mk (LT.int IntKind.i64) (0 : Int), Leaf.mk LT.str []], tI (0 : Int), tI (2 : Int)], [RV.any]))
                        (Tree.ite (!vRight (Val.mk (IntKind.wrap IntKind.i64 (↑(UInt8.toNat (List.getD b (0 : Nat) (Env.dflt En (0 : Nat)))) : Int)) (0 : Int) []))
                          (Tree.leaf ([TV.agg [Leaf.mk (LT.int IntKind.i64) (0 : Int), Leaf.mk (LT.int IntKind.i64) (0 : Int), Leaf.mk LT.str []], tI (0 : Int), tI (2 : Int)], [RV.any]))
                          (Tree.leaf ([TV.agg [Leaf.mk (LT.int IntKind.i64) (IntKind.wrap IntKind.i64 (↑(UInt8.toNat (List.getD b (0 : Nat) (Env.dflt En (0 : Nat)))) : Int)), Leaf.mk (LT.int IntKind.i64) (0 : Int), Leaf.mk LT.str []], tI (1 : Int), tI (0 : Int)], [RV.any]))))))
                  (Tree.ite (IntKind.wrap IntKind.i64 (↑(UInt8.toNat (List.getD b (0 : Nat) (Env.dflt En (0 : Nat)))) : Int) == (4 : Int))
                    (Tree.ite (decide ((↑(List.length b) : Int) ≥ (2 : Int)))
                      (Tree.req ((0 : Int) ≤ (1 : Int) ∧ (1 : Int) < (↑(List.length b) : Int))
                        (Tree.ite (!vRight (Val.mk (IntKind.wrap IntKind.i64 (↑(UInt8.toNat (List.getD b (0 : Nat) (Env.dflt En (0 : Nat)))) : Int)) (IntKind.wrap IntKind.i64 (↑(UInt8.toNat (List.getD b (1 : Nat) (Env.dflt En (0 : Nat)))) : Int)) []))
                          (Tree.leaf ([TV.agg [Leaf.mk (LT.int IntKind.i64) (0 : Int), Leaf.mk (LT.int IntKind.i64) (0 : Int), Leaf.mk LT.str []], tI (0 : Int), tI (2 : Int)], [RV.any]))
                          (Tree.leaf
                            ([TV.agg
                                  [Leaf.mk (LT.int IntKind.i64) (IntKind.wrap IntKind.i64 (↑(UInt8.toNat (List.getD b (0 : Nat) (Env.dflt En (0 : Nat)))) : Int)), Leaf.mk (LT.int IntKind.i64) (IntKind.wrap IntKind.i64 (↑(UInt8.toNat (List.getD b (1 : Nat) (Env.dflt En (0 : Nat)))) : Int)),
                                    Leaf.mk LT.str []],
                                tI (2 : Int), tI (0 : Int)],
                              [RV.any]))))
                      (Tree.ite (IntKind.wrap IntKind.i64 (↑(UInt8.toNat (List.getD b (0 : Nat) (Env.dflt En (0 : Nat)))) : Int) != (0 : Int))
                        (Tree.leaf ([TV.agg [Leaf.mk (LT.int IntKind.i64) (0 : Int), Leaf.mk (LT.int IntKind.i64) (0 : Int), Leaf.mk LT.str []], tI (0 : Int), tI (2 : Int)], [RV.any]))
                        (Tree.ite (!vRight (Val.mk (IntKind.wrap IntKind.i64 (↑(UInt8.toNat (List.getD b (0 : Nat) (Env.dflt En (0 : Nat)))) : Int)) (0 : Int) []))
                          (Tree.leaf ([TV.agg [Leaf.mk (LT.int IntKind.i64) (0 : Int), Leaf.mk (LT.int IntKind.i64) (0 : Int), Leaf.mk LT.str []], tI (0 : Int), tI (2 : Int)], [RV.any]))
                          (Tree.leaf ([TV.agg [Leaf.mk (LT.int IntKind.i64) (IntKind.wrap IntKind.i64 (↑(UInt8.toNat (List.getD b (0 : Nat) (Env.dflt En (0 : Nat)))) : Int)), Leaf.mk (LT.int IntKind.i64) (0 : Int), Leaf.mk LT.str []], tI (1 : Int), tI (0 : Int)], [RV.any])))))
                    (Tree.ite false
                      (Tree.req ((0 : Int) ≤ (1 : Int) ∧ (1 : Int) < (↑(List.length b) : Int))
                        (Tree.ite (!vRight (Val.mk (IntKind.wrap IntKind.i64 (↑(UInt8.toNat (List.getD b (0 : Nat) (Env.dflt En (0 : Nat)))) : Int)) (IntKind.wrap IntKind.i64 (↑(UInt8.toNat (List.getD b (1 : Nat) (Env.dflt En (0 : Nat)))) : Int)) []))
                          (Tree.leaf ([TV.agg [Leaf.mk (LT.int IntKind.i64) (0 : Int), Leaf.mk (LT.int IntKind.i64) (0 : Int), Leaf.mk LT.str []], tI (0 : Int), tI (2 : Int)], [RV.any]))
                          (Tree.leaf
                            ([TV.agg
                                  [Leaf.mk (LT.int IntKind.i64) (IntKind.wrap IntKind.i64 (↑(UInt8.toNat (List.getD b (0 : Nat) (Env.dflt En (0 : Nat)))) : Int)), Leaf.mk (LT.int IntKind.i64) (IntKind.wrap IntKind.i64 (↑(UInt8.toNat (List.getD b (1 : Nat) (Env.dflt En (0 : Nat)))) : Int)),
                                    Leaf.mk LT.str []],
                                tI (2 : Int), tI (0 : Int)],
                              [RV.any]))))
                      (Tree.ite (IntKind.wrap IntKind.i64 (↑(UInt8.toNat (List.getD b (0 : Nat) (Env.dflt En (0 : Nat)))) : Int) != (0 : Int))
                        (Tree.leaf ([TV.agg [Leaf.mk (LT.int IntKind.i64) (0 : Int), Leaf.mk (LT.int IntKind.i64) (0 : Int), Leaf.mk LT.str []], tI (0 : Int), tI (2 : Int)], [RV.any]))
                        (Tree.ite (!vRight (Val.mk (IntKind.wrap IntKind.i64 (↑(UInt8.toNat (List.getD b (0 : Nat) (Env.dflt En (0 : Nat)))) : Int)) (0 : Int) []))
                          (Tree.leaf ([TV.agg [Leaf.mk (LT.int IntKind.i64) (0 : Int), Leaf.mk (LT.int IntKind.i64) (0 : Int), Leaf.mk LT.str []], tI (0 : Int), tI (2 : Int)], [RV.any]))
                          (Tree.leaf ([TV.agg [Leaf.mk (LT.int IntKind.i64) (IntKind.wrap IntKind.i64 (↑(UInt8.toNat (List.getD b (0 : Nat) (Env.dflt En (0 : Nat)))) : Int)), Leaf.mk (LT.int IntKind.i64) (0 : Int), Leaf.mk LT.str []], tI (1 : Int), tI (0 : Int)], [RV.any])))))))))
            (Tree.ite false
              (Tree.req ((0 : Int) ≤ (1 : Int) ∧ (1 : Int) < (↑(List.length b) : Int))
                (Tree.req
                  ((0 : Int) ≤ (2 : Int) ∧
                    (2 : Int) ≤ IntKind.wrap IntKind.i64 ((2 : Int) + IntKind.wrap IntKind.i64 (↑(UInt8.toNat (List.getD b (1 : Nat) (Env.dflt En (0 : Nat)))) : Int)) ∧
                      IntKind.wrap IntKind.i64 ((2 : Int) + IntKind.wrap IntKind.i64 (↑(UInt8.toNat (List.getD b (1 : Nat) (Env.dflt En (0 : Nat)))) : Int)) ≤ (↑(List.length b) : Int))
                  (Tree.ite
                    (!vRight
                        (Val.mk (IntKind.wrap IntKind.i64 (↑(UInt8.toNat (List.getD b (0 : Nat) (Env.dflt En (0 : Nat)))) : Int)) (0 : Int)
                          (List.drop (2 : Nat) (List.take (Int.toNat (IntKind.wrap IntKind.i64 ((2 : Int) + IntKind.wrap IntKind.i64 (↑(UInt8.toNat (List.getD b (1 : Nat) (Env.dflt En (0 : Nat)))) : Int)))) b))))
                    (Tree.leaf ([TV.agg [Leaf.mk (LT.int IntKind.i64) (0 : Int), Leaf.mk (LT.int IntKind.i64) (0 : Int), Leaf.mk LT.str []], tI (0 : Int), tI (2 : Int)], [RV.any]))
                    (Tree.leaf
                      ([TV.agg
                            [Leaf.mk (LT.int IntKind.i64) (IntKind.wrap IntKind.i64 (↑(UInt8.toNat (List.getD b (0 : Nat) (Env.dflt En (0 : Nat)))) : Int)), Leaf.mk (LT.int IntKind.i64) (0 : Int),
                              Leaf.mk LT.str (List.drop (2 : Nat) (List.take (Int.toNat (IntKind.wrap IntKind.i64 ((2 : Int) + IntKind.wrap IntKind.i64 (↑(UInt8.toNat (List.getD b (1 : Nat) (Env.dflt En (0 : Nat)))) : Int)))) b))],
                          tI (IntKind.wrap IntKind.i64 ((2 : Int) + IntKind.wrap IntKind.i64 (↑(UInt8.toNat (List.getD b (1 : Nat) (Env.dflt En (0 : Nat)))) : Int))), tI (0 : Int)],
                        [RV.any])))))
              (Tree.ite (IntKind.wrap IntKind.i64 (↑(UInt8.toNat (List.getD b (0 : Nat) (Env.dflt En (0 : Nat)))) : Int) == (3 : Int))
                (Tree.ite true
                  (Tree.ite (decide ((↑(List.length b) : Int) ≥ (2 : Int)))
                    (Tree.req ((0 : Int) ≤ (1 : Int) ∧ (1 : Int) < (↑(List.length b) : Int))
                      (Tree.ite (!vRight (Val.mk (IntKind.wrap IntKind.i64 (↑(UInt8.toNat (List.getD b (0 : Nat) (Env.dflt En (0 : Nat)))) : Int)) (IntKind.wrap IntKind.i64 (↑(UInt8.toNat (List.getD b (1 : Nat) (Env.dflt En (0 : Nat)))) : Int)) []))
                        (Tree.leaf ([TV.agg [Leaf.mk (LT.int IntKind.i64) (0 : Int), Leaf.mk (LT.int IntKind.i64) (0 : Int), Leaf.mk LT.str []], tI (0 : Int), tI (2 : Int)], [RV.any]))
                        (Tree.leaf
                          ([TV.agg
                                [Leaf.mk (LT.int IntKind.i64) (IntKind.wrap IntKind.i64 (↑(UInt8.toNat (List.getD b (0 : Nat) (Env.dflt En (0 : Nat)))) : Int)), Leaf.mk (LT.int IntKind.i64) (IntKind.wrap IntKind.i64 (↑(UInt8.toNat (List.getD b (1 : Nat) (Env.dflt En (0 : Nat)))) : Int)),
                                  Leaf.mk LT.str []],
                              tI (2 : Int), tI (0 : Int)],
                            [RV.any]))))
                    (Tree.ite (IntKind.wrap IntKind.i64 (↑(UInt8.toNat (List.getD b (0 : Nat) (Env.dflt En (0 : Nat)))) : Int) != (0 : Int))
                      (Tree.leaf ([TV.agg [Leaf.mk (LT.int IntKind.i64) (0 : Int), Leaf.mk (LT.int IntKind.i64) (0 : Int), Leaf.mk LT.str []], tI (0 : Int), tI (2 : Int)], [RV.any]))
                      (Tree.ite (!vRight (Val.mk (IntKind.wrap IntKind.i64 (↑(UInt8.toNat (List.getD b (0 : Nat) (Env.dflt En (0 : Nat)))) : Int)) (0 : Int) []))
                        (Tree.leaf ([TV.agg [Leaf.mk (LT.int IntKind.i64) (0 : Int), Leaf.mk (LT.int IntKind.i64) (0 : Int), Leaf.mk LT.str []], tI (0 : Int), tI (2 : Int)], [RV.any]))
                        (Tree.leaf ([TV.agg [Leaf.mk (LT.int IntKind.i64) (IntKind.wrap IntKind.i64 (↑(UInt8.toNat (List.getD b (0 : Nat) (Env.dflt En (0 : Nat)))) : Int)), Leaf.mk (LT.int IntKind.i64) (0 : Int), Leaf.mk LT.str []], tI (1 : Int), tI (0 : Int)], [RV.any])))))
                  (Tree.ite false
                    (Tree.req ((0 : Int) ≤ (1 : Int) ∧ (1 : Int) < (↑(List.length b) : Int))
                      (Tree.ite (!vRight (Val.mk (IntKind.wrap IntKind.i64 (↑(UInt8.toNat (List.getD b (0 : Nat) (Env.dflt En (0 : Nat)))) : Int)) (IntKind.wrap IntKind.i64 (↑(UInt8.toNat (List.getD b (1 : Nat) (Env.dflt En (0 : Nat)))) : Int)) []))
                        (Tree.leaf ([TV.agg [Leaf.mk (LT.int IntKind.i64) (0 : Int), Leaf.mk (LT.int IntKind.i64) (0 : Int), Leaf.mk LT.str []], tI (0 : Int), tI (2 : Int)], [RV.any]))
                        (Tree.leaf
                          ([TV.agg
                                [Leaf.mk (LT.int IntKind.i64) (IntKind.wrap IntKind.i64 (↑(UInt8.toNat (List.getD b (0 : Nat) (Env.dflt En (0 : Nat)))) : Int)), Leaf.mk (LT.int IntKind.i64) (IntKind.wrap IntKind.i64 (↑(UInt8.toNat (List.getD b (1 : Nat) (Env.dflt En (0 : Nat)))) : Int)),
                                  Leaf.mk LT.str []],
                              tI (2 : Int), tI (0 : Int)],
                            [RV.any]))))
                    (Tree.ite (IntKind.wrap IntKind.i64 (↑(UInt8.toNat (List.getD b (0 : Nat) (Env.dflt En (0 : Nat)))) : Int) != (0 : Int))
                      (Tree.leaf ([TV.agg [Leaf.mk (LT.int IntKind.i64) (0 : Int), Leaf.mk (LT.int IntKind.i64) (0 : Int), Leaf.mk LT.str []], tI (0 : Int), tI (2 : Int)], [RV.any]))
                      (Tree.ite (!vRight (Val.mk (IntKind.wrap IntKind.i64 (↑(UInt8.toNat (List.getD b (0 : Nat) (Env.dflt En (0 : Nat)))) : Int)) (0 : Int) []))
                        (Tree.leaf ([TV.agg [Leaf.mk (LT.int IntKind.i64) (0 : Int), Leaf.mk (LT.int IntKind.i64) (0 : Int), Leaf.mk LT.str []], tI (0 : Int), tI (2 : Int)], [RV.any]))
                        (Tree.leaf ([TV.agg [Leaf.mk (LT.int IntKind.i64) (IntKind.wrap IntKind.i64 (↑(UInt8.toNat (List.getD b (0 : Nat) (Env.dflt En (0 : Nat)))) : Int)), Leaf.mk (LT.int IntKind.i64) (0 : Int), Leaf.mk LT.str []], tI (1 : Int), tI (0 : Int)], [RV.any]))))))
                (Tree.ite (IntKind.wrap IntKind.i64 (↑(UInt8.toNat (List.getD b (0 : Nat) (Env.dflt En (0 : Nat)))) : Int) == (4 : Int))
                  (Tree.ite (decide ((↑(List.length b) : Int) ≥ (2 : Int)))
                    (Tree.req ((0 : Int) ≤ (1 : Int) ∧ (1 : Int) < (↑(List.length b) : Int))
                      (Tree.ite (!vRight (Val.mk (IntKind.wrap IntKind.i64 (↑(UInt8.toNat (List.getD b (0 : Nat) (Env.dflt En (0 : Nat)))) : Int)) (IntKind.wrap IntKind.i64 (↑(UInt8.toNat (List.getD b (1 : Nat) (Env.dflt En (0 : Nat)))) : Int)) []))
                        (Tree.leaf ([TV.agg [Leaf.mk (LT.int IntKind.i64) (0 : Int), Leaf.mk (LT.int IntKind.i64) (0 : Int), Leaf.mk LT.str []], tI (0 : Int), tI (2 : Int)], [RV.any]))
                        (Tree.leaf
                          ([TV.agg
                                [Leaf.mk (LT.int IntKind.i64) (IntKind.wrap IntKind.i64 (↑(UInt8.toNat (List.getD b (0 : Nat) (Env.dflt En (0 : Nat)))) : Int)), Leaf.mk (LT.int IntKind.i64) (IntKind.wrap IntKind.i64 (↑(UInt8.toNat (List.getD b (1 : Nat) (Env.dflt En (0 : Nat)))) : Int)),
                                  Leaf.mk LT.str []],
                              tI (2 : Int), tI (0 : Int)],
                            [RV.any]))))
                    (Tree.ite (IntKind.wrap IntKind.i64 (↑(UInt8.toNat (List.getD b (0 : Nat) (Env.dflt En (0 : Nat)))) : Int) != (0 : Int))
                      (Tree.leaf ([TV.agg [Leaf.mk (LT.int IntKind.i64) (0 : Int), Leaf.mk (LT.int IntKind.i64) (0 : Int), Leaf.mk LT.str []], tI (0 : Int), tI (2 : Int)], [RV.any]))
                      (Tree.ite (!vRight (Val.mk (IntKind.wrap IntKind.i64 (↑(UInt8.toNat (List.getD b (0 : Nat) (Env.dflt En (0 : Nat)))) : Int)) (0 : Int) []))
                        (Tree.leaf ([TV.agg [Leaf.mk (LT.int IntKind.i64) (0 : Int), Leaf.mk (LT.int IntKind.i64) (0 : Int), Leaf.mk LT.str []], tI (0 : Int), tI (2 : Int)], [RV.any]))
                        (Tree.leaf ([TV.agg [Leaf.mk (LT.int IntKind.i64) (IntKind.wrap IntKind.i64 (↑(UInt8.toNat (List.getD b (0 : Nat) (Env.dflt En (0 : Nat)))) : Int)), Leaf.mk (LT.int IntKind.i64) (0 : Int), Leaf.mk LT.str []], tI (1 : Int), tI (0 : Int)], [RV.any])))))
                  (Tree.ite false
                    (Tree.req ((0 : Int) ≤ (1 : Int) ∧ (1 : Int) < (↑(List.length b) : Int))
                      (Tree.ite (!vRight (Val.mk (IntKind.wrap IntKind.i64 (↑(UInt8.toNat (List.getD b (0 : Nat) (Env.dflt En (0 : Nat)))) : Int)) (IntKind.wrap IntKind.i64 (↑(UInt8.toNat (List.getD b (1 : Nat) (Env.dflt En (0 : Nat)))) : Int)) []))
                        (Tree.leaf ([TV.agg [Leaf.mk (LT.int IntKind.i64) (0 : Int), Leaf.mk (LT.int IntKind.i64) (0 : Int), Leaf.mk LT.str []], tI (0 : Int), tI (2 : Int)], [RV.any]))
                        (Tree.leaf
                          ([TV.agg
                                [Leaf.mk (LT.int IntKind.i64) (IntKind.wrap IntKind.i64 (↑(UInt8.toNat (List.getD b (0 : Nat) (Env.dflt En (0 : Nat)))) : Int)), Leaf.mk (LT.int IntKind.i64) (IntKind.wrap IntKind.i64 (↑(UInt8.toNat (List.getD b (1 : Nat) (Env.dflt En (0 : Nat)))) : Int)),
                                  Leaf.mk LT.str []],
                              tI (2 : Int), tI (0 : Int)],
                            [RV.any]))))
                    (Tree.ite (IntKind.wrap IntKind.i64 (↑(UInt8.toNat (List.getD b (0 : Nat) (Env.dflt En (0 : Nat)))) : Int) != (0 : Int))
                      (Tree.leaf ([TV.agg [Leaf.mk (LT.int IntKind.i64) (0 : Int), Leaf.mk (LT.int IntKind.i64) (0 : Int), Leaf.mk LT.str []], tI (0 : Int), tI (2 : Int)], [RV.any]))
                      (Tree.ite (!vRight (Val.mk (IntKind.wrap IntKind.i64 (↑(UInt8.toNat (List.getD b (0 : Nat) (Env.dflt En (0 : Nat)))) : Int)) (0 : Int) []))
                        (Tree.leaf ([TV.agg [Leaf.mk (LT.int IntKind.i64) (0 : Int), Leaf.mk (LT.int IntKind.i64) (0 : Int), Leaf.mk LT.str []], tI (0 : Int), tI (2 : Int)], [RV.any]))
                        (Tree.leaf ([TV.agg [Leaf.mk (LT.int IntKind.i64) (IntKind.wrap IntKind.i64 (↑(UInt8.toNat (List.getD b (0 : Nat) (Env.dflt En (0 : Nat)))) : Int)), Leaf.mk (LT.int IntKind.i64) (0 : Int), Leaf.mk LT.str []], tI (1 : Int), tI (0 : Int)], [RV.any])))))))))))
      (Tree.ite false
        (Tree.req ((1 : Int) ≤ (1 : Int) ∧ (1 : Int) ≤ (9 : Int) ∧ (9 : Nat) ≤ List.length b ∧ (0 : Int) = (↑(numOf (0 : Nat) (List.drop (1 : Nat) (List.take (1 : Nat) b))) : Int))
          (Tree.ite (!vRight (Val.mk (IntKind.wrap IntKind.i64 (↑(UInt8.toNat (List.getD b (0 : Nat) (Env.dflt En (0 : Nat)))) : Int)) (IntKind.wrap IntKind.i64 (↑(numOf (0 : Nat) (List.drop (1 : Nat) (List.take (9 : Nat) b))) : Int)) []))
            (Tree.leaf ([TV.agg [Leaf.mk (LT.int IntKind.i64) (0 : Int), Leaf.mk (LT.int IntKind.i64) (0 : Int), Leaf.mk LT.str []], tI (0 : Int), tI (2 : Int)], [RV.any]))
            (Tree.leaf
              ([TV.agg
                    [Leaf.mk (LT.int IntKind.i64) (IntKind.wrap IntKind.i64 (↑(UInt8.toNat (List.getD b (0 : Nat) (Env.dflt En (0 : Nat)))) : Int)), Leaf.mk (LT.int IntKind.i64) (IntKind.wrap IntKind.i64 (↑(numOf (0 : Nat) (List.drop (1 : Nat) (List.take (9 : Nat) b))) : Int)), Leaf.mk LT.str []],
                  tI (9 : Int), tI (0 : Int)],
                [RV.any]))))
        (Tree.ite (IntKind.wrap IntKind.i64 (↑(UInt8.toNat (List.getD b (0 : Nat) (Env.dflt En (0 : Nat)))) : Int) == (2 : Int))
          (Tree.ite (decide ((↑(List.length b) : Int) ≥ (2 : Int)))
            (Tree.req ((0 : Int) ≤ (1 : Int) ∧ (1 : Int) < (↑(List.length b) : Int))
              (Tree.ite (decide ((↑(List.length b) : Int) ≥ IntKind.wrap IntKind.i64 ((2 : Int) + IntKind.wrap IntKind.i64 (↑(UInt8.toNat (List.getD b (1 : Nat) (Env.dflt En (0 : Nat)))) : Int))))
                (Tree.req ((0 : Int) ≤ (1 : Int) ∧ (1 : Int) < (↑(List.length b) : Int))
                  (Tree.req
                    ((0 : Int) ≤ (2 : Int) ∧
                      (2 : Int) ≤ IntKind.wrap IntKind.i64 ((2 : Int) + IntKind.wrap IntKind.i64 (↑(UInt8.toNat (List.getD b (1 : Nat) (Env.dflt En (0 : Nat)))) : Int)) ∧
                        IntKind.wrap IntKind.i64 ((2 : Int) + IntKind.wrap IntKind.i64 (↑(UInt8.toNat (List.getD b (1 : Nat) (Env.dflt En (0 : Nat)))) : Int)) ≤ (↑(List.length b) : Int))
                    (Tree.ite
                      (!vRight
                          (Val.mk (IntKind.wrap IntKind.i64 (↑(UInt8.toNat (List.getD b (0 : Nat) (Env.dflt En (0 : Nat)))) : Int)) (0 : Int)
                            (List.drop (2 : Nat) (List.take (Int.toNat (IntKind.wrap IntKind.i64 ((2 : Int) + IntKind.wrap IntKind.i64 (↑(UInt8.toNat (List.getD b (1 : Nat) (Env.dflt En (0 : Nat)))) : Int)))) b))))
                      (Tree.leaf ([TV.agg [Leaf.mk (LT.int IntKind.i64) (0 : Int), Leaf.mk (LT.int IntKind.i64) (0 : Int), Leaf.mk LT.str []], tI (0 : Int), tI (2 : Int)], [RV.any]))
                      (Tree.leaf
                        ([TV.agg
                              [Leaf.mk (LT.int IntKind.i64) (IntKind.wrap IntKind.i64 (↑(UInt8.toNat (List.getD b (0 : Nat) (Env.dflt En (0 : Nat)))) : Int)), Leaf.mk (LT.int IntKind.i64) (0 : Int),
                                Leaf.mk LT.str (List.drop (2 : Nat) (List.take (Int.toNat (IntKind.wrap IntKind.i64 ((2 : Int) + IntKind.wrap IntKind.i64 (↑(UInt8.toNat (List.getD b (1 : Nat) (Env.dflt En (0 : Nat)))) : Int)))) b))],
                            tI (IntKind.wrap IntKind.i64 ((2 : Int) + IntKind.wrap IntKind.i64 (↑(UInt8.toNat (List.getD b (1 : Nat) (Env.dflt En (0 : Nat)))) : Int))), tI (0 : Int)],
                          [RV.any])))))
                (Tree.ite (IntKind.wrap IntKind.i64 (↑(UInt8.toNat (List.getD b (0 : Nat) (Env.dflt En (0 : Nat)))) : Int) == (3 : Int))
                  (Tree.ite true
                    (Tree.ite (decide ((↑(List.length b) : Int) ≥ (2 : Int)))
                      (Tree.req ((0 : Int) ≤ (1 : Int) ∧ (1 : Int) < (↑(List.length b) : Int))
                        (Tree.ite (!vRight (Val.mk (IntKind.wrap IntKind.i64 (↑(UInt8.toNat (List.getD b (0 : Nat) (Env.dflt En (0 : Nat)))) : Int)) (IntKind.wrap IntKind.i64 (↑(UInt8.toNat (List.getD b (1 : Nat) (Env.dflt En (0 : Nat)))) : Int)) []))
                          (Tree.leaf ([TV.agg [Leaf.mk (LT.int IntKind.i64) (0 : Int), Leaf.mk (LT.int IntKind.i64) (0 : Int), Leaf.mk LT.str []], tI (0 : Int), tI (2 : Int)], [RV.any]))
                          (Tree.leaf
                            ([TV.agg
                                  [Leaf.mk (LT.int IntKind.i64) (IntKind.wrap IntKind.i64 (↑(UInt8.toNat (List.getD b (0 : Nat) (Env.dflt En (0 : Nat)))) : Int)), Leaf.mk (LT.int IntKind.i64) (IntKind.wrap IntKind.i64 (↑(UInt8.toNat (List.getD b (1 : Nat) (Env.dflt En (0 : Nat)))) : Int)),
                                    Leaf.mk LT.str []],
                                tI (2 : Int), tI (0 : Int)],
                              [RV.any]))))
                      (Tree.ite (IntKind.wrap IntKind.i64 (↑(UInt8.toNat (List.getD b (0 : Nat) (Env.dflt En (0 : Nat)))) : Int) != (0 : Int))
                        (Tree.leaf ([TV.agg [Leaf.mk (LT.int IntKind.i64) (0 : Int), Leaf.mk (LT.int IntKind.i64) (0 : Int), Leaf.mk LT.str []], tI (0 : Int), tI (2 : Int)], [RV.any]))
                        (Tree.ite (!vRight (Val.mk (IntKind.wrap IntKind.i64 (↑(UInt8.toNat (List.getD b (0 : Nat) (Env.dflt En (0 : Nat)))) : Int)) (0 : Int) []))
                          (Tree.leaf ([TV.agg [Leaf.mk (LT.int IntKind.i64) (0 : Int), Leaf.mk (LT.int IntKind.i64) (0 : Int), Leaf.mk LT.str []], tI (0 : Int), tI (2 : Int)], [RV.any]))
                          (Tree.leaf ([TV.agg [Leaf.mk (LT.int IntKind.i64) (IntKind.wrap IntKind.i64 (↑(UInt8.toNat (List.getD b (0 : Nat) (Env.dflt En (0 : Nat)))) : Int)), Leaf.mk (LT.int IntKind.i64) (0 : Int), Leaf.mk LT.str []], tI (1 : Int), tI (0 : Int)], [RV.any])))))
                    (Tree.ite false
                      (Tree.req ((0 : Int) ≤ (1 : Int) ∧ (1 : Int) < (↑(List.length b) : Int))
                        (Tree.ite (!vRight (Val.mk (IntKind.wrap IntKind.i64 (↑(UInt8.toNat (List.getD b (0 : Nat) (Env.dflt En (0 : Nat)))) : Int)) (IntKind.wrap IntKind.i64 (↑(UInt8.toNat (List.getD b (1 : Nat) (Env.dflt En (0 : Nat)))) : Int)) []))
                          (Tree.leaf ([TV.agg [Leaf.mk (LT.int IntKind.i64) (0 : Int), Leaf.mk (LT.int IntKind.i64) (0 : Int), Leaf.mk LT.str []], tI (0 : Int), tI (2 : Int)], [RV.any]))
                          (Tree.leaf
                            ([TV.agg
                                  [Leaf.mk (LT.int IntKind.i64) (IntKind.wrap IntKind.i64 (↑(UInt8.toNat (List.getD b (0 : Nat) (Env.dflt En (0 : Nat)))) : Int)), Leaf.mk (LT.int IntKind.i64) (IntKind.wrap IntKind.i64 (↑(UInt8.toNat (List.getD b (1 : Nat) (Env.dflt En (0 : Nat)))) : Int)),
                                    Leaf.mk LT.str []],
                                tI (2 : Int), tI (0 : Int)],
                              [RV.any]))))
                      (Tree.ite (IntKind.wrap IntKind.i64 (↑(UInt8.toNat (List.getD b (0 : Nat) (Env.dflt En (0 : Nat)))) : Int) != (0 : Int))
                        (Tree.leaf ([TV.agg [Leaf.mk (LT.int IntKind.i64) (0 : Int), Leaf.mk (LT.int IntKind.i64) (0 : Int), Leaf.mk LT.str []], tI (0 : Int), tI (2 : Int)], [RV.any]))
                        (Tree.ite (!vRight (Val.mk (IntKind.wrap IntKind.i64 (↑(UInt8.toNat (List.getD b (0 : Nat) (Env.dflt En (0 : Nat)))) : Int)) (0 : Int) []))
                          (Tree.leaf ([TV.agg [Leaf.mk (LT.int IntKind.i64) (0 : Int), Leaf.mk (LT.int IntKind.i64) (0 : Int), Leaf.mk LT.str []], tI (0 : Int), tI (2 : Int)], [RV.any]))
                          (Tree.leaf ([TV.agg [Leaf.mk (LT.int IntKind.i64) (IntKind.wrap IntKind.i64 (↑(UInt8.toNat (List.getD b (0 : Nat) (Env.dflt En (0 : Nat)))) : Int)), Leaf.mk (LT.int IntKind.i64) (0 : Int), Leaf.mk LT.str []], tI (1 : Int), tI (0 : Int)], [RV.any]))))))
                  (Tree.ite (IntKind.wrap IntKind.i64 (↑(UInt8.toNat (List.getD b (0 : Nat) (Env.dflt En (0 : Nat)))) : Int) == (4 : Int))
                    (Tree.ite (decide ((↑(List.length b) : Int) ≥ (2 : Int)))
                      (Tree.req ((0 : Int) ≤ (1 : Int) ∧ (1 : Int) < (↑(List.length b) : Int))
                        (Tree.ite (!vRight (Val.mk (IntKind.wrap IntKind.i64 (↑(UInt8.toNat (List.getD b (0 : Nat) (Env.dflt En (0 : Nat)))) : Int)) (IntKind.wrap IntKind.i64 (↑(UInt8.toNat (List.getD b (1 : Nat) (Env.dflt En (0 : Nat)))) : Int)) []))
                          (Tree.leaf ([TV.agg [Leaf.mk (LT.int IntKind.i64) (0 : Int), Leaf.mk (LT.int IntKind.i64) (0 : Int), Leaf.mk LT.str []], tI (0 : Int), tI (2 : Int)], [RV.any]))
                          (Tree.leaf
                            ([TV.agg
                                  [Leaf.mk (LT.int IntKind.i64) (IntKind.wrap IntKind.i64 (↑(UInt8.toNat (List.getD b (0 : Nat) (Env.dflt En (0 : Nat)))) : Int)), Leaf.mk (LT.int IntKind.i64) (IntKind.wrap IntKind.i64 (↑(UInt8.toNat (List.getD b (1 : Nat) (Env.dflt En (0 : Nat)))) : Int)),
                                    Leaf.mk LT.str []],
                                tI (2 : Int), tI (0 : Int)],
                              [RV.any]))))
                      (Tree.ite (IntKind.wrap IntKind.i64 (↑(UInt8.toNat (List.getD b (0 : Nat) (Env.dflt En (0 : Nat)))) : Int) != (0 : Int))
                        (Tree.leaf ([TV.agg [Leaf.mk (LT.int IntKind.i64) (0 : Int), Leaf.mk (LT.int IntKind.i64) (0 : Int), Leaf.mk LT.str []], tI (0 : Int), tI (2 : Int)], [RV.any]))
                        (Tree.ite (!vRight (Val.mk (IntKind.wrap IntKind.i64 (↑(UInt8.toNat (List.getD b (0 : Nat) (Env.dflt En (0 : Nat)))) : Int)) (0 : Int) []))
                          (Tree.leaf ([TV.agg [Leaf.mk (LT.int IntKind.i64) (0 : Int), Leaf.mk (LT.int IntKind.i64) (0 : Int), Leaf.mk LT.str []], tI (0 : Int), tI (2 : Int)], [RV.any]))
                          (Tree.leaf ([TV.agg [Leaf.mk (LT.int IntKind.i64) (IntKind.wrap IntKind.i64 (↑(UInt8.toNat (List.getD b (0 : Nat) (Env.dflt En (0 : Nat)))) : Int)), Leaf.mk (LT.int IntKind.i64) (0 : Int), Leaf.mk LT.str []], tI (1 : Int), tI (0 : Int)], [RV.any])))))
                    (Tree.ite false
                      (Tree.req ((0 : Int) ≤ (1 : Int) ∧ (1 : Int) < (↑(List.length b) : Int))
                        (Tree.ite (!vRight (Val.mk (IntKind.wrap IntKind.i64 (↑(UInt8.toNat (List.getD b (0 : Nat) (Env.dflt En (0 : Nat)))) : Int)) (IntKind.wrap IntKind.i64 (↑(UInt8.toNat (List.getD b (1 : Nat) (Env.dflt En (0 : Nat)))) : Int)) []))
                          (Tree.leaf ([TV.agg [Leaf.mk (LT.int IntKind.i64) (0 : Int), Leaf.mk (LT.int IntKind.i64) (0 : Int), Leaf.mk LT.str []], tI (0 : Int), tI (2 : Int)], [RV.any]))
                          (Tree.leaf
                            ([TV.agg
                                  [Leaf.mk (LT.int IntKind.i64) (IntKind.wrap IntKind.i64 (↑(UInt8.toNat (List.getD b (0 : Nat) (Env.dflt En (0 : Nat)))) : Int)), Leaf.mk (LT.int IntKind.i64) (IntKind.wrap IntKind.i64 (↑(UInt8.toNat (List.getD b (1 : Nat) (Env.dflt En (0 : Nat)))) : Int)),
                                    Leaf.mk LT.str []],
                                tI (2 : Int), tI (0 : Int)],
                              [RV.any]))))
                      (Tree.ite (IntKind.wrap IntKind.i64 (↑(UInt8.toNat (List.getD b (0 : Nat) (Env.dflt En (0 : Nat)))) : Int) != (0 : Int))
                        (Tree.leaf ([TV.agg [Leaf.mk (LT.int IntKind.i64) (0 : Int), Leaf.mk (LT.int IntKind.i64) (0 : Int), Leaf.mk LT.str []], tI (0 : Int), tI (2 : Int)], [RV.any]))
                        (Tree.ite (!vRight (Val.mk (IntKind.wrap IntKind.i64 (↑(UInt8.toNat (List.getD b (0 : Nat) (Env.dflt En (0 : Nat)))) : Int)) (0 : Int) []))
                          (Tree.leaf ([TV.agg [Leaf.mk (LT.int IntKind.i64) (0 : Int), Leaf.mk (LT.int IntKind.i64) (0 : Int), Leaf.mk LT.str []], tI (0 : Int), tI (2 : Int)], [RV.any]))
                          (Tree.leaf ([TV.agg [Leaf.mk (LT.int IntKind.i64) (IntKind.wrap IntKind.i64 (↑(UInt8.toNat (List.getD b (0 : Nat) (Env.dflt En (0 : Nat)))) : Int)), Leaf.mk (LT.int IntKind.i64) (0 : Int), Leaf.mk LT.str []], tI (1 : Int), tI (0 : Int)], [RV.any])))))))))
            (Tree.ite false
              (Tree.req ((0 : Int) ≤ (1 : Int) ∧ (1 : Int) < (↑(List.length b) : Int))
                (Tree.req
                  ((0 : Int) ≤ (2 : Int) ∧
                    (2 : Int) ≤ IntKind.wrap IntKind.i64 ((2 : Int) + IntKind.wrap IntKind.i64 (↑(UInt8.toNat (List.getD b (1 : Nat) (Env.dflt En (0 : Nat)))) : Int)) ∧
                      IntKind.wrap IntKind.i64 ((2 : Int) + IntKind.wrap IntKind.i64 (↑(UInt8.toNat (List.getD b (1 : Nat) (Env.dflt En (0 : Nat)))) : Int)) ≤ (↑(List.length b) : Int))
                  (Tree.ite
                    (!vRight
                        (Val.mk (IntKind.wrap IntKind.i64 (↑(UInt8.toNat (List.getD b (0 : Nat) (Env.dflt En (0 : Nat)))) : Int)) (0 : Int)
                          (List.drop (2 : Nat) (List.take (Int.toNat (IntKind.wrap IntKind.i64 ((2 : Int) + IntKind.wrap IntKind.i64 (↑(UInt8.toNat (List.getD b (1 : Nat) (Env.dflt En (0 : Nat)))) : Int)))) b))))
                    (Tree.leaf ([TV.agg [Leaf.mk (LT.int IntKind.i64) (0 : Int), Leaf.mk (LT.int IntKind.i64) (0 : Int), Leaf.mk LT.str []], tI (0 : Int), tI (2 : Int)], [RV.any]))
                    (Tree.leaf
                      ([TV.agg
                            [Leaf.mk (LT.int IntKind.i64) (IntKind.wrap IntKind.i64 (↑(UInt8.toNat (List.getD b (0 : Nat) (Env.dflt En (0 : Nat)))) : Int)), Leaf.mk (LT.int IntKind.i64) (0 : Int),
                              Leaf.mk LT.str (List.drop (2 : Nat) (List.take (Int.toNat (IntKind.wrap IntKind.i64 ((2 : Int) + IntKind.wrap IntKind.i64 (↑(UInt8.toNat (List.getD b (1 : Nat) (Env.dflt En (0 : Nat)))) : Int)))) b))],
                          tI (IntKind.wrap IntKind.i64 ((2 : Int) + IntKind.wrap IntKind.i64 (↑(UInt8.toNat (List.getD b (1 : Nat) (Env.dflt En (0 : Nat)))) : Int))), tI (0 : Int)],
                        [RV.any])))))
              (Tree.ite (IntKind.wrap IntKind.i64 (↑(UInt8.toNat (List.getD b (0 : Nat) (Env.dflt En (0 : Nat)))) : Int) == (3 : Int))
                (Tree.ite true
                  (Tree.ite (decide ((↑(List.length b) : Int) ≥ (2 : Int)))
                    (Tree.req ((0 : Int) ≤ (1 : Int) ∧ (1 : Int) < (↑(List.length b) : Int))
                      (Tree.ite (!vRight (Val.mk (IntKind.wrap IntKind.i64 (↑(UInt8.toNat (List.getD b (0 : Nat) (Env.dflt En (0 : Nat)))) : Int)) (IntKind.wrap IntKind.i64 (↑(UInt8.toNat (List.getD b (1 : Nat) (Env.dflt En (0 : Nat)))) : Int)) []))
                        (Tree.leaf ([TV.agg [Leaf.mk (LT.int IntKind.i64) (0 : Int), Leaf.mk (LT.int IntKind.i64) (0 : Int), Leaf.mk LT.str []], tI (0 : Int), tI (2 : Int)], [RV.any]))
                        (Tree.leaf
                          ([TV.agg
                                [Leaf.mk (LT.int IntKind.i64) (IntKind.wrap IntKind.i64 (↑(UInt8.toNat (List.getD b (0 : Nat) (Env.dflt En (0 : Nat)))) : Int)), Leaf.mk (LT.int IntKind.i64) (IntKind.wrap IntKind.i64 (↑(UInt8.toNat (List.getD b (1 : Nat) (Env.dflt En (0 : Nat)))) : Int)),
                                  Leaf.mk LT.str []],
                              tI (2 : Int), tI (0 : Int)],
                            [RV.any]))))
                    (Tree.ite (IntKind.wrap IntKind.i64 (↑(UInt8.toNat (List.getD b (0 : Nat) (Env.dflt En (0 : Nat)))) : Int) != (0 : Int))
                      (Tree.leaf ([TV.agg [Leaf.mk (LT.int IntKind.i64) (0 : Int), Leaf.mk (LT.int IntKind.i64) (0 : Int), Leaf.mk LT.str []], tI (0 : Int), tI (2 : Int)], [RV.any]))
                      (Tree.ite (!vRight (Val.mk (IntKind.wrap IntKind.i64 (↑(UInt8.toNat (List.getD b (0 : Nat) (Env.dflt En (0 : Nat)))) : Int)) (0 : Int) []))
                        (Tree.leaf ([TV.agg [Leaf.mk (LT.int IntKind.i64) (0 : Int), Leaf.mk (LT.int IntKind.i64) (0 : Int), Leaf.mk LT.str []], tI (0 : Int), tI (2 : Int)], [RV.any]))
                        (Tree.leaf ([TV.agg [Leaf.mk (LT.int IntKind.i64) (IntKind.wrap IntKind.i64 (↑(UInt8.toNat (List.getD b (0 : Nat) (Env.dflt En (0 : Nat)))) : Int)), Leaf.mk (LT.int IntKind.i64) (0 : Int), Leaf.mk LT.str []], tI (1 : Int), tI (0 : Int)], [RV.any])))))
                  (Tree.ite false
                    (Tree.req ((0 : Int) ≤ (1 : Int) ∧ (1 : Int) < (↑(List.length b) : Int))
                      (Tree.ite (!vRight (Val.mk (IntKind.wrap IntKind.i64 (↑(UInt8.toNat (List.getD b (0 : Nat) (Env.dflt En (0 : Nat)))) : Int)) (IntKind.wrap IntKind.i64 (↑(UInt8.toNat (List.getD b (1 : Nat) (Env.dflt En (0 : Nat)))) : Int)) []))
                        (Tree.leaf ([TV.agg [Leaf.mk (LT.int IntKind.i64) (0 : Int), Leaf.mk (LT.int IntKind.i64) (0 : Int), Leaf.mk LT.str []], tI (0 : Int), tI (2 : Int)], [RV.any]))
                        (Tree.leaf
                          ([TV.agg
                                [Leaf.mk (LT.int IntKind.i64) (IntKind.wrap IntKind.i64 (↑(UInt8.toNat (List.getD b (0 : Nat) (Env.dflt En (0 : Nat)))) : Int)), Leaf.mk (LT.int IntKind.i64) (IntKind.wrap IntKind.i64 (↑(UInt8.toNat (List.getD b (1 : Nat) (Env.dflt En (0 : Nat)))) : Int)),
                                  Leaf.mk LT.str []],
                              tI (2 : Int), tI (0 : Int)],
                            [RV.any]))))
                    (Tree.ite (IntKind.wrap IntKind.i64 (↑(UInt8.toNat (List.getD b (0 : Nat) (Env.dflt En (0 : Nat)))) : Int) != (0 : Int))
                      (Tree.leaf ([TV.agg [Leaf.mk (LT.int IntKind.i64) (0 : Int), Leaf.mk (LT.int IntKind.i64) (0 : Int), Leaf.mk LT.str []], tI (0 : Int), tI (2 : Int)], [RV.any]))
                      (Tree.ite (!vRight (Val.mk (IntKind.wrap IntKind.i64 (↑(UInt8.toNat (List.getD b (0 : Nat) (Env.dflt En (0 : Nat)))) : Int)) (0 : Int) []))
                        (Tree.leaf ([TV.agg [Leaf.mk (LT.int IntKind.i64) (0 : Int), Leaf.mk (LT.int IntKind.i64) (0 : Int), Leaf.mk LT.str []], tI (0 : Int), tI (2 : Int)], [RV.any]))
                        (Tree.leaf ([TV.agg [Leaf.mk (LT.int IntKind.i64) (IntKind.wrap IntKind.i64 (↑(UInt8.toNat (List.getD b (0 : Nat) (Env.dflt En (0 : Nat)))) : Int)), Leaf.mk (LT.int IntKind.i64) (0 : Int), Leaf.mk LT.str []], tI (1 : Int), tI (0 : Int)], [RV.any]))))))
                (Tree.ite (IntKind.wrap IntKind.i64 (↑(UInt8.toNat (List.getD b (0 : Nat) (Env.dflt En (0 : Nat)))) : Int) == (4 : Int))
                  (Tree.ite (decide ((↑(List.length b) : Int) ≥ (2 : Int)))
                    (Tree.req ((0 : Int) ≤ (1 : Int) ∧ (1 : Int) < (↑(List.length b) : Int))
                      (Tree.ite (!vRight (Val.mk (IntKind.wrap IntKind.i64 (↑(UInt8.toNat (List.getD b (0 : Nat) (Env.dflt En (0 : Nat)))) : Int)) (IntKind.wrap IntKind.i64 (↑(UInt8.toNat (List.getD b (1 : Nat) (Env.dflt En (0 : Nat)))) : Int)) []))
                        (Tree.leaf ([TV.agg [Leaf.mk (LT.int IntKind.i64) (0 : Int), Leaf.mk (LT.int IntKind.i64) (0 : Int), Leaf.mk LT.str []], tI (0 : Int), tI (2 : Int)], [RV.any]))
                        (Tree.leaf
                          ([TV.agg
                                [Leaf.mk (LT.int IntKind.i64) (IntKind.wrap IntKind.i64 (↑(UInt8.toNat (List.getD b (0 : Nat) (Env.dflt En (0 : Nat)))) : Int)), Leaf.mk (LT.int IntKind.i64) (IntKind.wrap IntKind.i64 (↑(UInt8.toNat (List.getD b (1 : Nat) (Env.dflt En (0 : Nat)))) : Int)),
                                  Leaf.mk LT.str []],
                              tI (2 : Int), tI (0 : Int)],
                            [RV.any]))))
                    (Tree.ite (IntKind.wrap IntKind.i64 (↑(UInt8.toNat (List.getD b (0 : Nat) (Env.dflt En (0 : Nat)))) : Int) != (0 : Int))
                      (Tree.leaf ([TV.agg [Leaf.mk (LT.int IntKind.i64) (0 : Int), Leaf.mk (LT.int IntKind.i64) (0 : Int), Leaf.mk LT.str []], tI (0 : Int), tI (2 : Int)], [RV.any]))
                      (Tree.ite (!vRight (Val.mk (IntKind.wrap IntKind.i64 (↑(UInt8.toNat (List.getD b (0 : Nat) (Env.dflt En (0 : Nat)))) : Int)) (0 : Int) []))
                        (Tree.leaf ([TV.agg [Leaf.mk (LT.int IntKind.i64) (0 : Int), Leaf.mk (LT.int IntKind.i64) (0 : Int), Leaf.mk LT.str []], tI (0 : Int), tI (2 : Int)], [RV.any]))
                        (Tree.leaf ([TV.agg [Leaf.mk (LT.int IntKind.i64) (IntKind.wrap IntKind.i64 (↑(UInt8.toNat (List.getD b (0 : Nat) (Env.dflt En (0 : Nat)))) : Int)), Leaf.mk (LT.int IntKind.i64) (0 : Int), Leaf.mk LT.str []], tI (1 : Int), tI (0 : Int)], [RV.any])))))
                  (Tree.ite false
                    (Tree.req ((0 : Int) ≤ (1 : Int) ∧ (1 : Int) < (↑(List.length b) : Int))
                      (Tree.ite (!vRight (Val.mk (IntKind.wrap IntKind.i64 (↑(UInt8.toNat (List.getD b (0 : Nat) (Env.dflt En (0 : Nat)))) : Int)) (IntKind.wrap IntKind.i64 (↑(UInt8.toNat (List.getD b (1 : Nat) (Env.dflt En (0 : Nat)))) : Int)) []))
                        (Tree.leaf ([TV.agg [Leaf.mk (LT.int IntKind.i64) (0 : Int), Leaf.mk (LT.int IntKind.i64) (0 : Int), Leaf.mk LT.str []], tI (0 : Int), tI (2 : Int)], [RV.any]))
                        (Tree.leaf
                          ([TV.agg
                                [Leaf.mk (LT.int IntKind.i64) (IntKind.wrap IntKind.i64 (↑(UInt8.toNat (List.getD b (0 : Nat) (Env.dflt En (0 : Nat)))) : Int)), Leaf.mk (LT.int IntKind.i64) (IntKind.wrap IntKind.i64 (↑(UInt8.toNat (List.getD b (1 : Nat) (Env.dflt En (0 : Nat)))) : Int)),
                                  Leaf.mk LT.str []],
                              tI (2 : Int), tI (0 : Int)],
                            [RV.any]))))
                    (Tree.ite (IntKind.wrap IntKind.i64 (↑(UInt8.toNat (List.getD b (0 : Nat) (Env.dflt En (0 : Nat)))) : Int) != (0 : Int))
                      (Tree.leaf ([TV.agg [Leaf.mk (LT.int IntKind.i64) (0 : Int), Leaf.mk (LT.int IntKind.i64) (0 : Int), Leaf.mk LT.str []], tI (0 : Int), tI (2 : Int)], [RV.any]))
                      (Tree.ite (!vRight (Val.mk (IntKind.wrap IntKind.i64 (↑(UInt8.toNat (List.getD b (0 : Nat) (Env.dflt En (0 : Nat)))) : Int)) (0 : Int) []))
                        (Tree.leaf ([TV.agg [Leaf.mk (LT.int IntKind.i64) (0 : Int), Leaf.mk (LT.int IntKind.i64) (0 : Int), Leaf.mk LT.str []], tI (0 : Int), tI (2 : Int)], [RV.any]))
                        (Tree.leaf ([TV.agg [Leaf.mk (LT.int IntKind.i64) (IntKind.wrap IntKind.i64 (↑(UInt8.toNat (List.getD b (0 : Nat) (Env.dflt En (0 : Nat)))) : Int)), Leaf.mk (LT.int IntKind.i64) (0 : Int), Leaf.mk LT.str []], tI (1 : Int), tI (0 : Int)], [RV.any])))))))))
          (Tree.ite false
            (Tree.req ((0 : Int) ≤ (1 : Int) ∧ (1 : Int) < (↑(List.length b) : Int))
              (Tree.ite (decide ((↑(List.length b) : Int) ≥ IntKind.wrap IntKind.i64 ((2 : Int) + IntKind.wrap IntKind.i64 (↑(UInt8.toNat (List.getD b (1 : Nat) (Env.dflt En (0 : Nat)))) : Int))))
                (Tree.req ((0 : Int) ≤ (1 : Int) ∧ (1 : Int) < (↑(List.length b) : Int))
                  (Tree.req
                    ((0 : Int) ≤ (2 : Int) ∧
                      (2 : Int) ≤ IntKind.wrap IntKind.i64 ((2 : Int) + IntKind.wrap IntKind.i64 (↑(UInt8.toNat (List.getD b (1 : Nat) (Env.dflt En (0 : Nat)))) : Int)) ∧
                        IntKind.wrap IntKind.i64 ((2 : Int) + IntKind.wrap IntKind.i64 (↑(UInt8.toNat (List.getD b (1 : Nat) (Env.dflt En (0 : Nat)))) : Int)) ≤ (↑(List.length b) : Int))
                    (Tree.ite
                      (!vRight
                          (Val.mk (IntKind.wrap IntKind.i64 (↑(UInt8.toNat (List.getD b (0 : Nat) (Env.dflt En (0 : Nat)))) : Int)) (0 : Int)
                            (List.drop (2 : Nat) (List.take (Int.toNat (IntKind.wrap IntKind.i64 ((2 : Int) + IntKind.wrap IntKind.i64 (↑(UInt8.toNat (List.getD b (1 : Nat) (Env.dflt En (0 : Nat)))) : Int)))) b))))
                      (Tree.leaf ([TV.agg [Leaf.mk (LT.int IntKind.i64) (0 : Int), Leaf.mk (LT.int IntKind.i64) (0 : Int), Leaf.mk LT.str []], tI (0 : Int), tI (2 : Int)], [RV.any]))
                      (Tree.leaf
                        ([TV.agg
                              [Leaf.mk (LT.int IntKind.i64) (IntKind.wrap IntKind.i64 (↑(UInt8.toNat (List.getD b (0 : Nat) (Env.dflt En (0 : Nat)))) : Int)), Leaf.mk (LT.int IntKind.i64) (0 : Int),
                                Leaf.mk LT.str (List.drop (2 : Nat) (List.take (Int.toNat (IntKind.wrap IntKind.i64 ((2 : Int) + IntKind.wrap IntKind.i64 (↑(UInt8.toNat (List.getD b (1 : Nat) (Env.dflt En (0 : Nat)))) : Int)))) b))],
                            tI (IntKind.wrap IntKind.i64 ((2 : Int) + IntKind.wrap IntKind.i64 (↑(UInt8.toNat (List.getD b (1 : Nat) (Env.dflt En (0 : Nat)))) : Int))), tI (0 : Int)],
                          [RV.any])))))
                (Tree.ite (IntKind.wrap IntKind.i64 (↑(UInt8.toNat (List.getD b (0 : Nat) (Env.dflt En (0 : Nat)))) : Int) == (3 : Int))
                  (Tree.ite true
                    (Tree.ite (decide ((↑(List.length b) : Int) ≥ (2 : Int)))
                      (Tree.req ((0 : Int) ≤ (1 : Int) ∧ (1 : Int) < (↑(List.length b) : Int))
                        (Tree.ite (!vRight (Val.mk (IntKind.wrap IntKind.i64 (↑(UInt8.toNat (List.getD b (0 : Nat) (Env.dflt En (0 : Nat)))) : Int)) (IntKind.wrap IntKind.i64 (↑(UInt8.toNat (List.getD b (1 : Nat) (Env.dflt En (0 : Nat)))) : Int)) []))
                          (Tree.leaf ([TV.agg [Leaf.mk (LT.int IntKind.i64) (0 : Int), Leaf.mk (LT.int IntKind.i64) (0 : Int), Leaf.mk LT.str []], tI (0 : Int), tI (2 : Int)], [RV.any]))
                          (Tree.leaf
                            ([TV.agg
                                  [Leaf.mk (LT.int IntKind.i64) (IntKind.wrap IntKind.i64 (↑(UInt8.toNat (List.getD b (0 : Nat) (Env.dflt En (0 : Nat)))) : Int)), Leaf.mk (LT.int IntKind.i64) (IntKind.wrap IntKind.i64 (↑(UInt8.toNat (List.getD b (1 : Nat) (Env.dflt En (0 : Nat)))) : Int)),
                                    Leaf.mk LT.str []],
                                tI (2 : Int), tI (0 : Int)],
                              [RV.any]))))
                      (Tree.ite (IntKind.wrap IntKind.i64 (↑(UInt8.toNat (List.getD b (0 : Nat) (Env.dflt En (0 : Nat)))) : Int) != (0 : Int))
                        (Tree.leaf ([TV.agg [Leaf.mk (LT.int IntKind.i64) (0 : Int), Leaf.mk (LT.int IntKind.i64) (0 : Int), Leaf.mk LT.str []], tI (0 : Int), tI (2 : Int)], [RV.any]))
                        (Tree.ite (!vRight (Val.mk (IntKind.wrap IntKind.i64 (↑(UInt8.toNat (List.getD b (0 : Nat) (Env.dflt En (0 : Nat)))) : Int)) (0 : Int) []))
                          (Tree.leaf ([TV.agg [Leaf.mk (LT.int IntKind.i64) (0 : Int), Leaf.mk (LT.int IntKind.i64) (0 : Int), Leaf.mk LT.str []], tI (0 : Int), tI (2 : Int)], [RV.any]))
                          (Tree.leaf ([TV.agg [Leaf.mk (LT.int IntKind.i64) (IntKind.wrap IntKind.i64 (↑(UInt8.toNat (List.getD b (0 : Nat) (Env.dflt En (0 : Nat)))) : Int)), Leaf.mk (LT.int IntKind.i64) (0 : Int), Leaf.mk LT.str []], tI (1 : Int), tI (0 : Int)], [RV.any])))))
                    (Tree.ite false
                      (Tree.req ((0 : Int) ≤ (1 : Int) ∧ (1 : Int) < (↑(List.length b) : Int))
                        (Tree.ite (!vRight (Val.mk (IntKind.wrap IntKind.i64 (↑(UInt8.toNat (List.getD b (0 : Nat) (Env.dflt En (0 : Nat)))) : Int)) (IntKind.wrap IntKind.i64 (↑(UInt8.toNat (List.getD b (1 : Nat) (Env.dflt En (0 : Nat)))) : Int)) []))
                          (Tree.leaf ([TV.agg [Leaf.mk (LT.int IntKind.i64) (0 : Int), Leaf.mk (LT.int IntKind.i64) (0 : Int), Leaf.mk LT.str []], tI (0 : Int), tI (2 : Int)], [RV.any]))
                          (Tree.leaf
                            ([TV.agg
                                  [Leaf.mk (LT.int IntKind.i64) (IntKind.wrap IntKind.i64 (↑(UInt8.toNat (List.getD b (0 : Nat) (Env.dflt En (0 : Nat)))) : Int)), Leaf.mk (LT.int IntKind.i64) (IntKind.wrap IntKind.i64 (↑(UInt8.toNat (List.getD b (1 : Nat) (Env.dflt En (0 : Nat)))) : Int)),
                                    Leaf.mk LT.str []],
                                tI (2 : Int), tI (0 : Int)],
                              [RV.any]))))
                      (Tree.ite (IntKind.wrap IntKind.i64 (↑(UInt8.toNat (List.getD b (0 : Nat) (Env.dflt En (0 : Nat)))) : Int) != (0 : Int))
                        (Tree.leaf ([TV.agg [Leaf.mk (LT.int IntKind.i64) (0 : Int), Leaf.mk (LT.int IntKind.i64) (0 : Int), Leaf.mk LT.str []], tI (0 : Int), tI (2 : Int)], [RV.any]))
                        (Tree.ite (!vRight (Val.mk (IntKind.wrap IntKind.i64 (↑(UInt8.toNat (List.getD b (0 : Nat) (Env.dflt En (0 : Nat)))) : Int)) (0 : Int) []))
                          (Tree.leaf ([TV.agg [Leaf.mk (LT.int IntKind.i64) (0 : Int), Leaf.mk (LT.int IntKind.i64) (0 : Int), Leaf.mk LT.str []], tI (0 : Int), tI (2 : Int)], [RV.any]))
                          (Tree.leaf ([TV.agg [Leaf.mk (LT.int IntKind.i64) (IntKind.wrap IntKind.i64 (↑(UInt8.toNat (List.getD b (0 : Nat) (Env.dflt En (0 : Nat)))) : Int)), Leaf.mk (LT.int IntKind.i64) (0 : Int), Leaf.mk LT.str []], tI (1 : Int), tI (0 : Int)], [RV.any]))))))
                  (Tree.ite (IntKind.wrap IntKind.i64 (↑(UInt8.toNat (List.getD b (0 : Nat) (Env.dflt En (0 : Nat)))) : Int) == (4 : Int))
                    (Tree.ite (decide ((↑(List.length b) : Int) ≥ (2 : Int)))
                      (Tree.req ((0 : Int) ≤ (1 : Int) ∧ (1 : Int) < (↑(List.length b) : Int))
                        (Tree.ite (!vRight (Val.mk (IntKind.wrap IntKind.i64 (↑(UInt8.toNat (List.getD b (0 : Nat) (Env.dflt En (0 : Nat)))) : Int)) (IntKind.wrap IntKind.i64 (↑(UInt8.toNat (List.getD b (1 : Nat) (Env.dflt En (0 : Nat)))) : Int)) []))
                          (Tree.leaf ([TV.agg [Leaf.mk (LT.int IntKind.i64) (0 : Int), Leaf.mk (LT.int IntKind.i64) (0 : Int), Leaf.mk LT.str []], tI (0 : Int), tI (2 : Int)], [RV.any]))
                          (Tree.leaf
                            ([TV.agg
                                  [Leaf.mk (LT.int IntKind.i64) (IntKind.wrap IntKind.i64 (↑(UInt8.toNat (List.getD b (0 : Nat) (Env.dflt En (0 : Nat)))) : Int)), Leaf.mk (LT.int IntKind.i64) (IntKind.wrap IntKind.i64 (↑(UInt8.toNat (List.getD b (1 : Nat) (Env.dflt En (0 : Nat)))) : Int)),
                                    Leaf.mk LT.str []],
                                tI (2 : Int), tI (0 : Int)],
                              [RV.any]))))
                      (Tree.ite (IntKind.wrap IntKind.i64 (↑(UInt8.toNat (List.getD b (0 : Nat) (Env.dflt En (0 : Nat)))) : Int) != (0 : Int))
                        (Tree.leaf ([TV.agg [Leaf.mk (LT.int IntKind.i64) (0 : Int), Leaf.mk (LT.int IntKind.i64) (0 : Int), Leaf.mk LT.str []], tI (0 : Int), tI (2 : Int)], [RV.any]))
                        (Tree.ite (!vRight (Val.mk (IntKind.wrap IntKind.i64 (↑(UInt8.toNat (List.getD b (0 : Nat) (Env.dflt En (0 : Nat)))) : Int)) (0 : Int) []))
                          (Tree.leaf ([TV.agg [Leaf.mk (LT.int IntKind.i64) (0 : Int), Leaf.mk (LT.int IntKind.i64) (0 : Int), Leaf.mk LT.str []], tI (0 : Int), tI (2 : Int)], [RV.any]))
                          (Tree.leaf ([TV.agg [Leaf.mk (LT.int IntKind.i64) (IntKind.wrap IntKind.i64 (↑(UInt8.toNat (List.getD b (0 : Nat) (Env.dflt En (0 : Nat)))) : Int)), Leaf.mk (LT.int IntKind.i64) (0 : Int), Leaf.mk LT.str []], tI (1 : Int), tI (0 : Int)], [RV.any])))))
                    (Tree.ite false
                      (Tree.req ((0 : Int) ≤ (1 : Int) ∧ (1 : Int) < (↑(List.length b) : Int))
                        (Tree.ite (!vRight (Val.mk (IntKind.wrap IntKind.i64 (↑(UInt8.toNat (List.getD b (0 : Nat) (Env.dflt En (0 : Nat)))) : Int)) (IntKind.wrap IntKind.i64 (↑(UInt8.toNat (List.getD b (1 : Nat) (Env.dflt En (0 : Nat)))) : Int)) []))
                          (Tree.leaf ([TV.agg [Leaf.mk (LT.int IntKind.i64) (0 : Int), Leaf.mk (LT.int IntKind.i64) (0 : Int), Leaf.mk LT.str []], tI (0 : Int), tI (2 : Int)], [RV.any]))
                          (Tree.leaf
                            ([TV.agg
                                  [Leaf.mk (LT.int IntKind.i64) (IntKind.wrap IntKind.i64 (↑(UInt8.toNat (List.getD b (0 : Nat) (Env.dflt En (0 : Nat)))) : Int)), Leaf.mk (LT.int IntKind.i64) (IntKind.wrap IntKind.i64 (↑(UInt8.toNat (List.getD b (1 : Nat) (Env.dflt En (0 : Nat)))) : Int)),
                                    Leaf.mk LT.str []],
                                tI (2 : Int), tI (0 : Int)],
                              [RV.any]))))
                      (Tree.ite (IntKind.wrap IntKind.i64 (↑(UInt8.toNat (List.getD b (0 : Nat) (Env.dflt En (0 : Nat)))) : Int) != (0 : Int))
                        (Tree.leaf ([TV.agg [Leaf.mk (LT.int IntKind.i64) (0 : Int), Leaf.mk (LT.int IntKind.i64) (0 : Int), Leaf.mk LT.str []], tI (0 : Int), tI (2 : Int)], [RV.any]))
                        (Tree.ite (!vRight (Val.mk (IntKind.wrap IntKind.i64 (↑(UInt8.toNat (List.getD b (0 : Nat) (Env.dflt En (0 : Nat)))) : Int)) (0 : Int) []))
                          (Tree.leaf ([TV.agg [Leaf.mk (LT.int IntKind.i64) (0 : Int), Leaf.mk (LT.int IntKind.i64) (0 : Int), Leaf.mk LT.str []], tI (0 : Int), tI (2 : Int)], [RV.any]))
                          (Tree.leaf ([TV.agg [Leaf.mk (LT.int IntKind.i64) (IntKind.wrap IntKind.i64 (↑(UInt8.toNat (List.getD b (0 : Nat) (Env.dflt En (0 : Nat)))) : Int)), Leaf.mk (LT.int IntKind.i64) (0 : Int), Leaf.mk LT.str []], tI (1 : Int), tI (0 : Int)], [RV.any])))))))))
            (Tree.ite false
              (Tree.req ((0 : Int) ≤ (1 : Int) ∧ (1 : Int) < (↑(List.length b) : Int))
                (Tree.req
                  ((0 : Int) ≤ (2 : Int) ∧
                    (2 : Int) ≤ IntKind.wrap IntKind.i64 ((2 : Int) + IntKind.wrap IntKind.i64 (↑(UInt8.toNat (List.getD b (1 : Nat) (Env.dflt En (0 : Nat)))) : Int)) ∧
                      IntKind.wrap IntKind.i64 ((2 : Int) + IntKind.wrap IntKind.i64 (↑(UInt8.toNat (List.getD b (1 : Nat) (Env.dflt En (0 : Nat)))) : Int)) ≤ (↑(List.length b) : Int))
                  (Tree.ite
                    (!vRight
                        (Val.mk (IntKind.wrap IntKind.i64 (↑(UInt8.toNat (List.getD b (0 : Nat) (Env.dflt En (0 : Nat)))) : Int)) (0 : Int)
                          (List.drop (2 : Nat) (List.take (Int.toNat (IntKind.wrap IntKind.i64 ((2 : Int) + IntKind.wrap IntKind.i64 (↑(UInt8.toNat (List.getD b (1 : Nat) (Env.dflt En (0 : Nat)))) : Int)))) b))))
                    (Tree.leaf ([TV.agg [Leaf.mk (LT.int IntKind.i64) (0 : Int), Leaf.mk (LT.int IntKind.i64) (0 : Int), Leaf.mk LT.str []], tI (0 : Int), tI (2 : Int)], [RV.any]))
                    (Tree.leaf
                      ([TV.agg
                            [Leaf.mk (LT.int IntKind.i64) (IntKind.wrap IntKind.i64 (↑(UInt8.toNat (List.getD b (0 : Nat) (Env.dflt En (0 : Nat)))) : Int)), Leaf.mk (LT.int IntKind.i64) (0 : Int),
                              Leaf.mk LT.str (List.drop (2 : Nat) (List.take (Int.toNat (IntKind.wrap IntKind.i64 ((2 : Int) + IntKind.wrap IntKind.i64 (↑(UInt8.toNat (List.getD b (1 : Nat) (Env.dflt En (0 : Nat)))) : Int)))) b))],
                          tI (IntKind.wrap IntKind.i64 ((2 : Int) + IntKind.wrap IntKind.i64 (↑(UInt8.toNat (List.getD b (1 : Nat) (Env.dflt En (0 : Nat)))) : Int))), tI (0 : Int)],
                        [RV.any])))))
              (Tree.ite (IntKind.wrap IntKind.i64 (↑(UInt8.toNat (List.getD b (0 : Nat) (Env.dflt En (0 : Nat)))) : Int) == (3 : Int))
                (Tree.ite true
                  (Tree.ite (decide ((↑(List.length b) : Int) ≥ (2 : Int)))
                    (Tree.req ((0 : Int) ≤ (1 : Int) ∧ (1 : Int) < (↑(List.length b) : Int))
                      (Tree.ite (!vRight (Val.mk (IntKind.wrap IntKind.i64 (↑(UInt8.toNat (List.getD b (0 : Nat) (Env.dflt En (0 : Nat)))) : Int)) (IntKind.wrap IntKind.i64 (↑(UInt8.toNat (List.getD b (1 : Nat) (Env.dflt En (0 : Nat)))) : Int)) []))
                        (Tree.leaf ([TV.agg [Leaf.mk (LT.int IntKind.i64) (0 : Int), Leaf.mk (LT.int IntKind.i64) (0 : Int), Leaf.mk LT.str []], tI (0 : Int), tI (2 : Int)], [RV.any]))
                        (Tree.leaf
                          ([TV.agg
                                [Leaf.mk (LT.int IntKind.i64) (IntKind.wrap IntKind.i64 (↑(UInt8.toNat (List.getD b (0 : Nat) (Env.dflt En (0 : Nat)))) : Int)), Leaf.mk (LT.int IntKind.i64) (IntKind.wrap IntKind.i64 (↑(UInt8.toNat (List.getD b (1 : Nat) (Env.dflt En (0 : Nat)))) : Int)),
                                  Leaf.mk LT.str []],
                              tI (2 : Int), tI (0 : Int)],
                            [RV.any]))))
                    (Tree.ite (IntKind.wrap IntKind.i64 (↑(UInt8.toNat (List.getD b (0 : Nat) (Env.dflt En (0 : Nat)))) : Int) != (0 : Int))
                      (Tree.leaf ([TV.agg [Leaf.mk (LT.int IntKind.i64) (0 : Int), Leaf.mk (LT.int IntKind.i64) (0 : Int), Leaf.mk LT.str []], tI (0 : Int), tI (2 : Int)], [RV.any]))
                      (Tree.ite (!vRight (Val.mk (IntKind.wrap IntKind.i64 (↑(UInt8.toNat (List.getD b (0 : Nat) (Env.dflt En (0 : Nat)))) : Int)) (0 : Int) []))
                        (Tree.leaf ([TV.agg [Leaf.mk (LT.int IntKind.i64) (0 : Int), Leaf.mk (LT.int IntKind.i64) (0 : Int), Leaf.mk LT.str []], tI (0 : Int), tI (2 : Int)], [RV.any]))
                        (Tree.leaf ([TV.agg [Leaf.mk (LT.int IntKind.i64) (IntKind.wrap IntKind.i64 (↑(UInt8.toNat (List.getD b (0 : Nat) (Env.dflt En (0 : Nat)))) : Int)), Leaf.mk (LT.int IntKind.i64) (0 : Int), Leaf.mk LT.str []], tI (1 : Int), tI (0 : Int)], [RV.any])))))
                  (Tree.ite false
                    (Tree.req ((0 : Int) ≤ (1 : Int) ∧ (1 : Int) < (↑(List.length b) : Int))
                      (Tree.ite (!vRight (Val.mk (IntKind.wrap IntKind.i64 (↑(UInt8.toNat (List.getD b (0 : Nat) (Env.dflt En (0 : Nat)))) : Int)) (IntKind.wrap IntKind.i64 (↑(UInt8.toNat (List.getD b (1 : Nat) (Env.dflt En (0 : Nat)))) : Int)) []))
                        (Tree.leaf ([TV.agg [Leaf.mk (LT.int IntKind.i64) (0 : Int), Leaf.mk (LT.int IntKind.i64) (0 : Int), Leaf.mk LT.str []], tI (0 : Int), tI (2 : Int)], [RV.any]))
                        (Tree.leaf
                          ([TV.agg
                                [Leaf.mk (LT.int IntKind.i64) (IntKind.wrap IntKind.i64 (↑(UInt8.toNat (List.getD b (0 : Nat) (Env.dflt En (0 : Nat)))) : Int)), Leaf.mk (LT.int IntKind.i64) (IntKind.wrap IntKind.i64 (↑(UInt8.toNat (List.getD b (1 : Nat) (Env.dflt En (0 : Nat)))) : Int)),
                                  Leaf.mk LT.str []],
                              tI (2 : Int), tI (0 : Int)],
                            [RV.any]))))
                    (Tree.ite (IntKind.wrap IntKind.i64 (↑(UInt8.toNat (List.getD b (0 : Nat) (Env.dflt En (0 : Nat)))) : Int) != (0 : Int))
                      (Tree.leaf ([TV.agg [Leaf.mk (LT.int IntKind.i64) (0 : Int), Leaf.mk (LT.int IntKind.i64) (0 : Int), Leaf.mk LT.str []], tI (0 : Int), tI (2 : Int)], [RV.any]))
                      (Tree.ite (!vRight (Val.mk (IntKind.wrap IntKind.i64 (↑(UInt8.toNat (List.getD b (0 : Nat) (Env.dflt En (0 : Nat)))) : Int)) (0 : Int) []))
                        (Tree.leaf ([TV.agg [Leaf.mk (LT.int IntKind.i64) (0 : Int), Leaf.mk (LT.int IntKind.i64) (0 : Int), Leaf.mk LT.str []], tI (0 : Int), tI (2 : Int)], [RV.any]))
                        (Tree.leaf ([TV.agg [Leaf.mk (LT.int IntKind.i64) (IntKind.wrap IntKind.i64 (↑(UInt8.toNat (List.getD b (0 : Nat) (Env.dflt En (0 : Nat)))) : Int)), Leaf.mk (LT.int IntKind.i64) (0 : Int), Leaf.mk LT.str []], tI (1 : Int), tI (0 : Int)], [RV.any]))))))
                (Tree.ite (IntKind.wrap IntKind.i64 (↑(UInt8.toNat (List.getD b (0 : Nat) (Env.dflt En (0 : Nat)))) : Int) == (4 : Int))
                  (Tree.ite (decide ((↑(List.length b) : Int) ≥ (2 : Int)))
                    (Tree.req ((0 : Int) ≤ (1 : Int) ∧ (1 : Int) < (↑(List.length b) : Int))
                      (Tree.ite (!vRight (Val.mk (IntKind.wrap IntKind.i64 (↑(UInt8.toNat (List.getD b (0 : Nat) (Env.dflt En (0 : Nat)))) : Int)) (IntKind.wrap IntKind.i64 (↑(UInt8.toNat (List.getD b (1 : Nat) (Env.dflt En (0 : Nat)))) : Int)) []))
                        (Tree.leaf ([TV.agg [Leaf.mk (LT.int IntKind.i64) (0 : Int), Leaf.mk (LT.int IntKind.i64) (0 : Int), Leaf.mk LT.str []], tI (0 : Int), tI (2 : Int)], [RV.any]))
                        (Tree.leaf
                          ([TV.agg
                                [Leaf.mk (LT.int IntKind.i64) (IntKind.wrap IntKind.i64 (↑(UInt8.toNat (List.getD b (0 : Nat) (Env.dflt En (0 : Nat)))) : Int)), Leaf.mk (LT.int IntKind.i64) (IntKind.wrap IntKind.i64 (↑(UInt8.toNat (List.getD b (1 : Nat) (Env.dflt En (0 : Nat)))) : Int)),
                                  Leaf.mk LT.str []],
                              tI (2 : Int), tI (0 : Int)],
                            [RV.any]))))
                    (Tree.ite (IntKind.wrap IntKind.i64 (↑(UInt8.toNat (List.getD b (0 : Nat) (Env.dflt En (0 : Nat)))) : Int) != (0 : Int))
                      (Tree.leaf ([TV.agg [Leaf.mk (LT.int IntKind.i64) (0 : Int), Leaf.mk (LT.int IntKind.i64) (0 : Int), Leaf.mk LT.str []], tI (0 : Int), tI (2 : Int)], [RV.any]))
                      (Tree.ite (!vRight (Val.mk (IntKind.wrap IntKind.i64 (↑(UInt8.toNat (List.getD b (0 : Nat) (Env.dflt En (0 : Nat)))) : Int)) (0 : Int) []))
                        (Tree.leaf ([TV.agg [Leaf.mk (LT.int IntKind.i64) (0 : Int), Leaf.mk (LT.int IntKind.i64) (0 : Int), Leaf.mk LT.str []], tI (0 : Int), tI (2 : Int)], [RV.any]))
                        (Tree.leaf ([TV.agg [Leaf.mk (LT.int IntKind.i64) (IntKind.wrap IntKind.i64 (↑(UInt8.toNat (List.getD b (0 : Nat) (Env.dflt En (0 : Nat)))) : Int)), Leaf.mk (LT.int IntKind.i64) (0 : Int), Leaf.mk LT.str []], tI (1 : Int), tI (0 : Int)], [RV.any])))))
                  (Tree.ite false
                    (Tree.req ((0 : Int) ≤ (1 : Int) ∧ (1 : Int) < (↑(List.length b) : Int))
                      (Tree.ite (!vRight (Val.mk (IntKind.wrap IntKind.i64 (↑(UInt8.toNat (List.getD b (0 : Nat) (Env.dflt En (0 : Nat)))) : Int)) (IntKind.wrap IntKind.i64 (↑(UInt8.toNat (List.getD b (1 : Nat) (Env.dflt En (0 : Nat)))) : Int)) []))
                        (Tree.leaf ([TV.agg [Leaf.mk (LT.int IntKind.i64) (0 : Int), Leaf.mk (LT.int IntKind.i64) (0 : Int), Leaf.mk LT.str []], tI (0 : Int), tI (2 : Int)], [RV.any]))
                        (Tree.leaf
                          ([TV.agg
                                [Leaf.mk (LT.int IntKind.i64) (IntKind.wrap IntKind.i64 (↑(UInt8.toNat (List.getD b (0 : Nat) (Env.dflt En (0 : Nat)))) : Int)), Leaf.mk (LT.int IntKind.i64) (IntKind.wrap IntKind.i64 (↑(UInt8.toNat (List.getD b (1 : Nat) (Env.dflt En (0 : Nat)))) : Int)),
                                  Leaf.mk LT.str []],
                              tI (2 : Int), tI (0 : Int)],
                            [RV.any]))))
                    (Tree.ite (IntKind.wrap IntKind.i64 (↑(UInt8.toNat (List.getD b (0 : Nat) (Env.dflt En (0 : Nat)))) : Int) != (0 : Int))
                      (Tree.leaf ([TV.agg [Leaf.mk (LT.int IntKind.i64) (0 : Int), Leaf.mk (LT.int IntKind.i64) (0 : Int), Leaf.mk LT.str []], tI (0 : Int), tI (2 : Int)], [RV.any]))
                      (Tree.ite (!vRight (Val.mk (IntKind.wrap IntKind.i64 (↑(UInt8.toNat (List.getD b (0 : Nat) (Env.dflt En (0 : Nat)))) : Int)) (0 : Int) []))
                        (Tree.leaf ([TV.agg [Leaf.mk (LT.int IntKind.i64) (0 : Int), Leaf.mk (LT.int IntKind.i64) (0 : Int), Leaf.mk LT.str []], tI (0 : Int), tI (2 : Int)], [RV.any]))
                        (Tree.leaf ([TV.agg [Leaf.mk (LT.int IntKind.i64) (IntKind.wrap IntKind.i64 (↑(UInt8.toNat (List.getD b (0 : Nat) (Env.dflt En (0 : Nat)))) : Int)), Leaf.mk (LT.int IntKind.i64) (0 : Int), Leaf.mk LT.str []], tI (1 : Int), tI (0 : Int)], [RV.any]))))))))))))) := by kernel_rfl
def F : List TV' → Tree (List TV') := aBytes fun b => a0 (.leaf [tVal (vRead b).1, tI (vRead b).2.1, tI (vRead b).2.2])
abbrev S : Spec En := pureSpec 1 F
theorem zero_of {b : List UInt8} (h : (decide (vSize b < 0) || decide (vSize b > b.length)) = true) : vRead b = (⟨0, 0, []⟩, 0, 2) := by unfold vRead; rw [h]; rfl
theorem ok : SpecOk pr i_ref1_ReadValue S := by
  refine pureOk (ctx := c) cok mixed h_ref1_ReadValue (by kernel_rfl) (one_loop (by kernel_rfl) (by kernel_rfl) L0_ok) (by kernel_rfl) fun xs r h => ?_
  obtain ⟨b, _, rfl, g1⟩ := aBytes_r h
  obtain ⟨rfl, rfl⟩ := a0_r g1
  have hb := fn_t b
  have hq : (b.getD 0 0).toNat < 256 := UInt8.toNat_lt _
  have hp : (b.getD 1 0).toNat < 256 := UInt8.toNat_lt _
  have e0 : IntKind.wrap IntKind.i64 ((UInt8.toNat (List.getD b 0 (Env.dflt En 0)) : Nat) : Int) = (b0 b 0 : Int) := wrap_i64 (x := ((b.getD 0 0).toNat : Int)) (by omega) (by omega)
  have e1 : IntKind.wrap IntKind.i64 ((UInt8.toNat (List.getD b 1 (Env.dflt En 0)) : Nat) : Int) = (b0 b 1 : Int) := wrap_i64 (x := ((b.getD 1 0).toNat : Int)) (by omega) (by omega)
  have e2 : IntKind.wrap IntKind.i64 ((2 : Int) + (b0 b 1 : Int)) = 2 + (b0 b 1 : Int) := wrap_i64 (x := 2 + ((b.getD 1 0).toNat : Int)) (by omega) (by omega)
  rw [e0, e1, e2] at hb
  refine ⟨rfl, Tree.reach_of hb ?_⟩
  clear hb
  cases hl : ((b.length : Int) == 0) with
  | true =>
    have hl' : (b.length : Int) = 0 := by simpa using hl
    have hs : vSize b = -1 := by unfold vSize; rw [show decide ((b.length : Int) < 1) = true by simp; omega]; rfl
    rw [zero_of (by rw [hs]; rfl)]
    exact Tree.reach_tt rfl
  | false =>
  have hl' : ¬ (b.length : Int) = 0 := by simpa using hl
  have hs : vSize b = bif (b0 b 0 : Int) == 0 then 1 else bif (b0 b 0 : Int) == 1 then 9 else bif (b0 b 0 : Int) == 3 || (b0 b 0 : Int) == 4 then 2 else bif decide ((b.length : Int) > 1) then 2 + (b0 b 1 : Int) else -1 := by
    unfold vSize; rw [show decide ((b.length : Int) < 1) = false by simp; omega]; rfl
  refine Tree.reach_ff (Tree.reach_req (by omega) ?_)
  generalize hqq : (b0 b 0 : Int) = q at hs ⊢
  cases k1 : (q == 1) with
  | true =>
    obtain rfl : q = 1 := by simpa using k1
    have hs9 : vSize b = 9 := hs
    cases d9 : decide ((b.length : Int) ≥ 9) with
    | true =>
      have d9' : (b.length : Int) ≥ 9 := by simpa using d9
      have e : vRead b = vTail ⟨1, IntKind.wrap .i64 (numOf 0 ((b.take 9).drop 1) : Nat), []⟩ 9 := by
        unfold vRead; rw [hs9, show (decide ((9 : Int) < 0) || decide ((9 : Int) > (b.length : Int))) = false by simp; omega, hqq]; rfl
      rw [e]
      refine Tree.reach_tt (Tree.reach_tt (Tree.reach_req ⟨by omega, by omega, by omega, ?_⟩ (vfin _ _)))
      rw [show (b.take 1).drop 1 = [] by rw [List.drop_eq_nil_iff, List.length_take]; omega]; rfl
    | false =>
      have d9' : ¬ (b.length : Int) ≥ 9 := by simpa using d9
      rw [zero_of (by rw [hs9]; simp; omega)]
      have k2 : ((1 : Int) == 2) = false := rfl
      have k3 : ((1 : Int) == 3) = false := rfl
      have k4 : ((1 : Int) == 4) = false := rfl
      have k0 : ((1 : Int) != 0) = true := rfl
      simp only [↓Tree.rt, ↓Tree.rf, k1, k2, k3, k4, k0, d9]
      rfl
  | false =>
  cases k2 : (q == 2) with
  | true =>
    obtain rfl : q = 2 := by simpa using k2
    have k3 : ((2 : Int) == 3) = false := rfl
    have k4 : ((2 : Int) == 4) = false := rfl
    have k0 : ((2 : Int) != 0) = true := rfl
    cases d2 : decide ((b.length : Int) ≥ 2) with
    | true =>
      have d2' : (b.length : Int) ≥ 2 := by simpa using d2
      have hs2 : vSize b = 2 + (b0 b 1 : Int) := by rw [hs, show decide ((b.length : Int) > 1) = true by simp; omega]; rfl
      cases dn : decide ((b.length : Int) ≥ 2 + (b0 b 1 : Int)) with
      | true =>
        have dn' : (b.length : Int) ≥ 2 + (b0 b 1 : Int) := by simpa using dn
        have e : vRead b = vTail ⟨2, 0, (b.take (2 + (b0 b 1 : Int)).toNat).drop 2⟩ (2 + (b0 b 1 : Int)) := by
          unfold vRead; rw [hs2, show (decide (2 + (b0 b 1 : Int) < 0) || decide (2 + (b0 b 1 : Int) > (b.length : Int))) = false by simp; omega, hqq]; rfl
        rw [e]
        simp only [↓Tree.rt, ↓Tree.rf, ↓Tree.rq, k1, k2, d2, dn]
        exact ⟨by omega, by omega, ⟨by omega, by omega, dn'⟩, vfin _ _⟩
      | false =>
        have dn' : ¬ (b.length : Int) ≥ 2 + (b0 b 1 : Int) := by simpa using dn
        rw [zero_of (by rw [hs2]; simp; omega)]
        simp only [↓Tree.rt, ↓Tree.rf, ↓Tree.rq, k1, k2, k3, k4, k0, d2, dn]
        exact ⟨by omega, rfl⟩
    | false =>
      have d2' : ¬ (b.length : Int) ≥ 2 := by simpa using d2
      have hs2 : vSize b = -1 := by rw [hs, show decide ((b.length : Int) > 1) = false by simp; omega]; rfl
      rw [zero_of (by rw [hs2]; rfl)]
      simp only [↓Tree.rt, ↓Tree.rf, ↓Tree.rq, k1, k2, k3, k4, k0, d2]
      rfl
  | false =>
  have hone (h2 : (b.length : Int) ≥ 2) : IntKind.wrap .i64 (numOf 0 ((b.take 2).drop 1) : Nat) = (b0 b 1 : Int) := by
    have : numOf 0 ((b.take 2).drop 1) = b0 b 1 := by
      rw [numOf_mid (b := b) (i := 1) (by omega) (by omega) 0, show (b.take 1).drop 1 = [] by rw [List.drop_eq_nil_iff, List.length_take]; omega]
      simp [numOf, b0, List.getD_eq_getElem?_getD]
    rw [this]; exact wrap_i64 (x := ((b.getD 1 0).toNat : Int)) (by omega) (by omega)
  cases k3 : (q == 3) with
  | true =>
    obtain rfl : q = 3 := by simpa using k3
    have k0 : ((3 : Int) != 0) = true := rfl
    have hs2 : vSize b = 2 := hs
    cases d2 : decide ((b.length : Int) ≥ 2) with
    | true =>
      have d2' : (b.length : Int) ≥ 2 := by simpa using d2
      have e : vRead b = vTail ⟨3, (b0 b 1 : Int), []⟩ 2 := by
        unfold vRead; rw [hs2, show (decide ((2 : Int) < 0) || decide ((2 : Int) > (b.length : Int))) = false by simp; omega, hqq, ← hone d2']; rfl
      rw [e]
      simp only [↓Tree.rt, ↓Tree.rf, ↓Tree.rq, k1, k2, k3, d2]
      exact ⟨by omega, vfin _ _⟩
    | false =>
      have d2' : ¬ (b.length : Int) ≥ 2 := by simpa using d2
      rw [zero_of (by rw [hs2]; simp; omega)]
      simp only [↓Tree.rt, ↓Tree.rf, ↓Tree.rq, k1, k2, k3, k0, d2]
      rfl
  | false =>
  cases k4 : (q == 4) with
  | true =>
    obtain rfl : q = 4 := by simpa using k4
    have k0 : ((4 : Int) != 0) = true := rfl
    have hs2 : vSize b = 2 := hs
    cases d2 : decide ((b.length : Int) ≥ 2) with
    | true =>
      have d2' : (b.length : Int) ≥ 2 := by simpa using d2
      have e : vRead b = vTail ⟨4, (b0 b 1 : Int), []⟩ 2 := by
        unfold vRead; rw [hs2, show (decide ((2 : Int) < 0) || decide ((2 : Int) > (b.length : Int))) = false by simp; omega, hqq, ← hone d2']; rfl
      rw [e]
      simp only [↓Tree.rt, ↓Tree.rf, ↓Tree.rq, k1, k2, k3, k4, d2]
      exact ⟨by omega, vfin _ _⟩
    | false =>
      have d2' : ¬ (b.length : Int) ≥ 2 := by simpa using d2
      rw [zero_of (by rw [hs2]; simp; omega)]
      simp only [↓Tree.rt, ↓Tree.rf, ↓Tree.rq, k1, k2, k3, k4, k0, d2]
      rfl
  | false =>
  cases k0 : (q != 0) with
  | true =>
    have kz : (q == 0) = false := by simpa [bne] using k0
    have e : vRead b = (⟨0, 0, []⟩, 0, 2) := by
      cases hz : (decide (vSize b < 0) || decide (vSize b > b.length)) with
      | true => exact zero_of hz
      | false =>
        unfold vRead
        rw [hz, hqq, kz, k1, k3, k4]
        unfold vTail
        have : vRight ⟨q, 0, (b.take (vSize b).toNat).drop 2⟩ = false := by unfold vRight; dsimp only; rw [kz, k1, k2, k3, k4]; rfl
        simp only [cond_false, Bool.or_false, this]; rfl
    rw [e]
    simp only [↓Tree.rt, ↓Tree.rf, ↓Tree.rq, k1, k2, k3, k4, k0]
    rfl
  | false =>
    obtain rfl : q = 0 := by simpa using k0
    have hs1 : vSize b = 1 := hs
    have e : vRead b = vTail ⟨0, 0, []⟩ 1 := by
      unfold vRead; rw [hs1, show (decide ((1 : Int) < 0) || decide ((1 : Int) > (b.length : Int))) = false by simp; omega, hqq]; rfl
    rw [e]
    simp only [↓Tree.rt, ↓Tree.rf, ↓Tree.rq, k1, k2, k3, k4, k0]
    exact vfin _ _
end ref1_ReadValue
namespace value_Read
abbrev c := cx f_value_Read [(i_value_size, value_size.S), (i_value_number, value_number.S), (i_value_Right, value_Right.S)] [] []
theorem fn_t (b : List UInt8) : fnRun value_Read.c f_value_Read (codeOf f_value_Read) [tL 0 b false] (anys 1) =
  Tree.ite (decide (vSize b < (0 : Int)))
  (Tree.ite true (Tree.leaf ([TV.agg [Leaf.mk (LT.int IntKind.i64) (0 : Int), Leaf.mk (LT.int IntKind.i64) (0 : Int), Leaf.mk LT.str []], tI (0 : Int), tI (2 : Int)], [RV.any]))
    (Tree.req ((0 : Int) ≤ (0 : Int) ∧ (0 : Int) < (↑(List.length b) : Int))
      (Tree.ite (IntKind.wrap IntKind.i64 (↑(UInt8.toNat (List.getD b (0 : Nat) (Env.dflt En (0 : Nat)))) : Int) == (0 : Int))
        (Tree.ite (!vRight (Val.mk (IntKind.wrap IntKind.i64 (↑(UInt8.toNat (List.getD b (0 : Nat) (Env.dflt En (0 : Nat)))) : Int)) (0 : Int) []))
          (Tree.leaf ([TV.agg [Leaf.mk (LT.int IntKind.i64) (0 : Int), Leaf.mk (LT.int IntKind.i64) (0 : Int), Leaf.mk LT.str []], tI (0 : Int), tI (2 : Int)], [RV.any]))
          (Tree.leaf ([TV.agg [Leaf.mk (LT.int IntKind.i64) (IntKind.wrap IntKind.i64 (↑(UInt8.toNat (List.getD b (0 : Nat) (Env.dflt En (0 : Nat)))) : Int)), Leaf.mk (LT.int IntKind.i64) (0 : Int), Leaf.mk LT.str []], tI (vSize b), tI (0 : Int)], [RV.any])))
        (Tree.ite (IntKind.wrap IntKind.i64 (↑(UInt8.toNat (List.getD b (0 : Nat) (Env.dflt En (0 : Nat)))) : Int) == (1 : Int))
          (Tree.ite (IntKind.wrap IntKind.i64 (↑(UInt8.toNat (List.getD b (0 : Nat) (Env.dflt En (0 : Nat)))) : Int) == (1 : Int))
            (Tree.req ((0 : Int) ≤ (1 : Int) ∧ (1 : Int) ≤ vSize b ∧ vSize b ≤ (↑(List.length b) : Int))
              (Tree.req (List.length (List.drop (1 : Nat) (List.take (Int.toNat (vSize b)) b)) ≤ (8 : Nat))
                (Tree.ite (!vRight (Val.mk (IntKind.wrap IntKind.i64 (↑(UInt8.toNat (List.getD b (0 : Nat) (Env.dflt En (0 : Nat)))) : Int)) (IntKind.wrap IntKind.i64 (↑(numOf (0 : Nat) (List.drop (1 : Nat) (List.take (Int.toNat (vSize b)) b))) : Int)) []))
                  (Tree.leaf ([TV.agg [Leaf.mk (LT.int IntKind.i64) (0 : Int), Leaf.mk (LT.int IntKind.i64) (0 : Int), Leaf.mk LT.str []], tI (0 : Int), tI (2 : Int)], [RV.any]))
                  (Tree.leaf
                    ([TV.agg
                          [Leaf.mk (LT.int IntKind.i64) (IntKind.wrap IntKind.i64 (↑(UInt8.toNat (List.getD b (0 : Nat) (Env.dflt En (0 : Nat)))) : Int)), Leaf.mk (LT.int IntKind.i64) (IntKind.wrap IntKind.i64 (↑(numOf (0 : Nat) (List.drop (1 : Nat) (List.take (Int.toNat (vSize b)) b))) : Int)),
                            Leaf.mk LT.str []],
                        tI (vSize b), tI (0 : Int)],
                      [RV.any])))))
            (Tree.req ((0 : Int) ≤ (2 : Int) ∧ (2 : Int) ≤ vSize b ∧ vSize b ≤ (↑(List.length b) : Int))
              (Tree.ite (!vRight (Val.mk (IntKind.wrap IntKind.i64 (↑(UInt8.toNat (List.getD b (0 : Nat) (Env.dflt En (0 : Nat)))) : Int)) (0 : Int) (List.drop (2 : Nat) (List.take (Int.toNat (vSize b)) b))))
                (Tree.leaf ([TV.agg [Leaf.mk (LT.int IntKind.i64) (0 : Int), Leaf.mk (LT.int IntKind.i64) (0 : Int), Leaf.mk LT.str []], tI (0 : Int), tI (2 : Int)], [RV.any]))
                (Tree.leaf
                  ([TV.agg [Leaf.mk (LT.int IntKind.i64) (IntKind.wrap IntKind.i64 (↑(UInt8.toNat (List.getD b (0 : Nat) (Env.dflt En (0 : Nat)))) : Int)), Leaf.mk (LT.int IntKind.i64) (0 : Int), Leaf.mk LT.str (List.drop (2 : Nat) (List.take (Int.toNat (vSize b)) b))], tI (vSize b), tI (0 : Int)],
                    [RV.any])))))
          (Tree.ite (IntKind.wrap IntKind.i64 (↑(UInt8.toNat (List.getD b (0 : Nat) (Env.dflt En (0 : Nat)))) : Int) == (3 : Int))
            (Tree.ite (IntKind.wrap IntKind.i64 (↑(UInt8.toNat (List.getD b (0 : Nat) (Env.dflt En (0 : Nat)))) : Int) == (3 : Int))
              (Tree.req ((0 : Int) ≤ (1 : Int) ∧ (1 : Int) ≤ vSize b ∧ vSize b ≤ (↑(List.length b) : Int))
                (Tree.req (List.length (List.drop (1 : Nat) (List.take (Int.toNat (vSize b)) b)) ≤ (8 : Nat))
                  (Tree.ite (!vRight (Val.mk (IntKind.wrap IntKind.i64 (↑(UInt8.toNat (List.getD b (0 : Nat) (Env.dflt En (0 : Nat)))) : Int)) (IntKind.wrap IntKind.i64 (↑(numOf (0 : Nat) (List.drop (1 : Nat) (List.take (Int.toNat (vSize b)) b))) : Int)) []))
                    (Tree.leaf ([TV.agg [Leaf.mk (LT.int IntKind.i64) (0 : Int), Leaf.mk (LT.int IntKind.i64) (0 : Int), Leaf.mk LT.str []], tI (0 : Int), tI (2 : Int)], [RV.any]))
                    (Tree.leaf
                      ([TV.agg
                            [Leaf.mk (LT.int IntKind.i64) (IntKind.wrap IntKind.i64 (↑(UInt8.toNat (List.getD b (0 : Nat) (Env.dflt En (0 : Nat)))) : Int)), Leaf.mk (LT.int IntKind.i64) (IntKind.wrap IntKind.i64 (↑(numOf (0 : Nat) (List.drop (1 : Nat) (List.take (Int.toNat (vSize b)) b))) : Int)),
                              Leaf.mk LT.str []],
                          tI (vSize b), tI (0 : Int)],
                        [RV.any])))))
              (Tree.req ((0 : Int) ≤ (2 : Int) ∧ (2 : Int) ≤ vSize b ∧ vSize b ≤ (↑(List.length b) : Int))
                (Tree.ite (!vRight (Val.mk (IntKind.wrap IntKind.i64 (↑(UInt8.toNat (List.getD b (0 : Nat) (Env.dflt En (0 : Nat)))) : Int)) (0 : Int) (List.drop (2 : Nat) (List.take (Int.toNat (vSize b)) b))))
                  (Tree.leaf ([TV.agg [Leaf.mk (LT.int IntKind.i64) (0 : Int), Leaf.mk (LT.int IntKind.i64) (0 : Int), Leaf.mk LT.str []], tI (0 : Int), tI (2 : Int)], [RV.any]))
                  (Tree.leaf
                    ([TV.agg [Leaf.mk (LT.int IntKind.i64) (IntKind.wrap IntKind.i64 (↑(UInt8.toNat (List.getD b (0 : Nat) (Env.dflt En (0 : Nat)))) : Int)), Leaf.mk (LT.int IntKind.i64) (0 : Int), Leaf.mk LT.str (List.drop (2 : Nat) (List.take (Int.toNat (vSize b)) b))], tI (vSize b),
                        tI (0 : Int)],
                      [RV.any])))))
            (Tree.ite (IntKind.wrap IntKind.i64 (↑(UInt8.toNat (List.getD b (0 : Nat) (Env.dflt En (0 : Nat)))) : Int) == (4 : Int))
              (Tree.req ((0 : Int) ≤ (1 : Int) ∧ (1 : Int) ≤ vSize b ∧ vSize b ≤ (↑(List.length b) : Int))
                (Tree.req (List.length (List.drop (1 : Nat) (List.take (Int.toNat (vSize b)) b)) ≤ (8 : Nat))
                  (Tree.ite (!vRight (Val.mk (IntKind.wrap IntKind.i64 (↑(UInt8.toNat (List.getD b (0 : Nat) (Env.dflt En (0 : Nat)))) : Int)) (IntKind.wrap IntKind.i64 (↑(numOf (0 : Nat) (List.drop (1 : Nat) (List.take (Int.toNat (vSize b)) b))) : Int)) []))
                    (Tree.leaf ([TV.agg [Leaf.mk (LT.int IntKind.i64) (0 : Int), Leaf.mk (LT.int IntKind.i64) (0 : Int), Leaf.mk LT.str []], tI (0 : Int), tI (2 : Int)], [RV.any]))
                    (Tree.leaf
                      ([TV.agg
                            [Leaf.mk (LT.int IntKind.i64) (IntKind.wrap IntKind.i64 (↑(UInt8.toNat (List.getD b (0 : Nat) (Env.dflt En (0 : Nat)))) : Int)), Leaf.mk (LT.int IntKind.i64) (IntKind.wrap IntKind.i64 (↑(numOf (0 : Nat) (List.drop (1 : Nat) (List.take (Int.toNat (vSize b)) b))) : Int)),
                              Leaf.mk LT.str []],
                          tI (vSize b), tI (0 : Int)],
                        [RV.any])))))
              (Tree.req ((0 : Int) ≤ (2 : Int) ∧ (2 : Int) ≤ vSize b ∧ vSize b ≤ (↑(List.length b) : Int))
                (Tree.ite (!vRight (Val.mk (IntKind.wrap IntKind.i64 (↑(UInt8.toNat (List.getD b (0 : Nat) (Env.dflt En (0 : Nat)))) : Int)) (0 : Int) (List.drop (2 : Nat) (List.take (Int.toNat (vSize b)) b))))
                  (Tree.leaf ([TV.agg [Leaf.mk (LT.int IntKind.i64) (0 : Int), Leaf.mk (LT.int IntKind.i64) (0 : Int), Leaf.mk LT.str []], tI (0 : Int), tI (2 : Int)], [RV.any]))
                  (Tree.leaf
                    ([TV.agg [Leaf.mk (LT.int IntKind.i64) (IntKind.wrap IntKind.i64 (↑(UInt8.toNat (List.getD b (0 : Nat) (Env.dflt En (0 : Nat)))) : Int)), Leaf.mk (LT.int IntKind.i64) (0 : Int), Leaf.mk LT.str (List.drop (2 : Nat) (List.take (Int.toNat (vSize b)) b))], tI (vSize b),
                        tI (0 : Int)],
                      [RV.any]))))))))))
  (Tree.ite (decide (vSize b > (↑(List.length b) : Int))) (Tree.leaf ([TV.agg [Leaf.mk (LT.int IntKind.i64) (0 : Int), Leaf.mk (LT.int IntKind.i64) (0 : Int), Leaf.mk LT.str []], tI (0 : Int), tI (2 : Int)], [RV.any]))
    (Tree.req ((0 : Int) ≤ (0 : Int) ∧ (0 : Int) < (↑(List.length b) : Int))
      (Tree.ite (IntKind.wrap IntKind.i64 (↑(UInt8.toNat (List.getD b (0 : Nat) (Env.dflt En (0 : Nat)))) : Int) == (0 : Int))
        (Tree.ite (!vRight (Val.mk (IntKind.wrap IntKind.i64 (↑(UInt8.toNat (List.getD b (0 : Nat) (Env.dflt En (0 : Nat)))) : Int)) (0 : Int) []))
          (Tree.leaf ([TV.agg [Leaf.mk (LT.int IntKind.i64) (0 : Int), Leaf.mk (LT.int IntKind.i64) (0 : Int), Leaf.mk LT.str []], tI (0 : Int), tI (2 : Int)], [RV.any]))
          (Tree.leaf ([TV.agg [Leaf.mk (LT.int IntKind.i64) (IntKind.wrap IntKind.i64 (↑(UInt8.toNat (List.getD b (0 : Nat) (Env.dflt En (0 : Nat)))) : Int)), Leaf.mk (LT.int IntKind.i64) (0 : Int), Leaf.mk LT.str []], tI (vSize b), tI (0 : Int)], [RV.any])))
        (Tree.ite (IntKind.wrap IntKind.i64 (↑(UInt8.toNat (List.getD b (0 : Nat) (Env.dflt En (0 : Nat)))) : Int) == (1 : Int))
          (Tree.ite (IntKind.wrap IntKind.i64 (↑(UInt8.toNat (List.getD b (0 : Nat) (Env.dflt En (0 : Nat)))) : Int) == (1 : Int))
            (Tree.req ((0 : Int) ≤ (1 : Int) ∧ (1 : Int) ≤ vSize b ∧ vSize b ≤ (↑(List.length b) : Int))
              (Tree.req (List.length (List.drop (1 : Nat) (List.take (Int.toNat (vSize b)) b)) ≤ (8 : Nat))
                (Tree.ite (!vRight (Val.mk (IntKind.wrap IntKind.i64 (↑(UInt8.toNat (List.getD b (0 : Nat) (Env.dflt En (0 : Nat)))) : Int)) (IntKind.wrap IntKind.i64 (↑(numOf (0 : Nat) (List.drop (1 : Nat) (List.take (Int.toNat (vSize b)) b))) : Int)) []))
                  (Tree.leaf ([TV.agg [Leaf.mk (LT.int IntKind.i64) (0 : Int), Leaf.mk (LT.int IntKind.i64) (0 : Int), Leaf.mk LT.str []], tI (0 : Int), tI (2 : Int)], [RV.any]))
                  (Tree.leaf
                    ([TV.agg
                          [Leaf.mk (LT.int IntKind.i64) (IntKind.wrap IntKind.i64 (↑(UInt8.toNat (List.getD b (0 : Nat) (Env.dflt En (0 : Nat)))) : Int)), Leaf.mk (LT.int IntKind.i64) (IntKind.wrap IntKind.i64 (↑(numOf (0 : Nat) (List.drop (1 : Nat) (List.take (Int.toNat (vSize b)) b))) : Int)),
                            Leaf.mk LT.str []],
                        tI (vSize b), tI (0 : Int)],
                      [RV.any])))))
            (Tree.req ((0 : Int) ≤ (2 : Int) ∧ (2 : Int) ≤ vSize b ∧ vSize b ≤ (↑(List.length b) : Int))
              (Tree.ite (!vRight (Val.mk (IntKind.wrap IntKind.i64 (↑(UInt8.toNat (List.getD b (0 : Nat) (Env.dflt En (0 : Nat)))) : Int)) (0 : Int) (List.drop (2 : Nat) (List.take (Int.toNat (vSize b)) b))))
                (Tree.leaf ([TV.agg [Leaf.mk (LT.int IntKind.i64) (0 : Int), Leaf.mk (LT.int IntKind.i64) (0 : Int), Leaf.mk LT.str []], tI (0 : Int), tI (2 : Int)], [RV.any]))
                (Tree.leaf
                  ([TV.agg [Leaf.mk (LT.int IntKind.i64) (IntKind.wrap IntKind.i64 (↑(UInt8.toNat (List.getD b (0 : Nat) (Env.dflt En (0 : Nat)))) : Int)), Leaf.mk (LT.int IntKind.i64) (0 : Int), Leaf.mk LT.str (List.drop (2 : Nat) (List.take (Int.toNat (vSize b)) b))], tI (vSize b), tI (0 : Int)],
                    [RV.any])))))
          (Tree.ite (IntKind.wrap IntKind.i64 (↑(UInt8.toNat (List.getD b (0 : Nat) (Env.dflt En (0 : Nat)))) : Int) == (3 : Int))
            (Tree.ite (IntKind.wrap IntKind.i64 (↑(UInt8.toNat (List.getD b (0 : Nat) (Env.dflt En (0 : Nat)))) : Int) == (3 : Int))
              (Tree.req ((0 : Int) ≤ (1 : Int) ∧ (1 : Int) ≤ vSize b ∧ vSize b ≤ (↑(List.length b) : Int))
                (Tree.req (List.length (List.drop (1 : Nat) (List.take (Int.toNat (vSize b)) b)) ≤ (8 : Nat))
                  (Tree.ite (!vRight (Val.mk (IntKind.wrap IntKind.i64 (↑(UInt8.toNat (List.getD b (0 : Nat) (Env.dflt En (0 : Nat)))) : Int)) (IntKind.wrap IntKind.i64 (↑(numOf (0 : Nat) (List.drop (1 : Nat) (List.take (Int.toNat (vSize b)) b))) : Int)) []))
                    (Tree.leaf ([TV.agg [Leaf.mk (LT.int IntKind.i64) (0 : Int), Leaf.mk (LT.int IntKind.i64) (0 : Int), Leaf.mk LT.str []], tI (0 : Int), tI (2 : Int)], [RV.any]))
                    (Tree.leaf
                      ([TV.agg
                            [Leaf.mk (LT.int IntKind.i64) (IntKind.wrap IntKind.i64 (↑(UInt8.toNat (List.getD b (0 : Nat) (Env.dflt En (0 : Nat)))) : Int)), Leaf.mk (LT.int IntKind.i64) (IntKind.wrap IntKind.i64 (↑(numOf (0 : Nat) (List.drop (1 : Nat) (List.take (Int.toNat (vSize b)) b))) : Int)),
                              Leaf.mk LT.str []],
                          tI (vSize b), tI (0 : Int)],
                        [RV.any])))))
              (Tree.req ((0 : Int) ≤ (2 : Int) ∧ (2 : Int) ≤ vSize b ∧ vSize b ≤ (↑(List.length b) : Int))
                (Tree.ite (!vRight (Val.mk (IntKind.wrap IntKind.i64 (↑(UInt8.toNat (List.getD b (0 : Nat) (Env.dflt En (0 : Nat)))) : Int)) (0 : Int) (List.drop (2 : Nat) (List.take (Int.toNat (vSize b)) b))))
                  (Tree.leaf ([TV.agg [Leaf.mk (LT.int IntKind.i64) (0 : Int), Leaf.mk (LT.int IntKind.i64) (0 : Int), Leaf.mk LT.str []], tI (0 : Int), tI (2 : Int)], [RV.any]))
                  (Tree.leaf
                    ([TV.agg [Leaf.mk (LT.int IntKind.i64) (IntKind.wrap IntKind.i64 (↑(UInt8.toNat (List.getD b (0 : Nat) (Env.dflt En (0 : Nat)))) : Int)), Leaf.mk (LT.int IntKind.i64) (0 : Int), Leaf.mk LT.str (List.drop (2 : Nat) (List.take (Int.toNat (vSize b)) b))], tI (vSize b),
                        tI (0 : Int)],
                      [RV.any])))))
            (Tree.ite (IntKind.wrap IntKind.i64 (↑(UInt8.toNat (List.getD b (0 : Nat) (Env.dflt En (0 : Nat)))) : Int) == (4 : Int))
              (Tree.req ((0 : Int) ≤ (1 : Int) ∧ (1 : Int) ≤ vSize b ∧ vSize b ≤ (↑(List.length b) : Int))
                (Tree.req (List.length (List.drop (1 : Nat) (List.take (Int.toNat (vSize b)) b)) ≤ (8 : Nat))
                  (Tree.ite (!vRight (Val.mk (IntKind.wrap IntKind.i64 (↑(UInt8.toNat (List.getD b (0 : Nat) (Env.dflt En (0 : Nat)))) : Int)) (IntKind.wrap IntKind.i64 (↑(numOf (0 : Nat) (List.drop (1 : Nat) (List.take (Int.toNat (vSize b)) b))) : Int)) []))
                    (Tree.leaf ([TV.agg [Leaf.mk (LT.int IntKind.i64) (0 : Int), Leaf.mk (LT.int IntKind.i64) (0 : Int), Leaf.mk LT.str []], tI (0 : Int), tI (2 : Int)], [RV.any]))
                    (Tree.leaf
                      ([TV.agg
                            [Leaf.mk (LT.int IntKind.i64) (IntKind.wrap IntKind.i64 (↑(UInt8.toNat (List.getD b (0 : Nat) (Env.dflt En (0 : Nat)))) : Int)), Leaf.mk (LT.int IntKind.i64) (IntKind.wrap IntKind.i64 (↑(numOf (0 : Nat) (List.drop (1 : Nat) (List.take (Int.toNat (vSize b)) b))) : Int)),
                              Leaf.mk LT.str []],
                          tI (vSize b), tI (0 : Int)],
                        [RV.any])))))
              (Tree.req ((0 : Int) ≤ (2 : Int) ∧ (2 : Int) ≤ vSize b ∧ vSize b ≤ (↑(List.length b) : Int))
                (Tree.ite (!vRight (Val.mk (IntKind.wrap IntKind.i64 (↑(UInt8.toNat (List.getD b (0 : Nat) (Env.dflt En (0 : Nat)))) : Int)) (0 : Int) (List.drop (2 : Nat) (List.take (Int.toNat (vSize b)) b))))
                  (Tree.leaf ([TV.agg [Leaf.mk (LT.int IntKind.i64) (0 : Int), Leaf.mk (LT.int IntKind.i64) (0 : Int), Leaf.mk LT.str []], tI (0 : Int), tI (2 : Int)], [RV.any]))
                  (Tree.leaf
                    ([TV.agg [Leaf.mk (LT.int IntKind.i64) (IntKind.wrap IntKind.i64 (↑(UInt8.toNat (List.getD b (0 : Nat) (Env.dflt En (0 : Nat)))) : Int)), Leaf.mk (LT.int IntKind.i64) (0 : Int), Leaf.mk LT.str (List.drop (2 : Nat) (List.take (Int.toNat (vSize b)) b))], tI (vSize b),
                        tI (0 : Int)],
                      [RV.any])))))))))) := by kernel_rfl
def F : List TV' → Tree (List TV') := aBytes fun b => a0 (.leaf [tVal (vRead b).1, tI (vRead b).2.1, tI (vRead b).2.2])
abbrev S : Spec En := pureSpec 1 F
theorem ok : SpecOk pr i_value_Read S := by
  refine pureOk (ctx := c) (cx_ok (.cons value_size.ok (.cons value_number.ok (.cons value_Right.ok .nil))) nil_ok) mixed h_value_Read (by kernel_rfl) (no_loop (by kernel_rfl)) (by kernel_rfl) fun xs r h => ?_
  obtain ⟨b, _, rfl, g1⟩ := aBytes_r h
  obtain ⟨rfl, rfl⟩ := a0_r g1
  have hb := fn_t b
  have e0 : IntKind.wrap IntKind.i64 ((UInt8.toNat (List.getD b 0 (Env.dflt En 0)) : Nat) : Int) = (b0 b 0 : Int) := by
    have : (b.getD 0 0).toNat < 256 := UInt8.toNat_lt _
    exact wrap_i64 (x := ((b.getD 0 0).toNat : Int)) (by omega) (by omega)
  rw [e0] at hb
  refine ⟨rfl, Tree.reach_of hb ?_⟩
  unfold vRead
  cases hn : decide (vSize b < 0) with
  | true => exact Tree.reach_tt (Tree.reach_tt rfl)
  | false =>
  refine Tree.reach_ff ?_
  cases hg : decide (vSize b > (b.length : Int)) with
  | true => exact Tree.reach_tt rfl
  | false =>
  have hn' : ¬ vSize b < 0 := by simpa using hn
  have hg' : ¬ vSize b > (b.length : Int) := by simpa using hg
  obtain ⟨s1, s2, s3, s4⟩ := vSize_1 hn'
  refine Tree.reach_ff (Tree.reach_req (by omega) ?_)
  have hl (h : vSize b ≤ 9) : List.length (List.drop 1 (List.take (Int.toNat (vSize b)) b)) ≤ 8 := by
    rw [List.length_drop, List.length_take]; omega
  cases k0 : ((b0 b 0 : Int) == 0) with
  | true => exact Tree.reach_tt (vfin _ _)
  | false =>
  have s5 := s3 k0
  refine Tree.reach_ff ?_
  cases k1 : ((b0 b 0 : Int) == 1) with
  | true => exact Tree.reach_tt (Tree.reach_tt (Tree.reach_req (by omega) (Tree.reach_req (hl (s4 (by rw [k1]; rfl))) (vfin _ _))))
  | false =>
  refine Tree.reach_ff ?_
  cases k3 : ((b0 b 0 : Int) == 3) with
  | true => exact Tree.reach_tt (Tree.reach_tt (Tree.reach_req (by omega) (Tree.reach_req (hl (s4 (by rw [k3, Bool.or_true, Bool.true_or]))) (vfin _ _))))
  | false =>
  refine Tree.reach_ff ?_
  cases k4 : ((b0 b 0 : Int) == 4) with
  | true => exact Tree.reach_tt (Tree.reach_req (by omega) (Tree.reach_req (hl (s4 (by rw [k4, Bool.or_true]))) (vfin _ _)))
  | false => exact Tree.reach_ff (Tree.reach_req (by omega) (vfin _ _))
end value_Read
end Go.Rf
end
end
