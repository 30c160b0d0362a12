/-
  A part of the proof whose end is the text 'YtngeeddmnnmlmaaLaw1': the verified evaluator ('Core') and what it finds of the functions ('Fn').
-/
import Derived.Test.YtngeeddmnnmlmaaFn2
set_option linter.all false
set_option linter.unusedVariables false
set_option linter.unusedSimpArgs false
set_option linter.unnecessarySimpa false
section
set_option linter.unusedSimpArgs false
set_option linter.unusedVariables false
noncomputable section
namespace Go.Rf
open Go.Proofs
set_option maxRecDepth 100000
namespace frame_writer_shown
abbrev c := cx f_frame_writer_shown [(i_frame_writer_cell, frame_writer_cell.S), (i_value_Right, value_Right.S), (i_value_Bytes, value_Bytes.S)] [] []
theorem fn_t (x : Shown) (w : BF) : fnRun frame_writer_shown.c f_frame_writer_shown (codeOf f_frame_writer_shown) [tP 0 0, tShown x] [stV t_frame_writer true w, .any] =
  Tree.req (room (List.length (Prod.fst w) + (260 : Nat)))
  (Tree.ite (Prod.snd (wCell w (Cell.mk (Cell.sheet (Shown.cell x)) (Cell.col (Shown.cell x)) (Cell.row (Shown.cell x)))))
    (Tree.req ((List.length (Prod.fst (wCell w (Cell.mk (Cell.sheet (Shown.cell x)) (Cell.col (Shown.cell x)) (Cell.row (Shown.cell x))))) + List.length (vBytes (Val.mk (Val.kind (Shown.val x)) (Val.n (Shown.val x)) (Val.s (Shown.val x))))) * (1 : Nat) ≤ (140737488355328 : Nat))
      (Tree.leaf
        ([],
          [RV.blk t_frame_writer [(Leaf.mk (LT.sl (0 : Nat)) (Prod.fst (wCell w (Cell.mk (Cell.sheet (Shown.cell x)) (Cell.col (Shown.cell x)) (Cell.row (Shown.cell x)))) ++ vBytes (Val.mk (Val.kind (Shown.val x)) (Val.n (Shown.val x)) (Val.s (Shown.val x)))), true), (Leaf.mk LT.bool true, false)],
            RV.any])))
    (Tree.req ((List.length (Prod.fst (wCell w (Cell.mk (Cell.sheet (Shown.cell x)) (Cell.col (Shown.cell x)) (Cell.row (Shown.cell x))))) + List.length (vBytes (Val.mk (Val.kind (Shown.val x)) (Val.n (Shown.val x)) (Val.s (Shown.val x))))) * (1 : Nat) ≤ (140737488355328 : Nat))
      (Tree.leaf
        ([],
          [RV.blk t_frame_writer
              [(Leaf.mk (LT.sl (0 : Nat)) (Prod.fst (wCell w (Cell.mk (Cell.sheet (Shown.cell x)) (Cell.col (Shown.cell x)) (Cell.row (Shown.cell x)))) ++ vBytes (Val.mk (Val.kind (Shown.val x)) (Val.n (Shown.val x)) (Val.s (Shown.val x)))), true),
                (Leaf.mk LT.bool !vRight (Val.mk (Val.kind (Shown.val x)) (Val.n (Shown.val x)) (Val.s (Shown.val x))), false)],
            RV.any])))) := by kernel_rfl
def F (w : BF) : List TV' → Tree (List TV' × BF) := aP 0 (aShown fun x => a0 (.req (room (w.1.length + 462)) (.leaf ([], wShown w x))))
abbrev S : Spec En := stSpec t_frame_writer true 1 F
theorem ok : SpecOk pr i_frame_writer_shown S := by
  refine stOk (ctx := c) (cx_ok (.cons frame_writer_cell.ok (.cons value_Right.ok (.cons value_Bytes.ok .nil))) nil_ok) h_frame_writer_shown (by kernel_rfl) (no_loop (by kernel_rfl)) fun w xs rs w' h => ?_
  obtain ⟨xs, rfl, g1⟩ := aP_r h
  obtain ⟨x, _, rfl, g2⟩ := aShown_r g1
  obtain ⟨rfl, h0, g⟩ := a0_r g2
  obtain ⟨rfl, rfl⟩ := Prod.mk.inj g
  have h1 := wCell_len w x.cell
  have h2 := vBytes_len x.val
  unfold room at h0
  obtain ⟨⟨s, p, q⟩, ⟨k, n, t⟩⟩ := x
  have hb := fn_t ⟨⟨s, p, q⟩, ⟨k, n, t⟩⟩ w
  dsimp only at hb h1 h2
  have hl : (List.length (wCell w ⟨s, p, q⟩).1 + List.length (vBytes ⟨k, n, t⟩)) * 1 ≤ 140737488355328 := by omega
  refine ⟨rfl, Tree.reach_of hb (Tree.reach_req (by unfold room; omega) ?_)⟩
  unfold wShown
  dsimp only
  cases (wCell w ⟨s, p, q⟩).2 with
  | true => exact Tree.reach_tt (Tree.reach_req hl rfl)
  | false => exact Tree.reach_ff (Tree.reach_req hl rfl)
end frame_writer_shown
namespace frame_reader_shown
abbrev c := cx f_frame_reader_shown [(i_frame_reader_cell, frame_reader_cell.S), (i_value_Read, value_Read.S), (i_frame_reader_take, frame_reader_take.S)] [] []
theorem fn_t (w : BF) : fnRun frame_reader_shown.c f_frame_reader_shown (codeOf f_frame_reader_shown) [tP 0 0] [stV t_frame_reader false w] =
  Tree.ite (Prod.snd (Prod.snd (rdCell w)))
  (Tree.req ((0 : Int) ≤ Prod.fst (Prod.snd (vRead (Prod.fst (Prod.snd (rdCell w))))))
    (Tree.leaf
      ([TV.agg
            [Leaf.mk LT.str (Cell.sheet (Prod.fst (rdCell w))), Leaf.mk (LT.int IntKind.i64) (Cell.col (Prod.fst (rdCell w))), Leaf.mk (LT.int IntKind.i64) (Cell.row (Prod.fst (rdCell w))), Leaf.mk (LT.int IntKind.i64) (Val.kind (Prod.fst (vRead (Prod.fst (Prod.snd (rdCell w)))))),
              Leaf.mk (LT.int IntKind.i64) (Val.n (Prod.fst (vRead (Prod.fst (Prod.snd (rdCell w)))))), Leaf.mk LT.str (Val.s (Prod.fst (vRead (Prod.fst (Prod.snd (rdCell w))))))]],
        [RV.blk t_frame_reader
            [(Leaf.mk (LT.sl (0 : Nat)) (Prod.fst (Prod.snd (rTake (Prod.fst (Prod.snd (rdCell w)), true) (Int.toNat (Prod.fst (Prod.snd (vRead (Prod.fst (Prod.snd (rdCell w)))))))))), false),
              (Leaf.mk LT.bool (Prod.snd (Prod.snd (rTake (Prod.fst (Prod.snd (rdCell w)), true) (Int.toNat (Prod.fst (Prod.snd (vRead (Prod.fst (Prod.snd (rdCell w)))))))))), false)]])))
  (Tree.req ((0 : Int) ≤ Prod.fst (Prod.snd (vRead (Prod.fst (Prod.snd (rdCell w))))))
    (Tree.leaf
      ([TV.agg
            [Leaf.mk LT.str (Cell.sheet (Prod.fst (rdCell w))), Leaf.mk (LT.int IntKind.i64) (Cell.col (Prod.fst (rdCell w))), Leaf.mk (LT.int IntKind.i64) (Cell.row (Prod.fst (rdCell w))), Leaf.mk (LT.int IntKind.i64) (Val.kind (Prod.fst (vRead (Prod.fst (Prod.snd (rdCell w)))))),
              Leaf.mk (LT.int IntKind.i64) (Val.n (Prod.fst (vRead (Prod.fst (Prod.snd (rdCell w)))))), Leaf.mk LT.str (Val.s (Prod.fst (vRead (Prod.fst (Prod.snd (rdCell w))))))]],
        [RV.blk t_frame_reader
            [(Leaf.mk (LT.sl (0 : Nat)) (Prod.fst (Prod.snd (rTake (Prod.fst (Prod.snd (rdCell w)), Prod.snd (Prod.snd (vRead (Prod.fst (Prod.snd (rdCell w))))) != (0 : Int)) (Int.toNat (Prod.fst (Prod.snd (vRead (Prod.fst (Prod.snd (rdCell w)))))))))), false),
              (Leaf.mk LT.bool (Prod.snd (Prod.snd (rTake (Prod.fst (Prod.snd (rdCell w)), Prod.snd (Prod.snd (vRead (Prod.fst (Prod.snd (rdCell w))))) != (0 : Int)) (Int.toNat (Prod.fst (Prod.snd (vRead (Prod.fst (Prod.snd (rdCell w)))))))))), false)]]))) := by kernel_rfl
def F (w : BF) : List TV' → Tree (List TV' × BF) := aP 0 (a0 (.leaf ([tShown (rdShown w).1], (rdShown w).2)))
abbrev S : Spec En := stSpec t_frame_reader false 0 F
theorem ok : SpecOk pr i_frame_reader_shown S := by
  refine stOk (ctx := c) (cx_ok (.cons frame_reader_cell.ok (.cons value_Read.ok (.cons frame_reader_take.ok .nil))) nil_ok) h_frame_reader_shown (by kernel_rfl) (no_loop (by kernel_rfl)) fun w xs rs w' h => ?_
  obtain ⟨xs, rfl, g1⟩ := aP_r h
  obtain ⟨rfl, g⟩ := a0_r g1
  obtain ⟨rfl, rfl⟩ := Prod.mk.inj g
  refine ⟨rfl, Tree.reach_of (fn_t w) ?_⟩
  have hn := vRead_n (rdCell w).2.1
  have e : (rdShown w).2 = (rTake ((rdCell w).2.1, (rdCell w).2.2 || (vRead (rdCell w).2.1).2.2 != 0) (vRead (rdCell w).2.1).2.1.toNat).2 := rfl
  rw [e]
  cases hb : (rdCell w).2.2 with
  | true => exact Tree.reach_tt (Tree.reach_req hn rfl)
  | false => exact Tree.reach_ff (Tree.reach_req hn rfl)
end frame_reader_shown
namespace frame_ReadEdit
abbrev c := cx f_frame_ReadEdit [(i_frame_reader_cell, frame_reader_cell.S), (i_frame_reader_number, frame_reader_number.S), (i_frame_reader_short, frame_reader_short.S), (i_frame_reader_ended, frame_reader_ended.S)] [] []
theorem fn_t (b : List UInt8) : fnRun frame_ReadEdit.c f_frame_ReadEdit (codeOf f_frame_ReadEdit) [tL 0 b false] (anys 1) =
  Tree.req ((0 : Int) ≤ (1 : Int) ∧ (1 : Int) ≤ (6 : Int))
  (Tree.ite ((↑(numOf (0 : Nat) (Prod.fst (rTake (b, false) (1 : Nat)))) : Int) == (1 : Int))
    (Tree.ite (!rEnded (Prod.snd (rShort (Prod.snd (rdCell (Prod.snd (rTake (b, false) (1 : Nat))))))))
      (Tree.leaf
        ([TV.agg
              [Leaf.mk (LT.int IntKind.i64) (0 : Int), Leaf.mk LT.str [], Leaf.mk (LT.int IntKind.i64) (0 : Int), Leaf.mk (LT.int IntKind.i64) (0 : Int), Leaf.mk LT.str [], Leaf.mk LT.str [], Leaf.mk LT.str [], Leaf.mk (LT.int IntKind.i64) (0 : Int), Leaf.mk (LT.int IntKind.i64) (0 : Int),
                Leaf.mk LT.str [], Leaf.mk (LT.int IntKind.i64) (0 : Int), Leaf.mk (LT.int IntKind.i64) (0 : Int)],
            tI (2 : Int)],
          [RV.any]))
      (Tree.leaf
        ([TV.agg
              [Leaf.mk (LT.int IntKind.i64) (↑(numOf (0 : Nat) (Prod.fst (rTake (b, false) (1 : Nat)))) : Int), Leaf.mk LT.str (Cell.sheet (Prod.fst (rdCell (Prod.snd (rTake (b, false) (1 : Nat)))))),
                Leaf.mk (LT.int IntKind.i64) (Cell.col (Prod.fst (rdCell (Prod.snd (rTake (b, false) (1 : Nat)))))), Leaf.mk (LT.int IntKind.i64) (Cell.row (Prod.fst (rdCell (Prod.snd (rTake (b, false) (1 : Nat)))))), Leaf.mk LT.str [],
                Leaf.mk LT.str (Prod.fst (rShort (Prod.snd (rdCell (Prod.snd (rTake (b, false) (1 : Nat))))))), Leaf.mk LT.str [], Leaf.mk (LT.int IntKind.i64) (0 : Int), Leaf.mk (LT.int IntKind.i64) (0 : Int), Leaf.mk LT.str [], Leaf.mk (LT.int IntKind.i64) (0 : Int),
                Leaf.mk (LT.int IntKind.i64) (0 : Int)],
            tI (0 : Int)],
          [RV.any])))
    (Tree.ite ((↑(numOf (0 : Nat) (Prod.fst (rTake (b, false) (1 : Nat)))) : Int) == (2 : Int))
      (Tree.ite (!rEnded (Prod.snd (rdCell (Prod.snd (rTake (b, false) (1 : Nat))))))
        (Tree.leaf
          ([TV.agg
                [Leaf.mk (LT.int IntKind.i64) (0 : Int), Leaf.mk LT.str [], Leaf.mk (LT.int IntKind.i64) (0 : Int), Leaf.mk (LT.int IntKind.i64) (0 : Int), Leaf.mk LT.str [], Leaf.mk LT.str [], Leaf.mk LT.str [], Leaf.mk (LT.int IntKind.i64) (0 : Int), Leaf.mk (LT.int IntKind.i64) (0 : Int),
                  Leaf.mk LT.str [], Leaf.mk (LT.int IntKind.i64) (0 : Int), Leaf.mk (LT.int IntKind.i64) (0 : Int)],
              tI (2 : Int)],
            [RV.any]))
        (Tree.leaf
          ([TV.agg
                [Leaf.mk (LT.int IntKind.i64) (↑(numOf (0 : Nat) (Prod.fst (rTake (b, false) (1 : Nat)))) : Int), Leaf.mk LT.str (Cell.sheet (Prod.fst (rdCell (Prod.snd (rTake (b, false) (1 : Nat)))))),
                  Leaf.mk (LT.int IntKind.i64) (Cell.col (Prod.fst (rdCell (Prod.snd (rTake (b, false) (1 : Nat)))))), Leaf.mk (LT.int IntKind.i64) (Cell.row (Prod.fst (rdCell (Prod.snd (rTake (b, false) (1 : Nat)))))), Leaf.mk LT.str [], Leaf.mk LT.str [], Leaf.mk LT.str [],
                  Leaf.mk (LT.int IntKind.i64) (0 : Int), Leaf.mk (LT.int IntKind.i64) (0 : Int), Leaf.mk LT.str [], Leaf.mk (LT.int IntKind.i64) (0 : Int), Leaf.mk (LT.int IntKind.i64) (0 : Int)],
              tI (0 : Int)],
            [RV.any])))
      (Tree.ite ((↑(numOf (0 : Nat) (Prod.fst (rTake (b, false) (1 : Nat)))) : Int) == (3 : Int))
        (Tree.ite ((↑(numOf (0 : Nat) (Prod.fst (rTake (b, false) (1 : Nat)))) : Int) == (3 : Int))
          (Tree.ite (!rEnded (Prod.snd (rShort (Prod.snd (rTake (b, false) (1 : Nat))))))
            (Tree.leaf
              ([TV.agg
                    [Leaf.mk (LT.int IntKind.i64) (0 : Int), Leaf.mk LT.str [], Leaf.mk (LT.int IntKind.i64) (0 : Int), Leaf.mk (LT.int IntKind.i64) (0 : Int), Leaf.mk LT.str [], Leaf.mk LT.str [], Leaf.mk LT.str [], Leaf.mk (LT.int IntKind.i64) (0 : Int), Leaf.mk (LT.int IntKind.i64) (0 : Int),
                      Leaf.mk LT.str [], Leaf.mk (LT.int IntKind.i64) (0 : Int), Leaf.mk (LT.int IntKind.i64) (0 : Int)],
                  tI (2 : Int)],
                [RV.any]))
            (Tree.leaf
              ([TV.agg
                    [Leaf.mk (LT.int IntKind.i64) (↑(numOf (0 : Nat) (Prod.fst (rTake (b, false) (1 : Nat)))) : Int), Leaf.mk LT.str [], Leaf.mk (LT.int IntKind.i64) (0 : Int), Leaf.mk (LT.int IntKind.i64) (0 : Int), Leaf.mk LT.str (Prod.fst (rShort (Prod.snd (rTake (b, false) (1 : Nat))))),
                      Leaf.mk LT.str [], Leaf.mk LT.str [], Leaf.mk (LT.int IntKind.i64) (0 : Int), Leaf.mk (LT.int IntKind.i64) (0 : Int), Leaf.mk LT.str [], Leaf.mk (LT.int IntKind.i64) (0 : Int), Leaf.mk (LT.int IntKind.i64) (0 : Int)],
                  tI (0 : Int)],
                [RV.any])))
          (Tree.ite ((↑(numOf (0 : Nat) (Prod.fst (rTake (b, false) (1 : Nat)))) : Int) == (5 : Int))
            (Tree.ite (!rEnded (Prod.snd (rShort (Prod.snd (rShort (Prod.snd (rTake (b, false) (1 : Nat))))))))
              (Tree.leaf
                ([TV.agg
                      [Leaf.mk (LT.int IntKind.i64) (0 : Int), Leaf.mk LT.str [], Leaf.mk (LT.int IntKind.i64) (0 : Int), Leaf.mk (LT.int IntKind.i64) (0 : Int), Leaf.mk LT.str [], Leaf.mk LT.str [], Leaf.mk LT.str [], Leaf.mk (LT.int IntKind.i64) (0 : Int), Leaf.mk (LT.int IntKind.i64) (0 : Int),
                        Leaf.mk LT.str [], Leaf.mk (LT.int IntKind.i64) (0 : Int), Leaf.mk (LT.int IntKind.i64) (0 : Int)],
                    tI (2 : Int)],
                  [RV.any]))
              (Tree.leaf
                ([TV.agg
                      [Leaf.mk (LT.int IntKind.i64) (↑(numOf (0 : Nat) (Prod.fst (rTake (b, false) (1 : Nat)))) : Int), Leaf.mk LT.str [], Leaf.mk (LT.int IntKind.i64) (0 : Int), Leaf.mk (LT.int IntKind.i64) (0 : Int), Leaf.mk LT.str (Prod.fst (rShort (Prod.snd (rTake (b, false) (1 : Nat))))),
                        Leaf.mk LT.str (Prod.fst (rShort (Prod.snd (rShort (Prod.snd (rTake (b, false) (1 : Nat))))))), Leaf.mk LT.str [], Leaf.mk (LT.int IntKind.i64) (0 : Int), Leaf.mk (LT.int IntKind.i64) (0 : Int), Leaf.mk LT.str [], Leaf.mk (LT.int IntKind.i64) (0 : Int),
                        Leaf.mk (LT.int IntKind.i64) (0 : Int)],
                    tI (0 : Int)],
                  [RV.any])))
            (Tree.ite ((↑(numOf (0 : Nat) (Prod.fst (rTake (b, false) (1 : Nat)))) : Int) == (8 : Int))
              (Tree.ite (!rEnded (Prod.snd (rdCell (Prod.snd (rdCell (Prod.snd (rTake (b, false) (1 : Nat))))))))
                (Tree.leaf
                  ([TV.agg
                        [Leaf.mk (LT.int IntKind.i64) (0 : Int), Leaf.mk LT.str [], Leaf.mk (LT.int IntKind.i64) (0 : Int), Leaf.mk (LT.int IntKind.i64) (0 : Int), Leaf.mk LT.str [], Leaf.mk LT.str [], Leaf.mk LT.str [], Leaf.mk (LT.int IntKind.i64) (0 : Int), Leaf.mk (LT.int IntKind.i64) (0 : Int),
                          Leaf.mk LT.str [], Leaf.mk (LT.int IntKind.i64) (0 : Int), Leaf.mk (LT.int IntKind.i64) (0 : Int)],
                      tI (2 : Int)],
                    [RV.any]))
                (Tree.leaf
                  ([TV.agg
                        [Leaf.mk (LT.int IntKind.i64) (↑(numOf (0 : Nat) (Prod.fst (rTake (b, false) (1 : Nat)))) : Int), Leaf.mk LT.str [], Leaf.mk (LT.int IntKind.i64) (0 : Int), Leaf.mk (LT.int IntKind.i64) (0 : Int), Leaf.mk LT.str [], Leaf.mk LT.str [],
                          Leaf.mk LT.str (Cell.sheet (Prod.fst (rdCell (Prod.snd (rTake (b, false) (1 : Nat)))))), Leaf.mk (LT.int IntKind.i64) (Cell.col (Prod.fst (rdCell (Prod.snd (rTake (b, false) (1 : Nat)))))),
                          Leaf.mk (LT.int IntKind.i64) (Cell.row (Prod.fst (rdCell (Prod.snd (rTake (b, false) (1 : Nat)))))), Leaf.mk LT.str (Cell.sheet (Prod.fst (rdCell (Prod.snd (rdCell (Prod.snd (rTake (b, false) (1 : Nat)))))))),
                          Leaf.mk (LT.int IntKind.i64) (Cell.col (Prod.fst (rdCell (Prod.snd (rdCell (Prod.snd (rTake (b, false) (1 : Nat)))))))), Leaf.mk (LT.int IntKind.i64) (Cell.row (Prod.fst (rdCell (Prod.snd (rdCell (Prod.snd (rTake (b, false) (1 : Nat))))))))],
                      tI (0 : Int)],
                    [RV.any])))
              (Tree.ite ((↑(numOf (0 : Nat) (Prod.fst (rTake (b, false) (1 : Nat)))) : Int) == (6 : Int))
                (Tree.ite ((↑(numOf (0 : Nat) (Prod.fst (rTake (b, false) (1 : Nat)))) : Int) == (6 : Int))
                  (Tree.ite (!rEnded (Prod.snd (rTake (b, false) (1 : Nat))))
                    (Tree.leaf
                      ([TV.agg
                            [Leaf.mk (LT.int IntKind.i64) (0 : Int), Leaf.mk LT.str [], Leaf.mk (LT.int IntKind.i64) (0 : Int), Leaf.mk (LT.int IntKind.i64) (0 : Int), Leaf.mk LT.str [], Leaf.mk LT.str [], Leaf.mk LT.str [], Leaf.mk (LT.int IntKind.i64) (0 : Int),
                              Leaf.mk (LT.int IntKind.i64) (0 : Int), Leaf.mk LT.str [], Leaf.mk (LT.int IntKind.i64) (0 : Int), Leaf.mk (LT.int IntKind.i64) (0 : Int)],
                          tI (2 : Int)],
                        [RV.any]))
                    (Tree.leaf
                      ([TV.agg
                            [Leaf.mk (LT.int IntKind.i64) (↑(numOf (0 : Nat) (Prod.fst (rTake (b, false) (1 : Nat)))) : Int), Leaf.mk LT.str [], Leaf.mk (LT.int IntKind.i64) (0 : Int), Leaf.mk (LT.int IntKind.i64) (0 : Int), Leaf.mk LT.str [], Leaf.mk LT.str [], Leaf.mk LT.str [],
                              Leaf.mk (LT.int IntKind.i64) (0 : Int), Leaf.mk (LT.int IntKind.i64) (0 : Int), Leaf.mk LT.str [], Leaf.mk (LT.int IntKind.i64) (0 : Int), Leaf.mk (LT.int IntKind.i64) (0 : Int)],
                          tI (0 : Int)],
                        [RV.any])))
                  (Tree.ite (!rEnded (Prod.fst (Prod.snd (rTake (b, false) (1 : Nat))), true))
                    (Tree.leaf
                      ([TV.agg
                            [Leaf.mk (LT.int IntKind.i64) (0 : Int), Leaf.mk LT.str [], Leaf.mk (LT.int IntKind.i64) (0 : Int), Leaf.mk (LT.int IntKind.i64) (0 : Int), Leaf.mk LT.str [], Leaf.mk LT.str [], Leaf.mk LT.str [], Leaf.mk (LT.int IntKind.i64) (0 : Int),
                              Leaf.mk (LT.int IntKind.i64) (0 : Int), Leaf.mk LT.str [], Leaf.mk (LT.int IntKind.i64) (0 : Int), Leaf.mk (LT.int IntKind.i64) (0 : Int)],
                          tI (2 : Int)],
                        [RV.any]))
                    (Tree.leaf
                      ([TV.agg
                            [Leaf.mk (LT.int IntKind.i64) (↑(numOf (0 : Nat) (Prod.fst (rTake (b, false) (1 : Nat)))) : Int), Leaf.mk LT.str [], Leaf.mk (LT.int IntKind.i64) (0 : Int), Leaf.mk (LT.int IntKind.i64) (0 : Int), Leaf.mk LT.str [], Leaf.mk LT.str [], Leaf.mk LT.str [],
                              Leaf.mk (LT.int IntKind.i64) (0 : Int), Leaf.mk (LT.int IntKind.i64) (0 : Int), Leaf.mk LT.str [], Leaf.mk (LT.int IntKind.i64) (0 : Int), Leaf.mk (LT.int IntKind.i64) (0 : Int)],
                          tI (0 : Int)],
                        [RV.any]))))
                (Tree.ite ((↑(numOf (0 : Nat) (Prod.fst (rTake (b, false) (1 : Nat)))) : Int) == (7 : Int))
                  (Tree.ite ((↑(numOf (0 : Nat) (Prod.fst (rTake (b, false) (1 : Nat)))) : Int) == (7 : Int))
                    (Tree.ite (!rEnded (Prod.snd (rTake (b, false) (1 : Nat))))
                      (Tree.leaf
                        ([TV.agg
                              [Leaf.mk (LT.int IntKind.i64) (0 : Int), Leaf.mk LT.str [], Leaf.mk (LT.int IntKind.i64) (0 : Int), Leaf.mk (LT.int IntKind.i64) (0 : Int), Leaf.mk LT.str [], Leaf.mk LT.str [], Leaf.mk LT.str [], Leaf.mk (LT.int IntKind.i64) (0 : Int),
                                Leaf.mk (LT.int IntKind.i64) (0 : Int), Leaf.mk LT.str [], Leaf.mk (LT.int IntKind.i64) (0 : Int), Leaf.mk (LT.int IntKind.i64) (0 : Int)],
                            tI (2 : Int)],
                          [RV.any]))
                      (Tree.leaf
                        ([TV.agg
                              [Leaf.mk (LT.int IntKind.i64) (↑(numOf (0 : Nat) (Prod.fst (rTake (b, false) (1 : Nat)))) : Int), Leaf.mk LT.str [], Leaf.mk (LT.int IntKind.i64) (0 : Int), Leaf.mk (LT.int IntKind.i64) (0 : Int), Leaf.mk LT.str [], Leaf.mk LT.str [], Leaf.mk LT.str [],
                                Leaf.mk (LT.int IntKind.i64) (0 : Int), Leaf.mk (LT.int IntKind.i64) (0 : Int), Leaf.mk LT.str [], Leaf.mk (LT.int IntKind.i64) (0 : Int), Leaf.mk (LT.int IntKind.i64) (0 : Int)],
                            tI (0 : Int)],
                          [RV.any])))
                    (Tree.ite (!rEnded (Prod.fst (Prod.snd (rTake (b, false) (1 : Nat))), true))
                      (Tree.leaf
                        ([TV.agg
                              [Leaf.mk (LT.int IntKind.i64) (0 : Int), Leaf.mk LT.str [], Leaf.mk (LT.int IntKind.i64) (0 : Int), Leaf.mk (LT.int IntKind.i64) (0 : Int), Leaf.mk LT.str [], Leaf.mk LT.str [], Leaf.mk LT.str [], Leaf.mk (LT.int IntKind.i64) (0 : Int),
                                Leaf.mk (LT.int IntKind.i64) (0 : Int), Leaf.mk LT.str [], Leaf.mk (LT.int IntKind.i64) (0 : Int), Leaf.mk (LT.int IntKind.i64) (0 : Int)],
                            tI (2 : Int)],
                          [RV.any]))
                      (Tree.leaf
                        ([TV.agg
                              [Leaf.mk (LT.int IntKind.i64) (↑(numOf (0 : Nat) (Prod.fst (rTake (b, false) (1 : Nat)))) : Int), Leaf.mk LT.str [], Leaf.mk (LT.int IntKind.i64) (0 : Int), Leaf.mk (LT.int IntKind.i64) (0 : Int), Leaf.mk LT.str [], Leaf.mk LT.str [], Leaf.mk LT.str [],
                                Leaf.mk (LT.int IntKind.i64) (0 : Int), Leaf.mk (LT.int IntKind.i64) (0 : Int), Leaf.mk LT.str [], Leaf.mk (LT.int IntKind.i64) (0 : Int), Leaf.mk (LT.int IntKind.i64) (0 : Int)],
                            tI (0 : Int)],
                          [RV.any]))))
                  (Tree.ite ((↑(numOf (0 : Nat) (Prod.fst (rTake (b, false) (1 : Nat)))) : Int) == (9 : Int))
                    (Tree.ite (!rEnded (Prod.snd (rTake (b, false) (1 : Nat))))
                      (Tree.leaf
                        ([TV.agg
                              [Leaf.mk (LT.int IntKind.i64) (0 : Int), Leaf.mk LT.str [], Leaf.mk (LT.int IntKind.i64) (0 : Int), Leaf.mk (LT.int IntKind.i64) (0 : Int), Leaf.mk LT.str [], Leaf.mk LT.str [], Leaf.mk LT.str [], Leaf.mk (LT.int IntKind.i64) (0 : Int),
                                Leaf.mk (LT.int IntKind.i64) (0 : Int), Leaf.mk LT.str [], Leaf.mk (LT.int IntKind.i64) (0 : Int), Leaf.mk (LT.int IntKind.i64) (0 : Int)],
                            tI (2 : Int)],
                          [RV.any]))
                      (Tree.leaf
                        ([TV.agg
                              [Leaf.mk (LT.int IntKind.i64) (↑(numOf (0 : Nat) (Prod.fst (rTake (b, false) (1 : Nat)))) : Int), Leaf.mk LT.str [], Leaf.mk (LT.int IntKind.i64) (0 : Int), Leaf.mk (LT.int IntKind.i64) (0 : Int), Leaf.mk LT.str [], Leaf.mk LT.str [], Leaf.mk LT.str [],
                                Leaf.mk (LT.int IntKind.i64) (0 : Int), Leaf.mk (LT.int IntKind.i64) (0 : Int), Leaf.mk LT.str [], Leaf.mk (LT.int IntKind.i64) (0 : Int), Leaf.mk (LT.int IntKind.i64) (0 : Int)],
                            tI (0 : Int)],
                          [RV.any])))
                    (Tree.ite (!rEnded (Prod.fst (Prod.snd (rTake (b, false) (1 : Nat))), true))
                      (Tree.leaf
                        ([TV.agg
                              [Leaf.mk (LT.int IntKind.i64) (0 : Int), Leaf.mk LT.str [], Leaf.mk (LT.int IntKind.i64) (0 : Int), Leaf.mk (LT.int IntKind.i64) (0 : Int), Leaf.mk LT.str [], Leaf.mk LT.str [], Leaf.mk LT.str [], Leaf.mk (LT.int IntKind.i64) (0 : Int),
                                Leaf.mk (LT.int IntKind.i64) (0 : Int), Leaf.mk LT.str [], Leaf.mk (LT.int IntKind.i64) (0 : Int), Leaf.mk (LT.int IntKind.i64) (0 : Int)],
                            tI (2 : Int)],
                          [RV.any]))
                      (Tree.leaf
                        ([TV.agg
                              [Leaf.mk (LT.int IntKind.i64) (↑(numOf (0 : Nat) (Prod.fst (rTake (b, false) (1 : Nat)))) : Int), Leaf.mk LT.str [], Leaf.mk (LT.int IntKind.i64) (0 : Int), Leaf.mk (LT.int IntKind.i64) (0 : Int), Leaf.mk LT.str [], Leaf.mk LT.str [], Leaf.mk LT.str [],
                                Leaf.mk (LT.int IntKind.i64) (0 : Int), Leaf.mk (LT.int IntKind.i64) (0 : Int), Leaf.mk LT.str [], Leaf.mk (LT.int IntKind.i64) (0 : Int), Leaf.mk (LT.int IntKind.i64) (0 : Int)],
                            tI (0 : Int)],
                          [RV.any])))))))))
        (Tree.ite ((↑(numOf (0 : Nat) (Prod.fst (rTake (b, false) (1 : Nat)))) : Int) == (4 : Int))
          (Tree.ite (!rEnded (Prod.snd (rShort (Prod.snd (rTake (b, false) (1 : Nat))))))
            (Tree.leaf
              ([TV.agg
                    [Leaf.mk (LT.int IntKind.i64) (0 : Int), Leaf.mk LT.str [], Leaf.mk (LT.int IntKind.i64) (0 : Int), Leaf.mk (LT.int IntKind.i64) (0 : Int), Leaf.mk LT.str [], Leaf.mk LT.str [], Leaf.mk LT.str [], Leaf.mk (LT.int IntKind.i64) (0 : Int), Leaf.mk (LT.int IntKind.i64) (0 : Int),
                      Leaf.mk LT.str [], Leaf.mk (LT.int IntKind.i64) (0 : Int), Leaf.mk (LT.int IntKind.i64) (0 : Int)],
                  tI (2 : Int)],
                [RV.any]))
            (Tree.leaf
              ([TV.agg
                    [Leaf.mk (LT.int IntKind.i64) (↑(numOf (0 : Nat) (Prod.fst (rTake (b, false) (1 : Nat)))) : Int), Leaf.mk LT.str [], Leaf.mk (LT.int IntKind.i64) (0 : Int), Leaf.mk (LT.int IntKind.i64) (0 : Int), Leaf.mk LT.str (Prod.fst (rShort (Prod.snd (rTake (b, false) (1 : Nat))))),
                      Leaf.mk LT.str [], Leaf.mk LT.str [], Leaf.mk (LT.int IntKind.i64) (0 : Int), Leaf.mk (LT.int IntKind.i64) (0 : Int), Leaf.mk LT.str [], Leaf.mk (LT.int IntKind.i64) (0 : Int), Leaf.mk (LT.int IntKind.i64) (0 : Int)],
                  tI (0 : Int)],
                [RV.any])))
          (Tree.ite ((↑(numOf (0 : Nat) (Prod.fst (rTake (b, false) (1 : Nat)))) : Int) == (5 : Int))
            (Tree.ite (!rEnded (Prod.snd (rShort (Prod.snd (rShort (Prod.snd (rTake (b, false) (1 : Nat))))))))
              (Tree.leaf
                ([TV.agg
                      [Leaf.mk (LT.int IntKind.i64) (0 : Int), Leaf.mk LT.str [], Leaf.mk (LT.int IntKind.i64) (0 : Int), Leaf.mk (LT.int IntKind.i64) (0 : Int), Leaf.mk LT.str [], Leaf.mk LT.str [], Leaf.mk LT.str [], Leaf.mk (LT.int IntKind.i64) (0 : Int), Leaf.mk (LT.int IntKind.i64) (0 : Int),
                        Leaf.mk LT.str [], Leaf.mk (LT.int IntKind.i64) (0 : Int), Leaf.mk (LT.int IntKind.i64) (0 : Int)],
                    tI (2 : Int)],
                  [RV.any]))
              (Tree.leaf
                ([TV.agg
                      [Leaf.mk (LT.int IntKind.i64) (↑(numOf (0 : Nat) (Prod.fst (rTake (b, false) (1 : Nat)))) : Int), Leaf.mk LT.str [], Leaf.mk (LT.int IntKind.i64) (0 : Int), Leaf.mk (LT.int IntKind.i64) (0 : Int), Leaf.mk LT.str (Prod.fst (rShort (Prod.snd (rTake (b, false) (1 : Nat))))),
                        Leaf.mk LT.str (Prod.fst (rShort (Prod.snd (rShort (Prod.snd (rTake (b, false) (1 : Nat))))))), Leaf.mk LT.str [], Leaf.mk (LT.int IntKind.i64) (0 : Int), Leaf.mk (LT.int IntKind.i64) (0 : Int), Leaf.mk LT.str [], Leaf.mk (LT.int IntKind.i64) (0 : Int),
                        Leaf.mk (LT.int IntKind.i64) (0 : Int)],
                    tI (0 : Int)],
                  [RV.any])))
            (Tree.ite ((↑(numOf (0 : Nat) (Prod.fst (rTake (b, false) (1 : Nat)))) : Int) == (8 : Int))
              (Tree.ite (!rEnded (Prod.snd (rdCell (Prod.snd (rdCell (Prod.snd (rTake (b, false) (1 : Nat))))))))
                (Tree.leaf
                  ([TV.agg
                        [Leaf.mk (LT.int IntKind.i64) (0 : Int), Leaf.mk LT.str [], Leaf.mk (LT.int IntKind.i64) (0 : Int), Leaf.mk (LT.int IntKind.i64) (0 : Int), Leaf.mk LT.str [], Leaf.mk LT.str [], Leaf.mk LT.str [], Leaf.mk (LT.int IntKind.i64) (0 : Int), Leaf.mk (LT.int IntKind.i64) (0 : Int),
                          Leaf.mk LT.str [], Leaf.mk (LT.int IntKind.i64) (0 : Int), Leaf.mk (LT.int IntKind.i64) (0 : Int)],
                      tI (2 : Int)],
                    [RV.any]))
                (Tree.leaf
                  ([TV.agg
                        [Leaf.mk (LT.int IntKind.i64) (↑(numOf (0 : Nat) (Prod.fst (rTake (b, false) (1 : Nat)))) : Int), Leaf.mk LT.str [], Leaf.mk (LT.int IntKind.i64) (0 : Int), Leaf.mk (LT.int IntKind.i64) (0 : Int), Leaf.mk LT.str [], Leaf.mk LT.str [],
                          Leaf.mk LT.str (Cell.sheet (Prod.fst (rdCell (Prod.snd (rTake (b, false) (1 : Nat)))))), Leaf.mk (LT.int IntKind.i64) (Cell.col (Prod.fst (rdCell (Prod.snd (rTake (b, false) (1 : Nat)))))),
                          Leaf.mk (LT.int IntKind.i64) (Cell.row (Prod.fst (rdCell (Prod.snd (rTake (b, false) (1 : Nat)))))), Leaf.mk LT.str (Cell.sheet (Prod.fst (rdCell (Prod.snd (rdCell (Prod.snd (rTake (b, false) (1 : Nat)))))))),
                          Leaf.mk (LT.int IntKind.i64) (Cell.col (Prod.fst (rdCell (Prod.snd (rdCell (Prod.snd (rTake (b, false) (1 : Nat)))))))), Leaf.mk (LT.int IntKind.i64) (Cell.row (Prod.fst (rdCell (Prod.snd (rdCell (Prod.snd (rTake (b, false) (1 : Nat))))))))],
                      tI (0 : Int)],
                    [RV.any])))
              (Tree.ite ((↑(numOf (0 : Nat) (Prod.fst (rTake (b, false) (1 : Nat)))) : Int) == (6 : Int))
                (Tree.ite ((↑(numOf (0 : Nat) (Prod.fst (rTake (b, false) (1 : Nat)))) : Int) == (6 : Int))
                  (Tree.ite (!rEnded (Prod.snd (rTake (b, false) (1 : Nat))))
                    (Tree.leaf
                      ([TV.agg
                            [Leaf.mk (LT.int IntKind.i64) (0 : Int), Leaf.mk LT.str [], Leaf.mk (LT.int IntKind.i64) (0 : Int), Leaf.mk (LT.int IntKind.i64) (0 : Int), Leaf.mk LT.str [], Leaf.mk LT.str [], Leaf.mk LT.str [], Leaf.mk (LT.int IntKind.i64) (0 : Int),
                              Leaf.mk (LT.int IntKind.i64) (0 : Int), Leaf.mk LT.str [], Leaf.mk (LT.int IntKind.i64) (0 : Int), Leaf.mk (LT.int IntKind.i64) (0 : Int)],
                          tI (2 : Int)],
                        [RV.any]))
                    (Tree.leaf
                      ([TV.agg
                            [Leaf.mk (LT.int IntKind.i64) (↑(numOf (0 : Nat) (Prod.fst (rTake (b, false) (1 : Nat)))) : Int), Leaf.mk LT.str [], Leaf.mk (LT.int IntKind.i64) (0 : Int), Leaf.mk (LT.int IntKind.i64) (0 : Int), Leaf.mk LT.str [], Leaf.mk LT.str [], Leaf.mk LT.str [],
                              Leaf.mk (LT.int IntKind.i64) (0 : Int), Leaf.mk (LT.int IntKind.i64) (0 : Int), Leaf.mk LT.str [], Leaf.mk (LT.int IntKind.i64) (0 : Int), Leaf.mk (LT.int IntKind.i64) (0 : Int)],
                          tI (0 : Int)],
                        [RV.any])))
                  (Tree.ite (!rEnded (Prod.fst (Prod.snd (rTake (b, false) (1 : Nat))), true))
                    (Tree.leaf
                      ([TV.agg
                            [Leaf.mk (LT.int IntKind.i64) (0 : Int), Leaf.mk LT.str [], Leaf.mk (LT.int IntKind.i64) (0 : Int), Leaf.mk (LT.int IntKind.i64) (0 : Int), Leaf.mk LT.str [], Leaf.mk LT.str [], Leaf.mk LT.str [], Leaf.mk (LT.int IntKind.i64) (0 : Int),
                              Leaf.mk (LT.int IntKind.i64) (0 : Int), Leaf.mk LT.str [], Leaf.mk (LT.int IntKind.i64) (0 : Int), Leaf.mk (LT.int IntKind.i64) (0 : Int)],
                          tI (2 : Int)],
                        [RV.any]))
                    (Tree.leaf
                      ([TV.agg
                            [Leaf.mk (LT.int IntKind.i64) (↑(numOf (0 : Nat) (Prod.fst (rTake (b, false) (1 : Nat)))) : Int), Leaf.mk LT.str [], Leaf.mk (LT.int IntKind.i64) (0 : Int), Leaf.mk (LT.int IntKind.i64) (0 : Int), Leaf.mk LT.str [], Leaf.mk LT.str [], Leaf.mk LT.str [],
                              Leaf.mk (LT.int IntKind.i64) (0 : Int), Leaf.mk (LT.int IntKind.i64) (0 : Int), Leaf.mk LT.str [], Leaf.mk (LT.int IntKind.i64) (0 : Int), Leaf.mk (LT.int IntKind.i64) (0 : Int)],
                          tI (0 : Int)],
                        [RV.any]))))
                (Tree.ite ((↑(numOf (0 : Nat) (Prod.fst (rTake (b, false) (1 : Nat)))) : Int) == (7 : Int))
                  (Tree.ite ((↑(numOf (0 : Nat) (Prod.fst (rTake (b, false) (1 : Nat)))) : Int) == (7 : Int))
                    (Tree.ite (!rEnded (Prod.snd (rTake (b, false) (1 : Nat))))
                      (Tree.leaf
                        ([TV.agg
                              [Leaf.mk (LT.int IntKind.i64) (0 : Int), Leaf.mk LT.str [], Leaf.mk (LT.int IntKind.i64) (0 : Int), Leaf.mk (LT.int IntKind.i64) (0 : Int), Leaf.mk LT.str [], Leaf.mk LT.str [], Leaf.mk LT.str [], Leaf.mk (LT.int IntKind.i64) (0 : Int),
                                Leaf.mk (LT.int IntKind.i64) (0 : Int), Leaf.mk LT.str [], Leaf.mk (LT.int IntKind.i64) (0 : Int), Leaf.mk (LT.int IntKind.i64) (0 : Int)],
                            tI (2 : Int)],
                          [RV.any]))
                      (Tree.leaf
                        ([TV.agg
                              [Leaf.mk (LT.int IntKind.i64) (↑(numOf (0 : Nat) (Prod.fst (rTake (b, false) (1 : Nat)))) : Int), Leaf.mk LT.str [], Leaf.mk (LT.int IntKind.i64) (0 : Int), Leaf.mk (LT.int IntKind.i64) (0 : Int), Leaf.mk LT.str [], Leaf.mk LT.str [], Leaf.mk LT.str [],
                                Leaf.mk (LT.int IntKind.i64) (0 : Int), Leaf.mk (LT.int IntKind.i64) (0 : Int), Leaf.mk LT.str [], Leaf.mk (LT.int IntKind.i64) (0 : Int), Leaf.mk (LT.int IntKind.i64) (0 : Int)],
                            tI (0 : Int)],
                          [RV.any])))
                    (Tree.ite (!rEnded (Prod.fst (Prod.snd (rTake (b, false) (1 : Nat))), true))
                      (Tree.leaf
                        ([TV.agg
                              [Leaf.mk (LT.int IntKind.i64) (0 : Int), Leaf.mk LT.str [], Leaf.mk (LT.int IntKind.i64) (0 : Int), Leaf.mk (LT.int IntKind.i64) (0 : Int), Leaf.mk LT.str [], Leaf.mk LT.str [], Leaf.mk LT.str [], Leaf.mk (LT.int IntKind.i64) (0 : Int),
                                Leaf.mk (LT.int IntKind.i64) (0 : Int), Leaf.mk LT.str [], Leaf.mk (LT.int IntKind.i64) (0 : Int), Leaf.mk (LT.int IntKind.i64) (0 : Int)],
                            tI (2 : Int)],
                          [RV.any]))
                      (Tree.leaf
                        ([TV.agg
                              [Leaf.mk (LT.int IntKind.i64) (↑(numOf (0 : Nat) (Prod.fst (rTake (b, false) (1 : Nat)))) : Int), Leaf.mk LT.str [], Leaf.mk (LT.int IntKind.i64) (0 : Int), Leaf.mk (LT.int IntKind.i64) (0 : Int), Leaf.mk LT.str [], Leaf.mk LT.str [], Leaf.mk LT.str [],
                                Leaf.mk (LT.int IntKind.i64) (0 : Int), Leaf.mk (LT.int IntKind.i64) (0 : Int), Leaf.mk LT.str [], Leaf.mk (LT.int IntKind.i64) (0 : Int), Leaf.mk (LT.int IntKind.i64) (0 : Int)],
                            tI (0 : Int)],
                          [RV.any]))))
                  (Tree.ite ((↑(numOf (0 : Nat) (Prod.fst (rTake (b, false) (1 : Nat)))) : Int) == (9 : Int))
                    (Tree.ite (!rEnded (Prod.snd (rTake (b, false) (1 : Nat))))
                      (Tree.leaf
                        ([TV.agg
                              [Leaf.mk (LT.int IntKind.i64) (0 : Int), Leaf.mk LT.str [], Leaf.mk (LT.int IntKind.i64) (0 : Int), Leaf.mk (LT.int IntKind.i64) (0 : Int), Leaf.mk LT.str [], Leaf.mk LT.str [], Leaf.mk LT.str [], Leaf.mk (LT.int IntKind.i64) (0 : Int),
                                Leaf.mk (LT.int IntKind.i64) (0 : Int), Leaf.mk LT.str [], Leaf.mk (LT.int IntKind.i64) (0 : Int), Leaf.mk (LT.int IntKind.i64) (0 : Int)],
                            tI (2 : Int)],
                          [RV.any]))
                      (Tree.leaf
                        ([TV.agg
                              [Leaf.mk (LT.int IntKind.i64) (↑(numOf (0 : Nat) (Prod.fst (rTake (b, false) (1 : Nat)))) : Int), Leaf.mk LT.str [], Leaf.mk (LT.int IntKind.i64) (0 : Int), Leaf.mk (LT.int IntKind.i64) (0 : Int), Leaf.mk LT.str [], Leaf.mk LT.str [], Leaf.mk LT.str [],
                                Leaf.mk (LT.int IntKind.i64) (0 : Int), Leaf.mk (LT.int IntKind.i64) (0 : Int), Leaf.mk LT.str [], Leaf.mk (LT.int IntKind.i64) (0 : Int), Leaf.mk (LT.int IntKind.i64) (0 : Int)],
                            tI (0 : Int)],
                          [RV.any])))
                    (Tree.ite (!rEnded (Prod.fst (Prod.snd (rTake (b, false) (1 : Nat))), true))
                      (Tree.leaf
                        ([TV.agg
                              [Leaf.mk (LT.int IntKind.i64) (0 : Int), Leaf.mk LT.str [], Leaf.mk (LT.int IntKind.i64) (0 : Int), Leaf.mk (LT.int IntKind.i64) (0 : Int), Leaf.mk LT.str [], Leaf.mk LT.str [], Leaf.mk LT.str [], Leaf.mk (LT.int IntKind.i64) (0 : Int),
                                Leaf.mk (LT.int IntKind.i64) (0 : Int), Leaf.mk LT.str [], Leaf.mk (LT.int IntKind.i64) (0 : Int), Leaf.mk (LT.int IntKind.i64) (0 : Int)],
                            tI (2 : Int)],
                          [RV.any]))
                      (Tree.leaf
                        ([TV.agg
                              [Leaf.mk (LT.int IntKind.i64) (↑(numOf (0 : Nat) (Prod.fst (rTake (b, false) (1 : Nat)))) : Int), Leaf.mk LT.str [], Leaf.mk (LT.int IntKind.i64) (0 : Int), Leaf.mk (LT.int IntKind.i64) (0 : Int), Leaf.mk LT.str [], Leaf.mk LT.str [], Leaf.mk LT.str [],
                                Leaf.mk (LT.int IntKind.i64) (0 : Int), Leaf.mk (LT.int IntKind.i64) (0 : Int), Leaf.mk LT.str [], Leaf.mk (LT.int IntKind.i64) (0 : Int), Leaf.mk (LT.int IntKind.i64) (0 : Int)],
                            tI (0 : Int)],
                          [RV.any])))))))))))) := by kernel_rfl
def F : List TV' → Tree (List TV') := aBytes fun b => a0 (.leaf [tEdit (rdTail (rdEdit b)).1, tI (rdTail (rdEdit b)).2])
abbrev S : Spec En := pureSpec 1 F
theorem efin (e : Edit) (r : BF) (b : Bool) (h : b = rEnded r) : (Tree.ite (!b) (.leaf ([tEdit ⟨0, ⟨[], 0, 0⟩, [], [], zRange⟩, tI 2], [RV.any])) (.leaf ([tEdit e, tI 0], [RV.any])) : Tree (List TV' × List RV')).reach ([tEdit (rdTail (e, r)).1, tI (rdTail (e, r)).2], [RV.any]) := by
  subst h
  unfold rdTail
  cases rEnded r
  · exact Tree.reach_tt rfl
  · exact Tree.reach_ff rfl
theorem ok : SpecOk pr i_frame_ReadEdit S := by
  refine pureOk (ctx := c) (cx_ok (.cons frame_reader_cell.ok (.cons frame_reader_number.ok (.cons frame_reader_short.ok (.cons frame_reader_ended.ok .nil)))) nil_ok) mixed h_frame_ReadEdit (by kernel_rfl) (no_loop (by kernel_rfl)) (by kernel_rfl) fun xs r h => ?_
  obtain ⟨b, _, rfl, g1⟩ := aBytes_r h
  obtain ⟨rfl, rfl⟩ := a0_r g1
  refine ⟨rfl, Tree.reach_of (fn_t b) (Tree.reach_req ⟨by omega, by omega⟩ ?_)⟩
  unfold rdEdit
  dsimp only
  cases h1 : (((numOf 0 (rTake (b, false) 1).1 : Nat) : Int) == 1) with
  | true => exact Tree.reach_tt (efin _ _ _ rfl)
  | false =>
  refine Tree.reach_ff ?_
  cases h2 : (((numOf 0 (rTake (b, false) 1).1 : Nat) : Int) == 2) with
  | true => exact Tree.reach_tt (efin _ _ _ rfl)
  | false =>
  refine Tree.reach_ff ?_
  cases h3 : (((numOf 0 (rTake (b, false) 1).1 : Nat) : Int) == 3) with
  | true => exact Tree.reach_tt (Tree.reach_tt (efin _ _ _ rfl))
  | false =>
  refine Tree.reach_ff ?_
  cases h4 : (((numOf 0 (rTake (b, false) 1).1 : Nat) : Int) == 4) with
  | true => exact Tree.reach_tt (efin _ _ _ rfl)
  | false =>
  refine Tree.reach_ff ?_
  cases h5 : (((numOf 0 (rTake (b, false) 1).1 : Nat) : Int) == 5) with
  | true => exact Tree.reach_tt (efin _ _ _ rfl)
  | false =>
  refine Tree.reach_ff ?_
  cases h8 : (((numOf 0 (rTake (b, false) 1).1 : Nat) : Int) == 8) with
  | true => exact Tree.reach_tt (efin _ _ _ rfl)
  | false =>
  refine Tree.reach_ff ?_
  cases h6 : (((numOf 0 (rTake (b, false) 1).1 : Nat) : Int) == 6) with
  | true => exact Tree.reach_tt (Tree.reach_tt (efin _ _ _ rfl))
  | false =>
  refine Tree.reach_ff ?_
  cases h7 : (((numOf 0 (rTake (b, false) 1).1 : Nat) : Int) == 7) with
  | true => exact Tree.reach_tt (Tree.reach_tt (efin _ _ _ rfl))
  | false =>
  refine Tree.reach_ff ?_
  cases h9 : (((numOf 0 (rTake (b, false) 1).1 : Nat) : Int) == 9) with
  | true => exact Tree.reach_tt (efin _ _ _ rfl)
  | false => exact Tree.reach_ff (efin _ _ _ rfl)
end frame_ReadEdit

namespace law24_num
abbrev c := cx f_law24_num [] [] []
theorem fn_t (e : Int) : fnRun law24_num.c f_law24_num (codeOf f_law24_num) [tI e] (anys 1) =
  Tree.leaf ([tI e], [RV.any]) := by kernel_rfl
def F : List TV' → Tree (List TV') := aI fun e => a0 (.leaf [tI e])
abbrev S : Spec En := pureSpec 1 F
theorem ok : SpecOk pr i_law24_num S := by
  refine pureOk (ctx := c) (cx_ok nil_ok nil_ok) mixed h_law24_num (by kernel_rfl) (no_loop (by kernel_rfl)) (by kernel_rfl) fun xs r h => ?_
  obtain ⟨e, _, rfl, g1⟩ := aI_r h
  obtain ⟨rfl, rfl⟩ := a0_r g1
  exact ⟨rfl, Tree.reach_of (fn_t e) rfl⟩
end law24_num
namespace law24_alive
abbrev c := cx f_law24_alive [(i_law24_num, law24_num.S), (i_frame_ReadEdit, frame_ReadEdit.S), (i_frame_Edit, frame_Edit.S)] [] []
theorem fn_t  : fnRun law24_alive.c f_law24_alive (codeOf f_law24_alive) [] (anys 0) =
  Tree.ite (Prod.snd (rdTail (rdEdit [])) == (2 : Int))
  (Tree.ite (Prod.snd (rdTail (rdEdit (wAll (wEdit (Edit.mk (3 : Int) (Cell.mk [] (0 : Int) (0 : Int)) [(115 : UInt8)] [] (Range.mk (Cell.mk [] (0 : Int) (0 : Int)) (Cell.mk [] (0 : Int) (0 : Int)))))))) == (0 : Int))
    (Tree.leaf ([tB (Edit.name (Prod.fst (rdTail (rdEdit (wAll (wEdit (Edit.mk (3 : Int) (Cell.mk [] (0 : Int) (0 : Int)) [(115 : UInt8)] [] (Range.mk (Cell.mk [] (0 : Int) (0 : Int)) (Cell.mk [] (0 : Int) (0 : Int))))))))) == [(115 : UInt8)])], [])) (Tree.leaf ([tB false], [])))
  (Tree.ite false (Tree.leaf ([tB (Edit.name (Prod.fst (rdTail (rdEdit (wAll (wEdit (Edit.mk (3 : Int) (Cell.mk [] (0 : Int) (0 : Int)) [(115 : UInt8)] [] (Range.mk (Cell.mk [] (0 : Int) (0 : Int)) (Cell.mk [] (0 : Int) (0 : Int))))))))) == [(115 : UInt8)])], [])) (Tree.leaf ([tB false], []))) := by kernel_rfl
abbrev F : List TV' → Tree (List TV') := a0 (.leaf [tB true])
abbrev S : Spec En := pureSpec 0 F
theorem e0 : (rdTail (rdEdit [])).2 = 2 := by kernel_rfl
theorem e1 : rdTail (rdEdit (wAll (wEdit ⟨3, ⟨[], 0, 0⟩, [115], [], ⟨⟨[], 0, 0⟩, ⟨[], 0, 0⟩⟩⟩))) = (⟨3, ⟨[], 0, 0⟩, [115], [], zRange⟩, 0) := by kernel_rfl
theorem ok : SpecOk pr i_law24_alive S := by
  refine pureOk (ctx := c) (cx_ok (.cons law24_num.ok (.cons frame_ReadEdit.ok (.cons frame_Edit.ok .nil))) nil_ok) mixed h_law24_alive (by kernel_rfl) (no_loop (by kernel_rfl)) (by kernel_rfl) fun xs r h => ?_
  obtain ⟨rfl, rfl⟩ := a0_r h
  refine ⟨rfl, Tree.reach_of fn_t ?_⟩
  rw [e0, e1]
  exact Tree.reach_tt (Tree.reach_tt rfl)
end law24_alive
end Go.Rf
end
end
section
set_option linter.unusedSimpArgs false
set_option linter.unusedVariables false
noncomputable section
namespace Go.Rf
open Go.Proofs
set_option maxRecDepth 100000
namespace ref21_ReplyBytes
def L0 : LoopSum En := ⟨[3, 4, 1, 1000001, 2], rBytesO fun b => rI fun i => rP 1 (rReplyN t_api_Reply fun r => rBytesO fun z => r0 (.req (0 ≤ i ∧ i ≤ r.cells.length ∧ r.cells.length ≤ 65535 ∧ room (b.length + 462 * (r.cells.length - i.toNat)))
  (.ite (dCells b (r.cells.drop i.toNat)).2 (.leaf (.normal, [vL 0 (dCells b (r.cells.drop i.toNat)).1 true, .any, .any, replyV t_api_Reply false r, .any])) (.leaf (.ret, [.any, .any, .any, replyV t_api_Reply false r, vL 0 [] true])))))⟩
abbrev c := cxl f_ref21_ReplyBytes [(i_ref21_cell, ref21_cell.S), (i_ref1_ValueBytes, ref1_ValueBytes.S)] [] [(0, L0)]
theorem body_t (b : List UInt8) (i k v e : Int) (l : List Shown) (z : List UInt8) : bodyRun ref21_ReplyBytes.c [3, 4, 1, 1000001, 2] (lb (codeOf f_ref21_ReplyBytes) 0) [vL 0 b true, vI i, .v (tP 1 0), replyV t_api_Reply false ⟨k, v, e, l⟩, vL 0 z true] =
  Tree.ite (decide (i < (↑(List.length l) : Int)))
  (Tree.req ((0 : Int) ≤ i ∧ i < (↑(List.length l) : Int))
    (Tree.req (room (List.length b + (260 : Nat)))
      (Tree.req ((0 : Int) ≤ i ∧ i < (↑(List.length l) : Int))
        (Tree.ite (!Prod.snd (dCell b (Cell.mk (Cell.sheet (Shown.cell (List.getD l (Int.toNat i) (Env.dflt En (2 : Nat))))) (Cell.col (Shown.cell (List.getD l (Int.toNat i) (Env.dflt En (2 : Nat))))) (Cell.row (Shown.cell (List.getD l (Int.toNat i) (Env.dflt En (2 : Nat))))))))
          (Tree.leaf
            (Ex.ret,
              [vL (0 : Nat) b false, vI i, RV.v (TV.leaf (Leaf.mk LT.ptr (some ((1 : Nat), (0 : Nat)))) false), RV.blk t_api_Reply [(Leaf.mk (LT.int IntKind.i64) k, false), (Leaf.mk (LT.int IntKind.i64) v, false), (Leaf.mk (LT.int IntKind.i64) e, false), (Leaf.mk (LT.sl (2 : Nat)) l, false)],
                vL (0 : Nat) [] true]))
          (Tree.ite ((↑(List.length (vBytes (Val.mk (Val.kind (Shown.val (List.getD l (Int.toNat i) (Env.dflt En (2 : Nat))))) (Val.n (Shown.val (List.getD l (Int.toNat i) (Env.dflt En (2 : Nat))))) (Val.s (Shown.val (List.getD l (Int.toNat i) (Env.dflt En (2 : Nat)))))))) : Int) == (0 : Int))
            (Tree.leaf
              (Ex.ret,
                [vL (0 : Nat) b false, vI i, RV.v (TV.leaf (Leaf.mk LT.ptr (some ((1 : Nat), (0 : Nat)))) false), RV.blk t_api_Reply [(Leaf.mk (LT.int IntKind.i64) k, false), (Leaf.mk (LT.int IntKind.i64) v, false), (Leaf.mk (LT.int IntKind.i64) e, false), (Leaf.mk (LT.sl (2 : Nat)) l, false)],
                  vL (0 : Nat) [] true]))
            (Tree.req
              ((List.length (Prod.fst (dCell b (Cell.mk (Cell.sheet (Shown.cell (List.getD l (Int.toNat i) (Env.dflt En (2 : Nat))))) (Cell.col (Shown.cell (List.getD l (Int.toNat i) (Env.dflt En (2 : Nat))))) (Cell.row (Shown.cell (List.getD l (Int.toNat i) (Env.dflt En (2 : Nat)))))))) +
                    List.length (vBytes (Val.mk (Val.kind (Shown.val (List.getD l (Int.toNat i) (Env.dflt En (2 : Nat))))) (Val.n (Shown.val (List.getD l (Int.toNat i) (Env.dflt En (2 : Nat))))) (Val.s (Shown.val (List.getD l (Int.toNat i) (Env.dflt En (2 : Nat)))))))) *
                  (1 : Nat) ≤
                (140737488355328 : Nat))
              (Tree.leaf
                (Ex.normal,
                  [vL (0 : Nat)
                      (Prod.fst (dCell b (Cell.mk (Cell.sheet (Shown.cell (List.getD l (Int.toNat i) (Env.dflt En (2 : Nat))))) (Cell.col (Shown.cell (List.getD l (Int.toNat i) (Env.dflt En (2 : Nat))))) (Cell.row (Shown.cell (List.getD l (Int.toNat i) (Env.dflt En (2 : Nat))))))) ++
                        vBytes (Val.mk (Val.kind (Shown.val (List.getD l (Int.toNat i) (Env.dflt En (2 : Nat))))) (Val.n (Shown.val (List.getD l (Int.toNat i) (Env.dflt En (2 : Nat))))) (Val.s (Shown.val (List.getD l (Int.toNat i) (Env.dflt En (2 : Nat)))))))
                      true,
                    vI (IntKind.wrap IntKind.i64 (i + (1 : Int))), RV.v (TV.leaf (Leaf.mk LT.ptr (some ((1 : Nat), (0 : Nat)))) false),
                    RV.blk t_api_Reply [(Leaf.mk (LT.int IntKind.i64) k, false), (Leaf.mk (LT.int IntKind.i64) v, false), (Leaf.mk (LT.int IntKind.i64) e, false), (Leaf.mk (LT.sl (2 : Nat)) l, false)], vL (0 : Nat) z true]))))))))
  (Tree.leaf
    (Ex.exit (0 : Nat),
      [vL (0 : Nat) b true, vI i, RV.v (TV.leaf (Leaf.mk LT.ptr (some ((1 : Nat), (0 : Nat)))) false), RV.blk t_api_Reply [(Leaf.mk (LT.int IntKind.i64) k, false), (Leaf.mk (LT.int IntKind.i64) v, false), (Leaf.mk (LT.int IntKind.i64) e, false), (Leaf.mk (LT.sl (2 : Nat)) l, false)],
        vL (0 : Nat) z true])) := by kernel_rfl
theorem cok : CtxOk pr c := cxl_ok (.cons ref21_cell.ok (.cons ref1_ValueBytes.ok .nil)) nil_ok
theorem L0_ok : LoopOk pr c 0 (lb (codeOf f_ref21_ReplyBytes) 0) L0 := by
  refine loopOk2 cok mixed (no_loop (by kernel_rfl)) (fun vs => match vs with | [_, .v (.leaf ⟨.int .i64, i⟩ _), _, .blk _ [_, _, _, (⟨.sl 2, l⟩, _)], _] => List.length l - i.toNat | _ => 0) fun vs r h => ?_
  obtain ⟨b, _, rfl, g1⟩ := rBytesO_r h
  obtain ⟨i, _, rfl, g2⟩ := rI_r g1
  obtain ⟨_, rfl, g3⟩ := rP_r g2
  obtain ⟨⟨q, v, e, l⟩, _, rfl, g4⟩ := rReplyN_r g3
  obtain ⟨z, _, rfl, g5⟩ := rBytesO_r g4
  obtain ⟨rfl, ⟨h0, h1, h2, h3⟩, g⟩ := r0_r g5
  clear g1 g2 g3 g4 g5 h
  obtain ⟨k, rfl⟩ := Int.eq_ofNat_of_zero_le h0
  have hb := body_t b k q v e l z
  simp only [Int.toNat_natCast] at hb g h3
  dsimp only at h1 h2 h3 g
  rw [wrap_i64 (x := (k : Int) + 1) (by omega) (by omega)] at hb
  unfold room at h3
  by_cases lt : k < l.length
  · generalize hx : List.getD l k (Env.dflt En 2) = x at hb
    have hd : l.drop k = x :: l.drop (k + 1) := by rw [← hx]; exact drop_at' lt
    rw [hd] at g
    obtain ⟨⟨s, p, q2⟩, ⟨a1, a2, a3⟩⟩ := x
    have n1 := dCell_len b ⟨s, p, q2⟩
    have n2 := vBytes_len ⟨a1, a2, a3⟩
    unfold dCells at g
    dsimp only at hb g
    have hroom : (List.length (dCell b ⟨s, p, q2⟩).1 + List.length (vBytes ⟨a1, a2, a3⟩)) * 1 ≤ 140737488355328 := by omega
    have hr1 : room (b.length + 260) := by unfold room; omega
    have stop (hc : (!(dCell b ⟨s, p, q2⟩).2 || ((vBytes ⟨a1, a2, a3⟩).length : Int) == 0) = true) (ht : (bodyRun c L0.live (lb (codeOf f_ref21_ReplyBytes) 0) [vL 0 b true, vI k, .v (tP 1 0), replyV t_api_Reply false ⟨q, v, e, l⟩, vL 0 z true]).reach (.ret, [vL 0 b false, vI k, .v (tP 1 0), replyV t_api_Reply false ⟨q, v, e, l⟩, vL 0 [] true])) :
        ∃ r1, (bodyRun c L0.live (lb (codeOf f_ref21_ReplyBytes) 0) [vL 0 b true, vI k, .v (tP 1 0), replyV t_api_Reply false ⟨q, v, e, l⟩, vL 0 z true]).reach r1 ∧ Onward2 L0 0 (fun vs => match vs with | [_, .v (.leaf ⟨.int .i64, i⟩ _), _, .blk _ [_, _, _, (⟨.sl 2, l⟩, _)], _] => List.length l - i.toNat | _ => 0) [vL 0 b true, vI k, .v (tP 1 0), replyV t_api_Reply false ⟨q, v, e, l⟩, vL 0 z true] r r1 := by
      rw [hc] at g
      simp only [cond_true] at g
      obtain rfl := Tree.of_ff g
      exact ⟨_, ht, onw_ret ⟨wkV, wkV, wkV, wkE, wkE, trivial⟩⟩
    have go (hc : (!(dCell b ⟨s, p, q2⟩).2 || ((vBytes ⟨a1, a2, a3⟩).length : Int) == 0) = false) (ht : (bodyRun c L0.live (lb (codeOf f_ref21_ReplyBytes) 0) [vL 0 b true, vI k, .v (tP 1 0), replyV t_api_Reply false ⟨q, v, e, l⟩, vL 0 z true]).reach (.normal, [vL 0 ((dCell b ⟨s, p, q2⟩).1 ++ vBytes ⟨a1, a2, a3⟩) true, vI ((k : Int) + 1), .v (tP 1 0), replyV t_api_Reply false ⟨q, v, e, l⟩, vL 0 z true])) :
        ∃ r1, (bodyRun c L0.live (lb (codeOf f_ref21_ReplyBytes) 0) [vL 0 b true, vI k, .v (tP 1 0), replyV t_api_Reply false ⟨q, v, e, l⟩, vL 0 z true]).reach r1 ∧ Onward2 L0 0 (fun vs => match vs with | [_, .v (.leaf ⟨.int .i64, i⟩ _), _, .blk _ [_, _, _, (⟨.sl 2, l⟩, _)], _] => List.length l - i.toNat | _ => 0) [vL 0 b true, vI k, .v (tP 1 0), replyV t_api_Reply false ⟨q, v, e, l⟩, vL 0 z true] r r1 := by
      rw [hc] at g
      simp only [cond_false] at g
      refine ⟨_, ht, onward2 ⟨?_, ⟨by omega, by show (k : Int) + 1 ≤ l.length; omega, h2, ?_⟩, ?_⟩⟩
      · show l.length - ((k : Int) + 1).toNat < l.length - (k : Int).toNat; omega
      · unfold room; show ((dCell b ⟨s, p, q2⟩).1 ++ vBytes ⟨a1, a2, a3⟩ : List UInt8).length + 462 * (l.length - ((k : Int) + 1).toNat) ≤ _
        rw [List.length_append]; omega
      · have e9 : ((k : Int) + 1).toNat = k + 1 := by omega
        rw [e9]; exact g
    cases c1 : (dCell b ⟨s, p, q2⟩).2 with
    | false =>
      refine stop (by rw [c1]; rfl) (Tree.reach_of hb ?_)
      rw [c1]
      exact Tree.reach_ite (fun _ => Tree.reach_req (by omega) (Tree.reach_req hr1 (Tree.reach_req (by omega) (Tree.reach_tt rfl)))) fun hx => by simp at hx; omega
    | true =>
    cases c2 : (((vBytes ⟨a1, a2, a3⟩).length : Int) == 0) with
    | true =>
      refine stop (by rw [c1, c2]; rfl) (Tree.reach_of hb ?_)
      rw [c1, c2]
      exact Tree.reach_ite (fun _ => Tree.reach_req (by omega) (Tree.reach_req hr1 (Tree.reach_req (by omega) (Tree.reach_ff (Tree.reach_tt rfl))))) fun hx => by simp at hx; omega
    | false =>
      refine go (by rw [c1, c2]; rfl) (Tree.reach_of hb ?_)
      rw [c1, c2]
      exact Tree.reach_ite (fun _ => Tree.reach_req (by omega) (Tree.reach_req hr1 (Tree.reach_req (by omega) (Tree.reach_ff (Tree.reach_ff (Tree.reach_req hroom rfl)))))) fun hx => by simp at hx; omega
  · rw [List.drop_eq_nil_of_le (by omega)] at g
    unfold dCells at g
    obtain rfl := Tree.of_tt g
    exact ⟨(.exit 0, [vL 0 b true, vI k, .v (tP 1 0), replyV t_api_Reply false ⟨q, v, e, l⟩, vL 0 z true]), Tree.reach_of hb (Tree.reach_ite (fun hx => by simp at hx; omega) fun _ => rfl), onw_exit ⟨wkE, wkV, wkV, wkE, wkV, trivial⟩⟩
theorem fn_t (k v e : Int) (l : List Shown) : fnRun ref21_ReplyBytes.c f_ref21_ReplyBytes (codeOf f_ref21_ReplyBytes) [tReply ⟨k, v, e, l⟩] (anys 1) =
  Tree.ite (decide (k < (1 : Int))) (Tree.leaf ([tL (0 : Nat) [] true], [RV.any]))
  (Tree.ite (decide (k > (4 : Int))) (Tree.leaf ([tL (0 : Nat) [] true], [RV.any]))
    (Tree.ite (decide (v < (0 : Int))) (Tree.leaf ([tL (0 : Nat) [] true], [RV.any]))
      (Tree.ite (decide (v > (2147483647 : Int))) (Tree.leaf ([tL (0 : Nat) [] true], [RV.any]))
        (Tree.ite (k == (1 : Int))
          (Tree.ite (decide (e < (1 : Int)))
            (Tree.ite true (Tree.leaf ([tL (0 : Nat) [] true], [RV.any]))
              (Tree.req (((0 : Int) ≤ IntKind.wrap IntKind.u8 k ∧ IntKind.wrap IntKind.u8 k < (256 : LT.den kindA (LT.int IntKind.u8))) ∧ True)
                (Tree.ite (k == (1 : Int))
                  (Tree.req (((0 : Int) ≤ IntKind.wrap IntKind.u8 e ∧ IntKind.wrap IntKind.u8 e < (256 : LT.den kindA (LT.int IntKind.u8))) ∧ True)
                    (Tree.req ((List.length [UInt8.ofNat (Int.toNat (IntKind.wrap IntKind.u8 k))] + List.length [UInt8.ofNat (Int.toNat (IntKind.wrap IntKind.u8 e))]) * (1 : Nat) ≤ (140737488355328 : Nat))
                      (Tree.req ((0 : Int) ≤ (24 : Int))
                        (Tree.req ((0 : Int) ≤ (16 : Int))
                          (Tree.req ((0 : Int) ≤ (8 : Int))
                            (Tree.req
                              (((0 : Int) ≤ IntKind.wrap IntKind.u8 (Int.fdiv v ((2 : Int) ^ min (24 : Nat) (IntKind.bits IntKind.i64))) ∧ IntKind.wrap IntKind.u8 (Int.fdiv v ((2 : Int) ^ min (24 : Nat) (IntKind.bits IntKind.i64))) < (256 : LT.den kindA (LT.int IntKind.u8))) ∧
                                ((0 : Int) ≤ IntKind.wrap IntKind.u8 (bitsOp BinOp.and IntKind.i64 (Int.fdiv v ((2 : Int) ^ min (16 : Nat) (IntKind.bits IntKind.i64))) (255 : Int)) ∧
                                    IntKind.wrap IntKind.u8 (bitsOp BinOp.and IntKind.i64 (Int.fdiv v ((2 : Int) ^ min (16 : Nat) (IntKind.bits IntKind.i64))) (255 : Int)) < (256 : LT.den kindA (LT.int IntKind.u8))) ∧
                                  ((0 : Int) ≤ IntKind.wrap IntKind.u8 (bitsOp BinOp.and IntKind.i64 (Int.fdiv v ((2 : Int) ^ min (8 : Nat) (IntKind.bits IntKind.i64))) (255 : Int)) ∧
                                      IntKind.wrap IntKind.u8 (bitsOp BinOp.and IntKind.i64 (Int.fdiv v ((2 : Int) ^ min (8 : Nat) (IntKind.bits IntKind.i64))) (255 : Int)) < (256 : LT.den kindA (LT.int IntKind.u8))) ∧
                                    ((0 : Int) ≤ IntKind.wrap IntKind.u8 (bitsOp BinOp.and IntKind.i64 v (255 : Int)) ∧ IntKind.wrap IntKind.u8 (bitsOp BinOp.and IntKind.i64 v (255 : Int)) < (256 : LT.den kindA (LT.int IntKind.u8))) ∧ True)
                              (Tree.req
                                ((List.length ([UInt8.ofNat (Int.toNat (IntKind.wrap IntKind.u8 k))] ++ [UInt8.ofNat (Int.toNat (IntKind.wrap IntKind.u8 e))]) +
                                      List.length
                                        [UInt8.ofNat (Int.toNat (IntKind.wrap IntKind.u8 (Int.fdiv v ((2 : Int) ^ min (24 : Nat) (IntKind.bits IntKind.i64))))),
                                          UInt8.ofNat (Int.toNat (IntKind.wrap IntKind.u8 (bitsOp BinOp.and IntKind.i64 (Int.fdiv v ((2 : Int) ^ min (16 : Nat) (IntKind.bits IntKind.i64))) (255 : Int)))),
                                          UInt8.ofNat (Int.toNat (IntKind.wrap IntKind.u8 (bitsOp BinOp.and IntKind.i64 (Int.fdiv v ((2 : Int) ^ min (8 : Nat) (IntKind.bits IntKind.i64))) (255 : Int)))),
                                          UInt8.ofNat (Int.toNat (IntKind.wrap IntKind.u8 (bitsOp BinOp.and IntKind.i64 v (255 : Int))))]) *
                                    (1 : Nat) ≤
                                  (140737488355328 : Nat))
                                (Tree.ite (k != (2 : Int))
                                  (Tree.ite (k != (3 : Int))
                                    (Tree.leaf
                                      ([tL (0 : Nat)
                                            ([UInt8.ofNat (Int.toNat (IntKind.wrap IntKind.u8 k))] ++ [UInt8.ofNat (Int.toNat (IntKind.wrap IntKind.u8 e))] ++
                                              [UInt8.ofNat (Int.toNat (IntKind.wrap IntKind.u8 (Int.fdiv v ((2 : Int) ^ min (24 : Nat) (IntKind.bits IntKind.i64))))),
                                                UInt8.ofNat (Int.toNat (IntKind.wrap IntKind.u8 (bitsOp BinOp.and IntKind.i64 (Int.fdiv v ((2 : Int) ^ min (16 : Nat) (IntKind.bits IntKind.i64))) (255 : Int)))),
                                                UInt8.ofNat (Int.toNat (IntKind.wrap IntKind.u8 (bitsOp BinOp.and IntKind.i64 (Int.fdiv v ((2 : Int) ^ min (8 : Nat) (IntKind.bits IntKind.i64))) (255 : Int)))),
                                                UInt8.ofNat (Int.toNat (IntKind.wrap IntKind.u8 (bitsOp BinOp.and IntKind.i64 v (255 : Int))))])
                                            false],
                                        [RV.any]))
                                    (Tree.ite (decide ((↑(List.length l) : Int) > (65535 : Int))) (Tree.leaf ([tL (0 : Nat) [] true], [RV.any]))
                                      (Tree.req ((0 : Int) ≤ (8 : Int))
                                        (Tree.req
                                          (((0 : Int) ≤ IntKind.wrap IntKind.u8 (Int.fdiv (↑(List.length l) : Int) ((2 : Int) ^ min (8 : Nat) (IntKind.bits IntKind.i64))) ∧
                                              IntKind.wrap IntKind.u8 (Int.fdiv (↑(List.length l) : Int) ((2 : Int) ^ min (8 : Nat) (IntKind.bits IntKind.i64))) < (256 : LT.den kindA (LT.int IntKind.u8))) ∧
                                            ((0 : Int) ≤ IntKind.wrap IntKind.u8 (bitsOp BinOp.and IntKind.i64 (↑(List.length l) : Int) (255 : Int)) ∧ IntKind.wrap IntKind.u8 (bitsOp BinOp.and IntKind.i64 (↑(List.length l) : Int) (255 : Int)) < (256 : LT.den kindA (LT.int IntKind.u8))) ∧ True)
                                          (Tree.req
                                            ((List.length
                                                    ([UInt8.ofNat (Int.toNat (IntKind.wrap IntKind.u8 k))] ++ [UInt8.ofNat (Int.toNat (IntKind.wrap IntKind.u8 e))] ++
                                                      [UInt8.ofNat (Int.toNat (IntKind.wrap IntKind.u8 (Int.fdiv v ((2 : Int) ^ min (24 : Nat) (IntKind.bits IntKind.i64))))),
                                                        UInt8.ofNat (Int.toNat (IntKind.wrap IntKind.u8 (bitsOp BinOp.and IntKind.i64 (Int.fdiv v ((2 : Int) ^ min (16 : Nat) (IntKind.bits IntKind.i64))) (255 : Int)))),
                                                        UInt8.ofNat (Int.toNat (IntKind.wrap IntKind.u8 (bitsOp BinOp.and IntKind.i64 (Int.fdiv v ((2 : Int) ^ min (8 : Nat) (IntKind.bits IntKind.i64))) (255 : Int)))),
                                                        UInt8.ofNat (Int.toNat (IntKind.wrap IntKind.u8 (bitsOp BinOp.and IntKind.i64 v (255 : Int))))]) +
                                                  List.length
                                                    [UInt8.ofNat (Int.toNat (IntKind.wrap IntKind.u8 (Int.fdiv (↑(List.length l) : Int) ((2 : Int) ^ min (8 : Nat) (IntKind.bits IntKind.i64))))),
                                                      UInt8.ofNat (Int.toNat (IntKind.wrap IntKind.u8 (bitsOp BinOp.and IntKind.i64 (↑(List.length l) : Int) (255 : Int))))]) *
                                                (1 : Nat) ≤
                                              (140737488355328 : Nat))
                                            (Tree.req
                                              ((0 : Int) ≤ (0 : Int) ∧
                                                (0 : Int) ≤ (↑(List.length l) : Int) ∧
                                                  List.length l ≤ (65535 : Nat) ∧
                                                    room
                                                      (List.length
                                                          ([UInt8.ofNat (Int.toNat (IntKind.wrap IntKind.u8 k))] ++ [UInt8.ofNat (Int.toNat (IntKind.wrap IntKind.u8 e))] ++
                                                              [UInt8.ofNat (Int.toNat (IntKind.wrap IntKind.u8 (Int.fdiv v ((2 : Int) ^ min (24 : Nat) (IntKind.bits IntKind.i64))))),
                                                                UInt8.ofNat (Int.toNat (IntKind.wrap IntKind.u8 (bitsOp BinOp.and IntKind.i64 (Int.fdiv v ((2 : Int) ^ min (16 : Nat) (IntKind.bits IntKind.i64))) (255 : Int)))),
                                                                UInt8.ofNat (Int.toNat (IntKind.wrap IntKind.u8 (bitsOp BinOp.and IntKind.i64 (Int.fdiv v ((2 : Int) ^ min (8 : Nat) (IntKind.bits IntKind.i64))) (255 : Int)))),
                                                                UInt8.ofNat (Int.toNat (IntKind.wrap IntKind.u8 (bitsOp BinOp.and IntKind.i64 v (255 : Int))))] ++
                                                            [UInt8.ofNat (Int.toNat (IntKind.wrap IntKind.u8 (Int.fdiv (↑(List.length l) : Int) ((2 : Int) ^ min (8 : Nat) (IntKind.bits IntKind.i64))))),
                                                              UInt8.ofNat (Int.toNat (IntKind.wrap IntKind.u8 (bitsOp BinOp.and IntKind.i64 (↑(List.length l) : Int) (255 : Int))))]) +
                                                        (462 : Nat) * (List.length l - (0 : Nat))))
                                              (Tree.ite
                                                (Prod.snd
                                                  (dCells
                                                    ([UInt8.ofNat (Int.toNat (IntKind.wrap IntKind.u8 k))] ++ [UInt8.ofNat (Int.toNat (IntKind.wrap IntKind.u8 e))] ++
                                                        [UInt8.ofNat (Int.toNat (IntKind.wrap IntKind.u8 (Int.fdiv v ((2 : Int) ^ min (24 : Nat) (IntKind.bits IntKind.i64))))),
                                                          UInt8.ofNat (Int.toNat (IntKind.wrap IntKind.u8 (bitsOp BinOp.and IntKind.i64 (Int.fdiv v ((2 : Int) ^ min (16 : Nat) (IntKind.bits IntKind.i64))) (255 : Int)))),
                                                          UInt8.ofNat (Int.toNat (IntKind.wrap IntKind.u8 (bitsOp BinOp.and IntKind.i64 (Int.fdiv v ((2 : Int) ^ min (8 : Nat) (IntKind.bits IntKind.i64))) (255 : Int)))),
                                                          UInt8.ofNat (Int.toNat (IntKind.wrap IntKind.u8 (bitsOp BinOp.and IntKind.i64 v (255 : Int))))] ++
                                                      [UInt8.ofNat (Int.toNat (IntKind.wrap IntKind.u8 (Int.fdiv (↑(List.length l) : Int) ((2 : Int) ^ min (8 : Nat) (IntKind.bits IntKind.i64))))),
                                                        UInt8.ofNat (Int.toNat (IntKind.wrap IntKind.u8 (bitsOp BinOp.and IntKind.i64 (↑(List.length l) : Int) (255 : Int))))])
                                                    (List.drop (0 : Nat) l)))
                                                (Tree.leaf
                                                  ([tL (0 : Nat)
                                                        (Prod.fst
                                                          (dCells
                                                            ([UInt8.ofNat (Int.toNat (IntKind.wrap IntKind.u8 k))] ++ [UInt8.ofNat (Int.toNat (IntKind.wrap IntKind.u8 e))] ++
                                                                [UInt8.ofNat (Int.toNat (IntKind.wrap IntKind.u8 (Int.fdiv v ((2 : Int) ^ min (24 : Nat) (IntKind.bits IntKind.i64))))),
                                                                  UInt8.ofNat (Int.toNat (IntKind.wrap IntKind.u8 (bitsOp BinOp.and IntKind.i64 (Int.fdiv v ((2 : Int) ^ min (16 : Nat) (IntKind.bits IntKind.i64))) (255 : Int)))),
                                                                  UInt8.ofNat (Int.toNat (IntKind.wrap IntKind.u8 (bitsOp BinOp.and IntKind.i64 (Int.fdiv v ((2 : Int) ^ min (8 : Nat) (IntKind.bits IntKind.i64))) (255 : Int)))),
                                                                  UInt8.ofNat (Int.toNat (IntKind.wrap IntKind.u8 (bitsOp BinOp.and IntKind.i64 v (255 : Int))))] ++
                                                              [UInt8.ofNat (Int.toNat (IntKind.wrap IntKind.u8 (Int.fdiv (↑(List.length l) : Int) ((2 : Int) ^ min (8 : Nat) (IntKind.bits IntKind.i64))))),
                                                                UInt8.ofNat (Int.toNat (IntKind.wrap IntKind.u8 (bitsOp BinOp.and IntKind.i64 (↑(List.length l) : Int) (255 : Int))))])
                                                            (List.drop (0 : Nat) l)))
                                                        false],
                                                    [RV.any]))
                                                (Tree.leaf ([tL (0 : Nat) [] true], [RV.any])))))))))
                                  (Tree.ite (decide ((↑(List.length l) : Int) > (65535 : Int))) (Tree.leaf ([tL (0 : Nat) [] true], [RV.any]))
                                    (Tree.req ((0 : Int) ≤ (8 : Int))
                                      (Tree.req
                                        (((0 : Int) ≤ IntKind.wrap IntKind.u8 (Int.fdiv (↑(List.length l) : Int) ((2 : Int) ^ min (8 : Nat) (IntKind.bits IntKind.i64))) ∧
                                            IntKind.wrap IntKind.u8 (Int.fdiv (↑(List.length l) : Int) ((2 : Int) ^ min (8 : Nat) (IntKind.bits IntKind.i64))) < (256 : LT.den kindA (LT.int IntKind.u8))) ∧
                                          ((0 : Int) ≤ IntKind.wrap IntKind.u8 (bitsOp BinOp.and IntKind.i64 (↑(List.length l) : Int) (255 : Int)) ∧ IntKind.wrap IntKind.u8 (bitsOp BinOp.and IntKind.i64 (↑(List.length l) : Int) (255 : Int)) < (256 : LT.den kindA (LT.int IntKind.u8))) ∧ True)
                                        (Tree.req
                                          ((List.length
                                                  ([UInt8.ofNat (Int.toNat (IntKind.wrap IntKind.u8 k))] ++ [UInt8.ofNat (Int.toNat (IntKind.wrap IntKind.u8 e))] ++
                                                    [UInt8.ofNat (Int.toNat (IntKind.wrap IntKind.u8 (Int.fdiv v ((2 : Int) ^ min (24 : Nat) (IntKind.bits IntKind.i64))))),
                                                      UInt8.ofNat (Int.toNat (IntKind.wrap IntKind.u8 (bitsOp BinOp.and IntKind.i64 (Int.fdiv v ((2 : Int) ^ min (16 : Nat) (IntKind.bits IntKind.i64))) (255 : Int)))),
                                                      UInt8.ofNat (Int.toNat (IntKind.wrap IntKind.u8 (bitsOp BinOp.and IntKind.i64 (Int.fdiv v ((2 : Int) ^ min (8 : Nat) (IntKind.bits IntKind.i64))) (255 : Int)))),
                                                      UInt8.ofNat (Int.toNat (IntKind.wrap IntKind.u8 (bitsOp BinOp.and IntKind.i64 v (255 : Int))))]) +
                                                List.length
                                                  [UInt8.ofNat (Int.toNat (IntKind.wrap IntKind.u8 (Int.fdiv (↑(List.length l) : Int) ((2 : Int) ^ min (8 : Nat) (IntKind.bits IntKind.i64))))),
                                                    UInt8.ofNat (Int.toNat (IntKind.wrap IntKind.u8 (bitsOp BinOp.and IntKind.i64 (↑(List.length l) : Int) (255 : Int))))]) *
                                              (1 : Nat) ≤
                                            (140737488355328 : Nat))
                                          (Tree.req
                                            ((0 : Int) ≤ (0 : Int) ∧
                                              (0 : Int) ≤ (↑(List.length l) : Int) ∧
                                                List.length l ≤ (65535 : Nat) ∧
                                                  room
                                                    (List.length
                                                        ([UInt8.ofNat (Int.toNat (IntKind.wrap IntKind.u8 k))] ++ [UInt8.ofNat (Int.toNat (IntKind.wrap IntKind.u8 e))] ++
                                                            [UInt8.ofNat (Int.toNat (IntKind.wrap IntKind.u8 (Int.fdiv v ((2 : Int) ^ min (24 : Nat) (IntKind.bits IntKind.i64))))),
                                                              UInt8.ofNat (Int.toNat (IntKind.wrap IntKind.u8 (bitsOp BinOp.and IntKind.i64 (Int.fdiv v ((2 : Int) ^ min (16 : Nat) (IntKind.bits IntKind.i64))) (255 : Int)))),
                                                              UInt8.ofNat (Int.toNat (IntKind.wrap IntKind.u8 (bitsOp BinOp.and IntKind.i64 (Int.fdiv v ((2 : Int) ^ min (8 : Nat) (IntKind.bits IntKind.i64))) (255 : Int)))),
                                                              UInt8.ofNat (Int.toNat (IntKind.wrap IntKind.u8 (bitsOp BinOp.and IntKind.i64 v (255 : Int))))] ++
                                                          [UInt8.ofNat (Int.toNat (IntKind.wrap IntKind.u8 (Int.fdiv (↑(List.length l) : Int) ((2 : Int) ^ min (8 : Nat) (IntKind.bits IntKind.i64))))),
                                                            UInt8.ofNat (Int.toNat (IntKind.wrap IntKind.u8 (bitsOp BinOp.and IntKind.i64 (↑(List.length l) : Int) (255 : Int))))]) +
                                                      (462 : Nat) * (List.length l - (0 : Nat))))
                                            (Tree.ite
                                              (Prod.snd
                                                (dCells
                                                  ([UInt8.ofNat (Int.toNat (IntKind.wrap IntKind.u8 k))] ++ [UInt8.ofNat (Int.toNat (IntKind.wrap IntKind.u8 e))] ++
                                                      [UInt8.ofNat (Int.toNat (IntKind.wrap IntKind.u8 (Int.fdiv v ((2 : Int) ^ min (24 : Nat) (IntKind.bits IntKind.i64))))),
                                                        UInt8.ofNat (Int.toNat (IntKind.wrap IntKind.u8 (bitsOp BinOp.and IntKind.i64 (Int.fdiv v ((2 : Int) ^ min (16 : Nat) (IntKind.bits IntKind.i64))) (255 : Int)))),
                                                        UInt8.ofNat (Int.toNat (IntKind.wrap IntKind.u8 (bitsOp BinOp.and IntKind.i64 (Int.fdiv v ((2 : Int) ^ min (8 : Nat) (IntKind.bits IntKind.i64))) (255 : Int)))),
                                                        UInt8.ofNat (Int.toNat (IntKind.wrap IntKind.u8 (bitsOp BinOp.and IntKind.i64 v (255 : Int))))] ++
                                                    [UInt8.ofNat (Int.toNat (IntKind.wrap IntKind.u8 (Int.fdiv (↑(List.length l) : Int) ((2 : Int) ^ min (8 : Nat) (IntKind.bits IntKind.i64))))),
                                                      UInt8.ofNat (Int.toNat (IntKind.wrap IntKind.u8 (bitsOp BinOp.and IntKind.i64 (↑(List.length l) : Int) (255 : Int))))])
                                                  (List.drop (0 : Nat) l)))
                                              (Tree.leaf
                                                ([tL (0 : Nat)
                                                      (Prod.fst
                                                        (dCells
                                                          ([UInt8.ofNat (Int.toNat (IntKind.wrap IntKind.u8 k))] ++ [UInt8.ofNat (Int.toNat (IntKind.wrap IntKind.u8 e))] ++
                                                              [UInt8.ofNat (Int.toNat (IntKind.wrap IntKind.u8 (Int.fdiv v ((2 : Int) ^ min (24 : Nat) (IntKind.bits IntKind.i64))))),
                                                                UInt8.ofNat (Int.toNat (IntKind.wrap IntKind.u8 (bitsOp BinOp.and IntKind.i64 (Int.fdiv v ((2 : Int) ^ min (16 : Nat) (IntKind.bits IntKind.i64))) (255 : Int)))),
                                                                UInt8.ofNat (Int.toNat (IntKind.wrap IntKind.u8 (bitsOp BinOp.and IntKind.i64 (Int.fdiv v ((2 : Int) ^ min (8 : Nat) (IntKind.bits IntKind.i64))) (255 : Int)))),
                                                                UInt8.ofNat (Int.toNat (IntKind.wrap IntKind.u8 (bitsOp BinOp.and IntKind.i64 v (255 : Int))))] ++
                                                            [UInt8.ofNat (Int.toNat (IntKind.wrap IntKind.u8 (Int.fdiv (↑(List.length l) : Int) ((2 : Int) ^ min (8 : Nat) (IntKind.bits IntKind.i64))))),
                                                              UInt8.ofNat (Int.toNat (IntKind.wrap IntKind.u8 (bitsOp BinOp.and IntKind.i64 (↑(List.length l) : Int) (255 : Int))))])
                                                          (List.drop (0 : Nat) l)))
                                                      false],
                                                  [RV.any]))
                                              (Tree.leaf ([tL (0 : Nat) [] true], [RV.any]))))))))))))))))
                  (Tree.req ((0 : Int) ≤ (24 : Int))
                    (Tree.req ((0 : Int) ≤ (16 : Int))
                      (Tree.req ((0 : Int) ≤ (8 : Int))
                        (Tree.req
                          (((0 : Int) ≤ IntKind.wrap IntKind.u8 (Int.fdiv v ((2 : Int) ^ min (24 : Nat) (IntKind.bits IntKind.i64))) ∧ IntKind.wrap IntKind.u8 (Int.fdiv v ((2 : Int) ^ min (24 : Nat) (IntKind.bits IntKind.i64))) < (256 : LT.den kindA (LT.int IntKind.u8))) ∧
                            ((0 : Int) ≤ IntKind.wrap IntKind.u8 (bitsOp BinOp.and IntKind.i64 (Int.fdiv v ((2 : Int) ^ min (16 : Nat) (IntKind.bits IntKind.i64))) (255 : Int)) ∧
                                IntKind.wrap IntKind.u8 (bitsOp BinOp.and IntKind.i64 (Int.fdiv v ((2 : Int) ^ min (16 : Nat) (IntKind.bits IntKind.i64))) (255 : Int)) < (256 : LT.den kindA (LT.int IntKind.u8))) ∧
                              ((0 : Int) ≤ IntKind.wrap IntKind.u8 (bitsOp BinOp.and IntKind.i64 (Int.fdiv v ((2 : Int) ^ min (8 : Nat) (IntKind.bits IntKind.i64))) (255 : Int)) ∧
                                  IntKind.wrap IntKind.u8 (bitsOp BinOp.and IntKind.i64 (Int.fdiv v ((2 : Int) ^ min (8 : Nat) (IntKind.bits IntKind.i64))) (255 : Int)) < (256 : LT.den kindA (LT.int IntKind.u8))) ∧
                                ((0 : Int) ≤ IntKind.wrap IntKind.u8 (bitsOp BinOp.and IntKind.i64 v (255 : Int)) ∧ IntKind.wrap IntKind.u8 (bitsOp BinOp.and IntKind.i64 v (255 : Int)) < (256 : LT.den kindA (LT.int IntKind.u8))) ∧ True)
                          (Tree.req
                            ((List.length [UInt8.ofNat (Int.toNat (IntKind.wrap IntKind.u8 k))] +
                                  List.length
                                    [UInt8.ofNat (Int.toNat (IntKind.wrap IntKind.u8 (Int.fdiv v ((2 : Int) ^ min (24 : Nat) (IntKind.bits IntKind.i64))))),
                                      UInt8.ofNat (Int.toNat (IntKind.wrap IntKind.u8 (bitsOp BinOp.and IntKind.i64 (Int.fdiv v ((2 : Int) ^ min (16 : Nat) (IntKind.bits IntKind.i64))) (255 : Int)))),
                                      UInt8.ofNat (Int.toNat (IntKind.wrap IntKind.u8 (bitsOp BinOp.and IntKind.i64 (Int.fdiv v ((2 : Int) ^ min (8 : Nat) (IntKind.bits IntKind.i64))) (255 : Int)))), UInt8.ofNat (Int.toNat (IntKind.wrap IntKind.u8 (bitsOp BinOp.and IntKind.i64 v (255 : Int))))]) *
                                (1 : Nat) ≤
                              (140737488355328 : Nat))
                            (Tree.ite (k != (2 : Int))
                              (Tree.ite (k != (3 : Int))
                                (Tree.leaf
                                  ([tL (0 : Nat)
                                        ([UInt8.ofNat (Int.toNat (IntKind.wrap IntKind.u8 k))] ++
                                          [UInt8.ofNat (Int.toNat (IntKind.wrap IntKind.u8 (Int.fdiv v ((2 : Int) ^ min (24 : Nat) (IntKind.bits IntKind.i64))))),
                                            UInt8.ofNat (Int.toNat (IntKind.wrap IntKind.u8 (bitsOp BinOp.and IntKind.i64 (Int.fdiv v ((2 : Int) ^ min (16 : Nat) (IntKind.bits IntKind.i64))) (255 : Int)))),
                                            UInt8.ofNat (Int.toNat (IntKind.wrap IntKind.u8 (bitsOp BinOp.and IntKind.i64 (Int.fdiv v ((2 : Int) ^ min (8 : Nat) (IntKind.bits IntKind.i64))) (255 : Int)))),
                                            UInt8.ofNat (Int.toNat (IntKind.wrap IntKind.u8 (bitsOp BinOp.and IntKind.i64 v (255 : Int))))])
                                        false],
                                    [RV.any]))
                                (Tree.ite (decide ((↑(List.length l) : Int) > (65535 : Int))) (Tree.leaf ([tL (0 : Nat) [] true], [RV.any]))
                                  (Tree.req ((0 : Int) ≤ (8 : Int))
                                    (Tree.req
                                      (((0 : Int) ≤ IntKind.wrap IntKind.u8 (Int.fdiv (↑(List.length l) : Int) ((2 : Int) ^ min (8 : Nat) (IntKind.bits IntKind.i64))) ∧
                                          IntKind.wrap IntKind.u8 (Int.fdiv (↑(List.length l) : Int) ((2 : Int) ^ min (8 : Nat) (IntKind.bits IntKind.i64))) < (256 : LT.den kindA (LT.int IntKind.u8))) ∧
                                        ((0 : Int) ≤ IntKind.wrap IntKind.u8 (bitsOp BinOp.and IntKind.i64 (↑(List.length l) : Int) (255 : Int)) ∧ IntKind.wrap IntKind.u8 (bitsOp BinOp.and IntKind.i64 (↑(List.length l) : Int) (255 : Int)) < (256 : LT.den kindA (LT.int IntKind.u8))) ∧ True)
                                      (Tree.req
                                        ((List.length
                                                ([UInt8.ofNat (Int.toNat (IntKind.wrap IntKind.u8 k))] ++
                                                  [UInt8.ofNat (Int.toNat (IntKind.wrap IntKind.u8 (Int.fdiv v ((2 : Int) ^ min (24 : Nat) (IntKind.bits IntKind.i64))))),
                                                    UInt8.ofNat (Int.toNat (IntKind.wrap IntKind.u8 (bitsOp BinOp.and IntKind.i64 (Int.fdiv v ((2 : Int) ^ min (16 : Nat) (IntKind.bits IntKind.i64))) (255 : Int)))),
                                                    UInt8.ofNat (Int.toNat (IntKind.wrap IntKind.u8 (bitsOp BinOp.and IntKind.i64 (Int.fdiv v ((2 : Int) ^ min (8 : Nat) (IntKind.bits IntKind.i64))) (255 : Int)))),
                                                    UInt8.ofNat (Int.toNat (IntKind.wrap IntKind.u8 (bitsOp BinOp.and IntKind.i64 v (255 : Int))))]) +
                                              List.length
                                                [UInt8.ofNat (Int.toNat (IntKind.wrap IntKind.u8 (Int.fdiv (↑(List.length l) : Int) ((2 : Int) ^ min (8 : Nat) (IntKind.bits IntKind.i64))))),
                                                  UInt8.ofNat (Int.toNat (IntKind.wrap IntKind.u8 (bitsOp BinOp.and IntKind.i64 (↑(List.length l) : Int) (255 : Int))))]) *
                                            (1 : Nat) ≤
                                          (140737488355328 : Nat))
                                        (Tree.req
                                          ((0 : Int) ≤ (0 : Int) ∧
                                            (0 : Int) ≤ (↑(List.length l) : Int) ∧
                                              List.length l ≤ (65535 : Nat) ∧
                                                room
                                                  (List.length
                                                      ([UInt8.ofNat (Int.toNat (IntKind.wrap IntKind.u8 k))] ++
                                                          [UInt8.ofNat (Int.toNat (IntKind.wrap IntKind.u8 (Int.fdiv v ((2 : Int) ^ min (24 : Nat) (IntKind.bits IntKind.i64))))),
                                                            UInt8.ofNat (Int.toNat (IntKind.wrap IntKind.u8 (bitsOp BinOp.and IntKind.i64 (Int.fdiv v ((2 : Int) ^ min (16 : Nat) (IntKind.bits IntKind.i64))) (255 : Int)))),
                                                            UInt8.ofNat (Int.toNat (IntKind.wrap IntKind.u8 (bitsOp BinOp.and IntKind.i64 (Int.fdiv v ((2 : Int) ^ min (8 : Nat) (IntKind.bits IntKind.i64))) (255 : Int)))),
                                                            UInt8.ofNat (Int.toNat (IntKind.wrap IntKind.u8 (bitsOp BinOp.and IntKind.i64 v (255 : Int))))] ++
                                                        [UInt8.ofNat (Int.toNat (IntKind.wrap IntKind.u8 (Int.fdiv (↑(List.length l) : Int) ((2 : Int) ^ min (8 : Nat) (IntKind.bits IntKind.i64))))),
                                                          UInt8.ofNat (Int.toNat (IntKind.wrap IntKind.u8 (bitsOp BinOp.and IntKind.i64 (↑(List.length l) : Int) (255 : Int))))]) +
                                                    (462 : Nat) * (List.length l - (0 : Nat))))
                                          (Tree.ite
                                            (Prod.snd
                                              (dCells
                                                ([UInt8.ofNat (Int.toNat (IntKind.wrap IntKind.u8 k))] ++
                                                    [UInt8.ofNat (Int.toNat (IntKind.wrap IntKind.u8 (Int.fdiv v ((2 : Int) ^ min (24 : Nat) (IntKind.bits IntKind.i64))))),
                                                      UInt8.ofNat (Int.toNat (IntKind.wrap IntKind.u8 (bitsOp BinOp.and IntKind.i64 (Int.fdiv v ((2 : Int) ^ min (16 : Nat) (IntKind.bits IntKind.i64))) (255 : Int)))),
                                                      UInt8.ofNat (Int.toNat (IntKind.wrap IntKind.u8 (bitsOp BinOp.and IntKind.i64 (Int.fdiv v ((2 : Int) ^ min (8 : Nat) (IntKind.bits IntKind.i64))) (255 : Int)))),
                                                      UInt8.ofNat (Int.toNat (IntKind.wrap IntKind.u8 (bitsOp BinOp.and IntKind.i64 v (255 : Int))))] ++
                                                  [UInt8.ofNat (Int.toNat (IntKind.wrap IntKind.u8 (Int.fdiv (↑(List.length l) : Int) ((2 : Int) ^ min (8 : Nat) (IntKind.bits IntKind.i64))))),
                                                    UInt8.ofNat (Int.toNat (IntKind.wrap IntKind.u8 (bitsOp BinOp.and IntKind.i64 (↑(List.length l) : Int) (255 : Int))))])
                                                (List.drop (0 : Nat) l)))
                                            (Tree.leaf
                                              ([tL (0 : Nat)
                                                    (Prod.fst
                                                      (dCells
                                                        ([UInt8.ofNat (Int.toNat (IntKind.wrap IntKind.u8 k))] ++
                                                            [UInt8.ofNat (Int.toNat (IntKind.wrap IntKind.u8 (Int.fdiv v ((2 : Int) ^ min (24 : Nat) (IntKind.bits IntKind.i64))))),
                                                              UInt8.ofNat (Int.toNat (IntKind.wrap IntKind.u8 (bitsOp BinOp.and IntKind.i64 (Int.fdiv v ((2 : Int) ^ min (16 : Nat) (IntKind.bits IntKind.i64))) (255 : Int)))),
                                                              UInt8.ofNat (Int.toNat (IntKind.wrap IntKind.u8 (bitsOp BinOp.and IntKind.i64 (Int.fdiv v ((2 : Int) ^ min (8 : Nat) (IntKind.bits IntKind.i64))) (255 : Int)))),
                                                              UInt8.ofNat (Int.toNat (IntKind.wrap IntKind.u8 (bitsOp BinOp.and IntKind.i64 v (255 : Int))))] ++
                                                          [UInt8.ofNat (Int.toNat (IntKind.wrap IntKind.u8 (Int.fdiv (↑(List.length l) : Int) ((2 : Int) ^ min (8 : Nat) (IntKind.bits IntKind.i64))))),
                                                            UInt8.ofNat (Int.toNat (IntKind.wrap IntKind.u8 (bitsOp BinOp.and IntKind.i64 (↑(List.length l) : Int) (255 : Int))))])
                                                        (List.drop (0 : Nat) l)))
                                                    false],
                                                [RV.any]))
                                            (Tree.leaf ([tL (0 : Nat) [] true], [RV.any])))))))))
                              (Tree.ite (decide ((↑(List.length l) : Int) > (65535 : Int))) (Tree.leaf ([tL (0 : Nat) [] true], [RV.any]))
                                (Tree.req ((0 : Int) ≤ (8 : Int))
                                  (Tree.req
                                    (((0 : Int) ≤ IntKind.wrap IntKind.u8 (Int.fdiv (↑(List.length l) : Int) ((2 : Int) ^ min (8 : Nat) (IntKind.bits IntKind.i64))) ∧
                                        IntKind.wrap IntKind.u8 (Int.fdiv (↑(List.length l) : Int) ((2 : Int) ^ min (8 : Nat) (IntKind.bits IntKind.i64))) < (256 : LT.den kindA (LT.int IntKind.u8))) ∧
                                      ((0 : Int) ≤ IntKind.wrap IntKind.u8 (bitsOp BinOp.and IntKind.i64 (↑(List.length l) : Int) (255 : Int)) ∧ IntKind.wrap IntKind.u8 (bitsOp BinOp.and IntKind.i64 (↑(List.length l) : Int) (255 : Int)) < (256 : LT.den kindA (LT.int IntKind.u8))) ∧ True)
                                    (Tree.req
                                      ((List.length
                                              ([UInt8.ofNat (Int.toNat (IntKind.wrap IntKind.u8 k))] ++
                                                [UInt8.ofNat (Int.toNat (IntKind.wrap IntKind.u8 (Int.fdiv v ((2 : Int) ^ min (24 : Nat) (IntKind.bits IntKind.i64))))),
                                                  UInt8.ofNat (Int.toNat (IntKind.wrap IntKind.u8 (bitsOp BinOp.and IntKind.i64 (Int.fdiv v ((2 : Int) ^ min (16 : Nat) (IntKind.bits IntKind.i64))) (255 : Int)))),
                                                  UInt8.ofNat (Int.toNat (IntKind.wrap IntKind.u8 (bitsOp BinOp.and IntKind.i64 (Int.fdiv v ((2 : Int) ^ min (8 : Nat) (IntKind.bits IntKind.i64))) (255 : Int)))),
                                                  UInt8.ofNat (Int.toNat (IntKind.wrap IntKind.u8 (bitsOp BinOp.and IntKind.i64 v (255 : Int))))]) +
                                            List.length
                                              [UInt8.ofNat (Int.toNat (IntKind.wrap IntKind.u8 (Int.fdiv (↑(List.length l) : Int) ((2 : Int) ^ min (8 : Nat) (IntKind.bits IntKind.i64))))),
                                                UInt8.ofNat (Int.toNat (IntKind.wrap IntKind.u8 (bitsOp BinOp.and IntKind.i64 (↑(List.length l) : Int) (255 : Int))))]) *
                                          (1 : Nat) ≤
                                        (140737488355328 : Nat))
                                      (Tree.req
                                        ((0 : Int) ≤ (0 : Int) ∧
                                          (0 : Int) ≤ (↑(List.length l) : Int) ∧
                                            List.length l ≤ (65535 : Nat) ∧
                                              room
                                                (List.length
                                                    ([UInt8.ofNat (Int.toNat (IntKind.wrap IntKind.u8 k))] ++
                                                        [UInt8.ofNat (Int.toNat (IntKind.wrap IntKind.u8 (Int.fdiv v ((2 : Int) ^ min (24 : Nat) (IntKind.bits IntKind.i64))))),
                                                          UInt8.ofNat (Int.toNat (IntKind.wrap IntKind.u8 (bitsOp BinOp.and IntKind.i64 (Int.fdiv v ((2 : Int) ^ min (16 : Nat) (IntKind.bits IntKind.i64))) (255 : Int)))),
                                                          UInt8.ofNat (Int.toNat (IntKind.wrap IntKind.u8 (bitsOp BinOp.and IntKind.i64 (Int.fdiv v ((2 : Int) ^ min (8 : Nat) (IntKind.bits IntKind.i64))) (255 : Int)))),
                                                          UInt8.ofNat (Int.toNat (IntKind.wrap IntKind.u8 (bitsOp BinOp.and IntKind.i64 v (255 : Int))))] ++
                                                      [UInt8.ofNat (Int.toNat (IntKind.wrap IntKind.u8 (Int.fdiv (↑(List.length l) : Int) ((2 : Int) ^ min (8 : Nat) (IntKind.bits IntKind.i64))))),
                                                        UInt8.ofNat (Int.toNat (IntKind.wrap IntKind.u8 (bitsOp BinOp.and IntKind.i64 (↑(List.length l) : Int) (255 : Int))))]) +
                                                  (462 : Nat) * (List.length l - (0 : Nat))))
                                        (Tree.ite
                                          (Prod.snd
                                            (dCells
                                              ([UInt8.ofNat (Int.toNat (IntKind.wrap IntKind.u8 k))] ++
                                                  [UInt8.ofNat (Int.toNat (IntKind.wrap IntKind.u8 (Int.fdiv v ((2 : Int) ^ min (24 : Nat) (IntKind.bits IntKind.i64))))),
                                                    UInt8.ofNat (Int.toNat (IntKind.wrap IntKind.u8 (bitsOp BinOp.and IntKind.i64 (Int.fdiv v ((2 : Int) ^ min (16 : Nat) (IntKind.bits IntKind.i64))) (255 : Int)))),
                                                    UInt8.ofNat (Int.toNat (IntKind.wrap IntKind.u8 (bitsOp BinOp.and IntKind.i64 (Int.fdiv v ((2 : Int) ^ min (8 : Nat) (IntKind.bits IntKind.i64))) (255 : Int)))),
                                                    UInt8.ofNat (Int.toNat (IntKind.wrap IntKind.u8 (bitsOp BinOp.and IntKind.i64 v (255 : Int))))] ++
                                                [UInt8.ofNat (Int.toNat (IntKind.wrap IntKind.u8 (Int.fdiv (↑(List.length l) : Int) ((2 : Int) ^ min (8 : Nat) (IntKind.bits IntKind.i64))))),
                                                  UInt8.ofNat (Int.toNat (IntKind.wrap IntKind.u8 (bitsOp BinOp.and IntKind.i64 (↑(List.length l) : Int) (255 : Int))))])
                                              (List.drop (0 : Nat) l)))
                                          (Tree.leaf
                                            ([tL (0 : Nat)
                                                  (Prod.fst
                                                    (dCells
                                                      ([UInt8.ofNat (Int.toNat (IntKind.wrap IntKind.u8 k))] ++
                                                          [UInt8.ofNat (Int.toNat (IntKind.wrap IntKind.u8 (Int.fdiv v ((2 : Int) ^ min (24 : Nat) (IntKind.bits IntKind.i64))))),
                                                            UInt8.ofNat (Int.toNat (IntKind.wrap IntKind.u8 (bitsOp BinOp.and IntKind.i64 (Int.fdiv v ((2 : Int) ^ min (16 : Nat) (IntKind.bits IntKind.i64))) (255 : Int)))),
                                                            UInt8.ofNat (Int.toNat (IntKind.wrap IntKind.u8 (bitsOp BinOp.and IntKind.i64 (Int.fdiv v ((2 : Int) ^ min (8 : Nat) (IntKind.bits IntKind.i64))) (255 : Int)))),
                                                            UInt8.ofNat (Int.toNat (IntKind.wrap IntKind.u8 (bitsOp BinOp.and IntKind.i64 v (255 : Int))))] ++
                                                        [UInt8.ofNat (Int.toNat (IntKind.wrap IntKind.u8 (Int.fdiv (↑(List.length l) : Int) ((2 : Int) ^ min (8 : Nat) (IntKind.bits IntKind.i64))))),
                                                          UInt8.ofNat (Int.toNat (IntKind.wrap IntKind.u8 (bitsOp BinOp.and IntKind.i64 (↑(List.length l) : Int) (255 : Int))))])
                                                      (List.drop (0 : Nat) l)))
                                                  false],
                                              [RV.any]))
                                          (Tree.leaf ([tL (0 : Nat) [] true], [RV.any])))))))))))))))))
            (Tree.ite (decide (e > (10 : Int))) (Tree.leaf ([tL (0 : Nat) [] true], [RV.any]))
              (Tree.req (((0 : Int) ≤ IntKind.wrap IntKind.u8 k ∧ IntKind.wrap IntKind.u8 k < (256 : LT.den kindA (LT.int IntKind.u8))) ∧ True)
                (Tree.ite (k == (1 : Int))
                  (Tree.req (((0 : Int) ≤ IntKind.wrap IntKind.u8 e ∧ IntKind.wrap IntKind.u8 e < (256 : LT.den kindA (LT.int IntKind.u8))) ∧ True)
                    (Tree.req ((List.length [UInt8.ofNat (Int.toNat (IntKind.wrap IntKind.u8 k))] + List.length [UInt8.ofNat (Int.toNat (IntKind.wrap IntKind.u8 e))]) * (1 : Nat) ≤ (140737488355328 : Nat))
                      (Tree.req ((0 : Int) ≤ (24 : Int))
                        (Tree.req ((0 : Int) ≤ (16 : Int))
                          (Tree.req ((0 : Int) ≤ (8 : Int))
                            (Tree.req
                              (((0 : Int) ≤ IntKind.wrap IntKind.u8 (Int.fdiv v ((2 : Int) ^ min (24 : Nat) (IntKind.bits IntKind.i64))) ∧ IntKind.wrap IntKind.u8 (Int.fdiv v ((2 : Int) ^ min (24 : Nat) (IntKind.bits IntKind.i64))) < (256 : LT.den kindA (LT.int IntKind.u8))) ∧
                                ((0 : Int) ≤ IntKind.wrap IntKind.u8 (bitsOp BinOp.and IntKind.i64 (Int.fdiv v ((2 : Int) ^ min (16 : Nat) (IntKind.bits IntKind.i64))) (255 : Int)) ∧
                                    IntKind.wrap IntKind.u8 (bitsOp BinOp.and IntKind.i64 (Int.fdiv v ((2 : Int) ^ min (16 : Nat) (IntKind.bits IntKind.i64))) (255 : Int)) < (256 : LT.den kindA (LT.int IntKind.u8))) ∧
                                  ((0 : Int) ≤ IntKind.wrap IntKind.u8 (bitsOp BinOp.and IntKind.i64 (Int.fdiv v ((2 : Int) ^ min (8 : Nat) (IntKind.bits IntKind.i64))) (255 : Int)) ∧
                                      IntKind.wrap IntKind.u8 (bitsOp BinOp.and IntKind.i64 (Int.fdiv v ((2 : Int) ^ min (8 : Nat) (IntKind.bits IntKind.i64))) (255 : Int)) < (256 : LT.den kindA (LT.int IntKind.u8))) ∧
                                    ((0 : Int) ≤ IntKind.wrap IntKind.u8 (bitsOp BinOp.and IntKind.i64 v (255 : Int)) ∧ IntKind.wrap IntKind.u8 (bitsOp BinOp.and IntKind.i64 v (255 : Int)) < (256 : LT.den kindA (LT.int IntKind.u8))) ∧ True)
                              (Tree.req
                                ((List.length ([UInt8.ofNat (Int.toNat (IntKind.wrap IntKind.u8 k))] ++ [UInt8.ofNat (Int.toNat (IntKind.wrap IntKind.u8 e))]) +
                                      List.length
                                        [UInt8.ofNat (Int.toNat (IntKind.wrap IntKind.u8 (Int.fdiv v ((2 : Int) ^ min (24 : Nat) (IntKind.bits IntKind.i64))))),
                                          UInt8.ofNat (Int.toNat (IntKind.wrap IntKind.u8 (bitsOp BinOp.and IntKind.i64 (Int.fdiv v ((2 : Int) ^ min (16 : Nat) (IntKind.bits IntKind.i64))) (255 : Int)))),
                                          UInt8.ofNat (Int.toNat (IntKind.wrap IntKind.u8 (bitsOp BinOp.and IntKind.i64 (Int.fdiv v ((2 : Int) ^ min (8 : Nat) (IntKind.bits IntKind.i64))) (255 : Int)))),
                                          UInt8.ofNat (Int.toNat (IntKind.wrap IntKind.u8 (bitsOp BinOp.and IntKind.i64 v (255 : Int))))]) *
                                    (1 : Nat) ≤
                                  (140737488355328 : Nat))
                                (Tree.ite (k != (2 : Int))
                                  (Tree.ite (k != (3 : Int))
                                    (Tree.leaf
                                      ([tL (0 : Nat)
                                            ([UInt8.ofNat (Int.toNat (IntKind.wrap IntKind.u8 k))] ++ [UInt8.ofNat (Int.toNat (IntKind.wrap IntKind.u8 e))] ++
                                              [UInt8.ofNat (Int.toNat (IntKind.wrap IntKind.u8 (Int.fdiv v ((2 : Int) ^ min (24 : Nat) (IntKind.bits IntKind.i64))))),
                                                UInt8.ofNat (Int.toNat (IntKind.wrap IntKind.u8 (bitsOp BinOp.and IntKind.i64 (Int.fdiv v ((2 : Int) ^ min (16 : Nat) (IntKind.bits IntKind.i64))) (255 : Int)))),
                                                UInt8.ofNat (Int.toNat (IntKind.wrap IntKind.u8 (bitsOp BinOp.and IntKind.i64 (Int.fdiv v ((2 : Int) ^ min (8 : Nat) (IntKind.bits IntKind.i64))) (255 : Int)))),
                                                UInt8.ofNat (Int.toNat (IntKind.wrap IntKind.u8 (bitsOp BinOp.and IntKind.i64 v (255 : Int))))])
                                            false],
                                        [RV.any]))
                                    (Tree.ite (decide ((↑(List.length l) : Int) > (65535 : Int))) (Tree.leaf ([tL (0 : Nat) [] true], [RV.any]))
                                      (Tree.req ((0 : Int) ≤ (8 : Int))
                                        (Tree.req
                                          (((0 : Int) ≤ IntKind.wrap IntKind.u8 (Int.fdiv (↑(List.length l) : Int) ((2 : Int) ^ min (8 : Nat) (IntKind.bits IntKind.i64))) ∧
                                              IntKind.wrap IntKind.u8 (Int.fdiv (↑(List.length l) : Int) ((2 : Int) ^ min (8 : Nat) (IntKind.bits IntKind.i64))) < (256 : LT.den kindA (LT.int IntKind.u8))) ∧
                                            ((0 : Int) ≤ IntKind.wrap IntKind.u8 (bitsOp BinOp.and IntKind.i64 (↑(List.length l) : Int) (255 : Int)) ∧ IntKind.wrap IntKind.u8 (bitsOp BinOp.and IntKind.i64 (↑(List.length l) : Int) (255 : Int)) < (256 : LT.den kindA (LT.int IntKind.u8))) ∧ True)
                                          (Tree.req
                                            ((List.length
                                                    ([UInt8.ofNat (Int.toNat (IntKind.wrap IntKind.u8 k))] ++ [UInt8.ofNat (Int.toNat (IntKind.wrap IntKind.u8 e))] ++
                                                      [UInt8.ofNat (Int.toNat (IntKind.wrap IntKind.u8 (Int.fdiv v ((2 : Int) ^ min (24 : Nat) (IntKind.bits IntKind.i64))))),
                                                        UInt8.ofNat (Int.toNat (IntKind.wrap IntKind.u8 (bitsOp BinOp.and IntKind.i64 (Int.fdiv v ((2 : Int) ^ min (16 : Nat) (IntKind.bits IntKind.i64))) (255 : Int)))),
                                                        UInt8.ofNat (Int.toNat (IntKind.wrap IntKind.u8 (bitsOp BinOp.and IntKind.i64 (Int.fdiv v ((2 : Int) ^ min (8 : Nat) (IntKind.bits IntKind.i64))) (255 : Int)))),
                                                        UInt8.ofNat (Int.toNat (IntKind.wrap IntKind.u8 (bitsOp BinOp.and IntKind.i64 v (255 : Int))))]) +
                                                  List.length
                                                    [UInt8.ofNat (Int.toNat (IntKind.wrap IntKind.u8 (Int.fdiv (↑(List.length l) : Int) ((2 : Int) ^ min (8 : Nat) (IntKind.bits IntKind.i64))))),
                                                      UInt8.ofNat (Int.toNat (IntKind.wrap IntKind.u8 (bitsOp BinOp.and IntKind.i64 (↑(List.length l) : Int) (255 : Int))))]) *
                                                (1 : Nat) ≤
                                              (140737488355328 : Nat))
                                            (Tree.req
                                              ((0 : Int) ≤ (0 : Int) ∧
                                                (0 : Int) ≤ (↑(List.length l) : Int) ∧
                                                  List.length l ≤ (65535 : Nat) ∧
                                                    room
                                                      (List.length
                                                          ([UInt8.ofNat (Int.toNat (IntKind.wrap IntKind.u8 k))] ++ [UInt8.ofNat (Int.toNat (IntKind.wrap IntKind.u8 e))] ++
                                                              [UInt8.ofNat (Int.toNat (IntKind.wrap IntKind.u8 (Int.fdiv v ((2 : Int) ^ min (24 : Nat) (IntKind.bits IntKind.i64))))),
                                                                UInt8.ofNat (Int.toNat (IntKind.wrap IntKind.u8 (bitsOp BinOp.and IntKind.i64 (Int.fdiv v ((2 : Int) ^ min (16 : Nat) (IntKind.bits IntKind.i64))) (255 : Int)))),
                                                                UInt8.ofNat (Int.toNat (IntKind.wrap IntKind.u8 (bitsOp BinOp.and IntKind.i64 (Int.fdiv v ((2 : Int) ^ min (8 : Nat) (IntKind.bits IntKind.i64))) (255 : Int)))),
                                                                UInt8.ofNat (Int.toNat (IntKind.wrap IntKind.u8 (bitsOp BinOp.and IntKind.i64 v (255 : Int))))] ++
                                                            [UInt8.ofNat (Int.toNat (IntKind.wrap IntKind.u8 (Int.fdiv (↑(List.length l) : Int) ((2 : Int) ^ min (8 : Nat) (IntKind.bits IntKind.i64))))),
                                                              UInt8.ofNat (Int.toNat (IntKind.wrap IntKind.u8 (bitsOp BinOp.and IntKind.i64 (↑(List.length l) : Int) (255 : Int))))]) +
                                                        (462 : Nat) * (List.length l - (0 : Nat))))
                                              (Tree.ite
                                                (Prod.snd
                                                  (dCells
                                                    ([UInt8.ofNat (Int.toNat (IntKind.wrap IntKind.u8 k))] ++ [UInt8.ofNat (Int.toNat (IntKind.wrap IntKind.u8 e))] ++
                                                        [UInt8.ofNat (Int.toNat (IntKind.wrap IntKind.u8 (Int.fdiv v ((2 : Int) ^ min (24 : Nat) (IntKind.bits IntKind.i64))))),
                                                          UInt8.ofNat (Int.toNat (IntKind.wrap IntKind.u8 (bitsOp BinOp.and IntKind.i64 (Int.fdiv v ((2 : Int) ^ min (16 : Nat) (IntKind.bits IntKind.i64))) (255 : Int)))),
                                                          UInt8.ofNat (Int.toNat (IntKind.wrap IntKind.u8 (bitsOp BinOp.and IntKind.i64 (Int.fdiv v ((2 : Int) ^ min (8 : Nat) (IntKind.bits IntKind.i64))) (255 : Int)))),
                                                          UInt8.ofNat (Int.toNat (IntKind.wrap IntKind.u8 (bitsOp BinOp.and IntKind.i64 v (255 : Int))))] ++
                                                      [UInt8.ofNat (Int.toNat (IntKind.wrap IntKind.u8 (Int.fdiv (↑(List.length l) : Int) ((2 : Int) ^ min (8 : Nat) (IntKind.bits IntKind.i64))))),
                                                        UInt8.ofNat (Int.toNat (IntKind.wrap IntKind.u8 (bitsOp BinOp.and IntKind.i64 (↑(List.length l) : Int) (255 : Int))))])
                                                    (List.drop (0 : Nat) l)))
                                                (Tree.leaf
                                                  ([tL (0 : Nat)
                                                        (Prod.fst
                                                          (dCells
                                                            ([UInt8.ofNat (Int.toNat (IntKind.wrap IntKind.u8 k))] ++ [UInt8.ofNat (Int.toNat (IntKind.wrap IntKind.u8 e))] ++
                                                                [UInt8.ofNat (Int.toNat (IntKind.wrap IntKind.u8 (Int.fdiv v ((2 : Int) ^ min (24 : Nat) (IntKind.bits IntKind.i64))))),
                                                                  UInt8.ofNat (Int.toNat (IntKind.wrap IntKind.u8 (bitsOp BinOp.and IntKind.i64 (Int.fdiv v ((2 : Int) ^ min (16 : Nat) (IntKind.bits IntKind.i64))) (255 : Int)))),
                                                                  UInt8.ofNat (Int.toNat (IntKind.wrap IntKind.u8 (bitsOp BinOp.and IntKind.i64 (Int.fdiv v ((2 : Int) ^ min (8 : Nat) (IntKind.bits IntKind.i64))) (255 : Int)))),
                                                                  UInt8.ofNat (Int.toNat (IntKind.wrap IntKind.u8 (bitsOp BinOp.and IntKind.i64 v (255 : Int))))] ++
                                                              [UInt8.ofNat (Int.toNat (IntKind.wrap IntKind.u8 (Int.fdiv (↑(List.length l) : Int) ((2 : Int) ^ min (8 : Nat) (IntKind.bits IntKind.i64))))),
                                                                UInt8.ofNat (Int.toNat (IntKind.wrap IntKind.u8 (bitsOp BinOp.and IntKind.i64 (↑(List.length l) : Int) (255 : Int))))])
                                                            (List.drop (0 : Nat) l)))
                                                        false],
                                                    [RV.any]))
                                                (Tree.leaf ([tL (0 : Nat) [] true], [RV.any])))))))))
                                  (Tree.ite (decide ((↑(List.length l) : Int) > (65535 : Int))) (Tree.leaf ([tL (0 : Nat) [] true], [RV.any]))
                                    (Tree.req ((0 : Int) ≤ (8 : Int))
                                      (Tree.req
                                        (((0 : Int) ≤ IntKind.wrap IntKind.u8 (Int.fdiv (↑(List.length l) : Int) ((2 : Int) ^ min (8 : Nat) (IntKind.bits IntKind.i64))) ∧
                                            IntKind.wrap IntKind.u8 (Int.fdiv (↑(List.length l) : Int) ((2 : Int) ^ min (8 : Nat) (IntKind.bits IntKind.i64))) < (256 : LT.den kindA (LT.int IntKind.u8))) ∧
                                          ((0 : Int) ≤ IntKind.wrap IntKind.u8 (bitsOp BinOp.and IntKind.i64 (↑(List.length l) : Int) (255 : Int)) ∧ IntKind.wrap IntKind.u8 (bitsOp BinOp.and IntKind.i64 (↑(List.length l) : Int) (255 : Int)) < (256 : LT.den kindA (LT.int IntKind.u8))) ∧ True)
                                        (Tree.req
                                          ((List.length
                                                  ([UInt8.ofNat (Int.toNat (IntKind.wrap IntKind.u8 k))] ++ [UInt8.ofNat (Int.toNat (IntKind.wrap IntKind.u8 e))] ++
                                                    [UInt8.ofNat (Int.toNat (IntKind.wrap IntKind.u8 (Int.fdiv v ((2 : Int) ^ min (24 : Nat) (IntKind.bits IntKind.i64))))),
                                                      UInt8.ofNat (Int.toNat (IntKind.wrap IntKind.u8 (bitsOp BinOp.and IntKind.i64 (Int.fdiv v ((2 : Int) ^ min (16 : Nat) (IntKind.bits IntKind.i64))) (255 : Int)))),
                                                      UInt8.ofNat (Int.toNat (IntKind.wrap IntKind.u8 (bitsOp BinOp.and IntKind.i64 (Int.fdiv v ((2 : Int) ^ min (8 : Nat) (IntKind.bits IntKind.i64))) (255 : Int)))),
                                                      UInt8.ofNat (Int.toNat (IntKind.wrap IntKind.u8 (bitsOp BinOp.and IntKind.i64 v (255 : Int))))]) +
                                                List.length
                                                  [UInt8.ofNat (Int.toNat (IntKind.wrap IntKind.u8 (Int.fdiv (↑(List.length l) : Int) ((2 : Int) ^ min (8 : Nat) (IntKind.bits IntKind.i64))))),
                                                    UInt8.ofNat (Int.toNat (IntKind.wrap IntKind.u8 (bitsOp BinOp.and IntKind.i64 (↑(List.length l) : Int) (255 : Int))))]) *
                                              (1 : Nat) ≤
                                            (140737488355328 : Nat))
                                          (Tree.req
                                            ((0 : Int) ≤ (0 : Int) ∧
                                              (0 : Int) ≤ (↑(List.length l) : Int) ∧
                                                List.length l ≤ (65535 : Nat) ∧
                                                  room
                                                    (List.length
                                                        ([UInt8.ofNat (Int.toNat (IntKind.wrap IntKind.u8 k))] ++ [UInt8.ofNat (Int.toNat (IntKind.wrap IntKind.u8 e))] ++
                                                            [UInt8.ofNat (Int.toNat (IntKind.wrap IntKind.u8 (Int.fdiv v ((2 : Int) ^ min (24 : Nat) (IntKind.bits IntKind.i64))))),
                                                              UInt8.ofNat (Int.toNat (IntKind.wrap IntKind.u8 (bitsOp BinOp.and IntKind.i64 (Int.fdiv v ((2 : Int) ^ min (16 : Nat) (IntKind.bits IntKind.i64))) (255 : Int)))),
                                                              UInt8.ofNat (Int.toNat (IntKind.wrap IntKind.u8 (bitsOp BinOp.and IntKind.i64 (Int.fdiv v ((2 : Int) ^ min (8 : Nat) (IntKind.bits IntKind.i64))) (255 : Int)))),
                                                              UInt8.ofNat (Int.toNat (IntKind.wrap IntKind.u8 (bitsOp BinOp.and IntKind.i64 v (255 : Int))))] ++
                                                          [UInt8.ofNat (Int.toNat (IntKind.wrap IntKind.u8 (Int.fdiv (↑(List.length l) : Int) ((2 : Int) ^ min (8 : Nat) (IntKind.bits IntKind.i64))))),
                                                            UInt8.ofNat (Int.toNat (IntKind.wrap IntKind.u8 (bitsOp BinOp.and IntKind.i64 (↑(List.length l) : Int) (255 : Int))))]) +
                                                      (462 : Nat) * (List.length l - (0 : Nat))))
                                            (Tree.ite
                                              (Prod.snd
                                                (dCells
                                                  ([UInt8.ofNat (Int.toNat (IntKind.wrap IntKind.u8 k))] ++ [UInt8.ofNat (Int.toNat (IntKind.wrap IntKind.u8 e))] ++
                                                      [UInt8.ofNat (Int.toNat (IntKind.wrap IntKind.u8 (Int.fdiv v ((2 : Int) ^ min (24 : Nat) (IntKind.bits IntKind.i64))))),
                                                        UInt8.ofNat (Int.toNat (IntKind.wrap IntKind.u8 (bitsOp BinOp.and IntKind.i64 (Int.fdiv v ((2 : Int) ^ min (16 : Nat) (IntKind.bits IntKind.i64))) (255 : Int)))),
                                                        UInt8.ofNat (Int.toNat (IntKind.wrap IntKind.u8 (bitsOp BinOp.and IntKind.i64 (Int.fdiv v ((2 : Int) ^ min (8 : Nat) (IntKind.bits IntKind.i64))) (255 : Int)))),
                                                        UInt8.ofNat (Int.toNat (IntKind.wrap IntKind.u8 (bitsOp BinOp.and IntKind.i64 v (255 : Int))))] ++
                                                    [UInt8.ofNat (Int.toNat (IntKind.wrap IntKind.u8 (Int.fdiv (↑(List.length l) : Int) ((2 : Int) ^ min (8 : Nat) (IntKind.bits IntKind.i64))))),
                                                      UInt8.ofNat (Int.toNat (IntKind.wrap IntKind.u8 (bitsOp BinOp.and IntKind.i64 (↑(List.length l) : Int) (255 : Int))))])
                                                  (List.drop (0 : Nat) l)))
                                              (Tree.leaf
                                                ([tL (0 : Nat)
                                                      (Prod.fst
                                                        (dCells
                                                          ([UInt8.ofNat (Int.toNat (IntKind.wrap IntKind.u8 k))] ++ [UInt8.ofNat (Int.toNat (IntKind.wrap IntKind.u8 e))] ++
                                                              [UInt8.ofNat (Int.toNat (IntKind.wrap IntKind.u8 (Int.fdiv v ((2 : Int) ^ min (24 : Nat) (IntKind.bits IntKind.i64))))),
                                                                UInt8.ofNat (Int.toNat (IntKind.wrap IntKind.u8 (bitsOp BinOp.and IntKind.i64 (Int.fdiv v ((2 : Int) ^ min (16 : Nat) (IntKind.bits IntKind.i64))) (255 : Int)))),
                                                                UInt8.ofNat (Int.toNat (IntKind.wrap IntKind.u8 (bitsOp BinOp.and IntKind.i64 (Int.fdiv v ((2 : Int) ^ min (8 : Nat) (IntKind.bits IntKind.i64))) (255 : Int)))),
                                                                UInt8.ofNat (Int.toNat (IntKind.wrap IntKind.u8 (bitsOp BinOp.and IntKind.i64 v (255 : Int))))] ++
                                                            [UInt8.ofNat (Int.toNat (IntKind.wrap IntKind.u8 (Int.fdiv (↑(List.length l) : Int) ((2 : Int) ^ min (8 : Nat) (IntKind.bits IntKind.i64))))),
                                                              UInt8.ofNat (Int.toNat (IntKind.wrap IntKind.u8 (bitsOp BinOp.and IntKind.i64 (↑(List.length l) : Int) (255 : Int))))])
                                                          (List.drop (0 : Nat) l)))
                                                      false],
                                                  [RV.any]))
                                              (Tree.leaf ([tL (0 : Nat) [] true], [RV.any]))))))))))))))))
                  (Tree.req ((0 : Int) ≤ (24 : Int))
                    (Tree.req ((0 : Int) ≤ (16 : Int))
                      (Tree.req ((0 : Int) ≤ (8 : Int))
                        (Tree.req
                          (((0 : Int) ≤ IntKind.wrap IntKind.u8 (Int.fdiv v ((2 : Int) ^ min (24 : Nat) (IntKind.bits IntKind.i64))) ∧ IntKind.wrap IntKind.u8 (Int.fdiv v ((2 : Int) ^ min (24 : Nat) (IntKind.bits IntKind.i64))) < (256 : LT.den kindA (LT.int IntKind.u8))) ∧
                            ((0 : Int) ≤ IntKind.wrap IntKind.u8 (bitsOp BinOp.and IntKind.i64 (Int.fdiv v ((2 : Int) ^ min (16 : Nat) (IntKind.bits IntKind.i64))) (255 : Int)) ∧
                                IntKind.wrap IntKind.u8 (bitsOp BinOp.and IntKind.i64 (Int.fdiv v ((2 : Int) ^ min (16 : Nat) (IntKind.bits IntKind.i64))) (255 : Int)) < (256 : LT.den kindA (LT.int IntKind.u8))) ∧
                              ((0 : Int) ≤ IntKind.wrap IntKind.u8 (bitsOp BinOp.and IntKind.i64 (Int.fdiv v ((2 : Int) ^ min (8 : Nat) (IntKind.bits IntKind.i64))) (255 : Int)) ∧
                                  IntKind.wrap IntKind.u8 (bitsOp BinOp.and IntKind.i64 (Int.fdiv v ((2 : Int) ^ min (8 : Nat) (IntKind.bits IntKind.i64))) (255 : Int)) < (256 : LT.den kindA (LT.int IntKind.u8))) ∧
                                ((0 : Int) ≤ IntKind.wrap IntKind.u8 (bitsOp BinOp.and IntKind.i64 v (255 : Int)) ∧ IntKind.wrap IntKind.u8 (bitsOp BinOp.and IntKind.i64 v (255 : Int)) < (256 : LT.den kindA (LT.int IntKind.u8))) ∧ True)
                          (Tree.req
                            ((List.length [UInt8.ofNat (Int.toNat (IntKind.wrap IntKind.u8 k))] +
                                  List.length
                                    [UInt8.ofNat (Int.toNat (IntKind.wrap IntKind.u8 (Int.fdiv v ((2 : Int) ^ min (24 : Nat) (IntKind.bits IntKind.i64))))),
                                      UInt8.ofNat (Int.toNat (IntKind.wrap IntKind.u8 (bitsOp BinOp.and IntKind.i64 (Int.fdiv v ((2 : Int) ^ min (16 : Nat) (IntKind.bits IntKind.i64))) (255 : Int)))),
                                      UInt8.ofNat (Int.toNat (IntKind.wrap IntKind.u8 (bitsOp BinOp.and IntKind.i64 (Int.fdiv v ((2 : Int) ^ min (8 : Nat) (IntKind.bits IntKind.i64))) (255 : Int)))), UInt8.ofNat (Int.toNat (IntKind.wrap IntKind.u8 (bitsOp BinOp.and IntKind.i64 v (255 : Int))))]) *
                                (1 : Nat) ≤
                              (140737488355328 : Nat))
                            (Tree.ite (k != (2 : Int))
                              (Tree.ite (k != (3 : Int))
                                (Tree.leaf
                                  ([tL (0 : Nat)
                                        ([UInt8.ofNat (Int.toNat (IntKind.wrap IntKind.u8 k))] ++
                                          [UInt8.ofNat (Int.toNat (IntKind.wrap IntKind.u8 (Int.fdiv v ((2 : Int) ^ min (24 : Nat) (IntKind.bits IntKind.i64))))),
                                            UInt8.ofNat (Int.toNat (IntKind.wrap IntKind.u8 (bitsOp BinOp.and IntKind.i64 (Int.fdiv v ((2 : Int) ^ min (16 : Nat) (IntKind.bits IntKind.i64))) (255 : Int)))),
                                            UInt8.ofNat (Int.toNat (IntKind.wrap IntKind.u8 (bitsOp BinOp.and IntKind.i64 (Int.fdiv v ((2 : Int) ^ min (8 : Nat) (IntKind.bits IntKind.i64))) (255 : Int)))),
                                            UInt8.ofNat (Int.toNat (IntKind.wrap IntKind.u8 (bitsOp BinOp.and IntKind.i64 v (255 : Int))))])
                                        false],
                                    [RV.any]))
                                (Tree.ite (decide ((↑(List.length l) : Int) > (65535 : Int))) (Tree.leaf ([tL (0 : Nat) [] true], [RV.any]))
                                  (Tree.req ((0 : Int) ≤ (8 : Int))
                                    (Tree.req
                                      (((0 : Int) ≤ IntKind.wrap IntKind.u8 (Int.fdiv (↑(List.length l) : Int) ((2 : Int) ^ min (8 : Nat) (IntKind.bits IntKind.i64))) ∧
                                          IntKind.wrap IntKind.u8 (Int.fdiv (↑(List.length l) : Int) ((2 : Int) ^ min (8 : Nat) (IntKind.bits IntKind.i64))) < (256 : LT.den kindA (LT.int IntKind.u8))) ∧
                                        ((0 : Int) ≤ IntKind.wrap IntKind.u8 (bitsOp BinOp.and IntKind.i64 (↑(List.length l) : Int) (255 : Int)) ∧ IntKind.wrap IntKind.u8 (bitsOp BinOp.and IntKind.i64 (↑(List.length l) : Int) (255 : Int)) < (256 : LT.den kindA (LT.int IntKind.u8))) ∧ True)
                                      (Tree.req
                                        ((List.length
                                                ([UInt8.ofNat (Int.toNat (IntKind.wrap IntKind.u8 k))] ++
                                                  [UInt8.ofNat (Int.toNat (IntKind.wrap IntKind.u8 (Int.fdiv v ((2 : Int) ^ min (24 : Nat) (IntKind.bits IntKind.i64))))),
                                                    UInt8.ofNat (Int.toNat (IntKind.wrap IntKind.u8 (bitsOp BinOp.and IntKind.i64 (Int.fdiv v ((2 : Int) ^ min (16 : Nat) (IntKind.bits IntKind.i64))) (255 : Int)))),
                                                    UInt8.ofNat (Int.toNat (IntKind.wrap IntKind.u8 (bitsOp BinOp.and IntKind.i64 (Int.fdiv v ((2 : Int) ^ min (8 : Nat) (IntKind.bits IntKind.i64))) (255 : Int)))),
                                                    UInt8.ofNat (Int.toNat (IntKind.wrap IntKind.u8 (bitsOp BinOp.and IntKind.i64 v (255 : Int))))]) +
                                              List.length
                                                [UInt8.ofNat (Int.toNat (IntKind.wrap IntKind.u8 (Int.fdiv (↑(List.length l) : Int) ((2 : Int) ^ min (8 : Nat) (IntKind.bits IntKind.i64))))),
                                                  UInt8.ofNat (Int.toNat (IntKind.wrap IntKind.u8 (bitsOp BinOp.and IntKind.i64 (↑(List.length l) : Int) (255 : Int))))]) *
                                            (1 : Nat) ≤
                                          (140737488355328 : Nat))
                                        (Tree.req
                                          ((0 : Int) ≤ (0 : Int) ∧
                                            (0 : Int) ≤ (↑(List.length l) : Int) ∧
                                              List.length l ≤ (65535 : Nat) ∧
                                                room
                                                  (List.length
                                                      ([UInt8.ofNat (Int.toNat (IntKind.wrap IntKind.u8 k))] ++
                                                          [UInt8.ofNat (Int.toNat (IntKind.wrap IntKind.u8 (Int.fdiv v ((2 : Int) ^ min (24 : Nat) (IntKind.bits IntKind.i64))))),
                                                            UInt8.ofNat (Int.toNat (IntKind.wrap IntKind.u8 (bitsOp BinOp.and IntKind.i64 (Int.fdiv v ((2 : Int) ^ min (16 : Nat) (IntKind.bits IntKind.i64))) (255 : Int)))),
                                                            UInt8.ofNat (Int.toNat (IntKind.wrap IntKind.u8 (bitsOp BinOp.and IntKind.i64 (Int.fdiv v ((2 : Int) ^ min (8 : Nat) (IntKind.bits IntKind.i64))) (255 : Int)))),
                                                            UInt8.ofNat (Int.toNat (IntKind.wrap IntKind.u8 (bitsOp BinOp.and IntKind.i64 v (255 : Int))))] ++
                                                        [UInt8.ofNat (Int.toNat (IntKind.wrap IntKind.u8 (Int.fdiv (↑(List.length l) : Int) ((2 : Int) ^ min (8 : Nat) (IntKind.bits IntKind.i64))))),
                                                          UInt8.ofNat (Int.toNat (IntKind.wrap IntKind.u8 (bitsOp BinOp.and IntKind.i64 (↑(List.length l) : Int) (255 : Int))))]) +
                                                    (462 : Nat) * (List.length l - (0 : Nat))))
                                          (Tree.ite
                                            (Prod.snd
                                              (dCells
                                                ([UInt8.ofNat (Int.toNat (IntKind.wrap IntKind.u8 k))] ++
                                                    [UInt8.ofNat (Int.toNat (IntKind.wrap IntKind.u8 (Int.fdiv v ((2 : Int) ^ min (24 : Nat) (IntKind.bits IntKind.i64))))),
                                                      UInt8.ofNat (Int.toNat (IntKind.wrap IntKind.u8 (bitsOp BinOp.and IntKind.i64 (Int.fdiv v ((2 : Int) ^ min (16 : Nat) (IntKind.bits IntKind.i64))) (255 : Int)))),
                                                      UInt8.ofNat (Int.toNat (IntKind.wrap IntKind.u8 (bitsOp BinOp.and IntKind.i64 (Int.fdiv v ((2 : Int) ^ min (8 : Nat) (IntKind.bits IntKind.i64))) (255 : Int)))),
                                                      UInt8.ofNat (Int.toNat (IntKind.wrap IntKind.u8 (bitsOp BinOp.and IntKind.i64 v (255 : Int))))] ++
                                                  [UInt8.ofNat (Int.toNat (IntKind.wrap IntKind.u8 (Int.fdiv (↑(List.length l) : Int) ((2 : Int) ^ min (8 : Nat) (IntKind.bits IntKind.i64))))),
                                                    UInt8.ofNat (Int.toNat (IntKind.wrap IntKind.u8 (bitsOp BinOp.and IntKind.i64 (↑(List.length l) : Int) (255 : Int))))])
                                                (List.drop (0 : Nat) l)))
                                            (Tree.leaf
                                              ([tL (0 : Nat)
                                                    (Prod.fst
                                                      (dCells
                                                        ([UInt8.ofNat (Int.toNat (IntKind.wrap IntKind.u8 k))] ++
                                                            [UInt8.ofNat (Int.toNat (IntKind.wrap IntKind.u8 (Int.fdiv v ((2 : Int) ^ min (24 : Nat) (IntKind.bits IntKind.i64))))),
                                                              UInt8.ofNat (Int.toNat (IntKind.wrap IntKind.u8 (bitsOp BinOp.and IntKind.i64 (Int.fdiv v ((2 : Int) ^ min (16 : Nat) (IntKind.bits IntKind.i64))) (255 : Int)))),
                                                              UInt8.ofNat (Int.toNat (IntKind.wrap IntKind.u8 (bitsOp BinOp.and IntKind.i64 (Int.fdiv v ((2 : Int) ^ min (8 : Nat) (IntKind.bits IntKind.i64))) (255 : Int)))),
                                                              UInt8.ofNat (Int.toNat (IntKind.wrap IntKind.u8 (bitsOp BinOp.and IntKind.i64 v (255 : Int))))] ++
                                                          [UInt8.ofNat (Int.toNat (IntKind.wrap IntKind.u8 (Int.fdiv (↑(List.length l) : Int) ((2 : Int) ^ min (8 : Nat) (IntKind.bits IntKind.i64))))),
                                                            UInt8.ofNat (Int.toNat (IntKind.wrap IntKind.u8 (bitsOp BinOp.and IntKind.i64 (↑(List.length l) : Int) (255 : Int))))])
                                                        (List.drop (0 : Nat) l)))
                                                    false],
                                                [RV.any]))
                                            (Tree.leaf ([tL (0 : Nat) [] true], [RV.any])))))))))
                              (Tree.ite (decide ((↑(List.length l) : Int) > (65535 : Int))) (Tree.leaf ([tL (0 : Nat) [] true], [RV.any]))
                                (Tree.req ((0 : Int) ≤ (8 : Int))
                                  (Tree.req
                                    (((0 : Int) ≤ IntKind.wrap IntKind.u8 (Int.fdiv (↑(List.length l) : Int) ((2 : Int) ^ min (8 : Nat) (IntKind.bits IntKind.i64))) ∧
                                        IntKind.wrap IntKind.u8 (Int.fdiv (↑(List.length l) : Int) ((2 : Int) ^ min (8 : Nat) (IntKind.bits IntKind.i64))) < (256 : LT.den kindA (LT.int IntKind.u8))) ∧
                                      ((0 : Int) ≤ IntKind.wrap IntKind.u8 (bitsOp BinOp.and IntKind.i64 (↑(List.length l) : Int) (255 : Int)) ∧ IntKind.wrap IntKind.u8 (bitsOp BinOp.and IntKind.i64 (↑(List.length l) : Int) (255 : Int)) < (256 : LT.den kindA (LT.int IntKind.u8))) ∧ True)
                                    (Tree.req
                                      ((List.length
                                              ([UInt8.ofNat (Int.toNat (IntKind.wrap IntKind.u8 k))] ++
                                                [UInt8.ofNat (Int.toNat (IntKind.wrap IntKind.u8 (Int.fdiv v ((2 : Int) ^ min (24 : Nat) (IntKind.bits IntKind.i64))))),
                                                  UInt8.ofNat (Int.toNat (IntKind.wrap IntKind.u8 (bitsOp BinOp.and IntKind.i64 (Int.fdiv v ((2 : Int) ^ min (16 : Nat) (IntKind.bits IntKind.i64))) (255 : Int)))),
                                                  UInt8.ofNat (Int.toNat (IntKind.wrap IntKind.u8 (bitsOp BinOp.and IntKind.i64 (Int.fdiv v ((2 : Int) ^ min (8 : Nat) (IntKind.bits IntKind.i64))) (255 : Int)))),
                                                  UInt8.ofNat (Int.toNat (IntKind.wrap IntKind.u8 (bitsOp BinOp.and IntKind.i64 v (255 : Int))))]) +
                                            List.length
                                              [UInt8.ofNat (Int.toNat (IntKind.wrap IntKind.u8 (Int.fdiv (↑(List.length l) : Int) ((2 : Int) ^ min (8 : Nat) (IntKind.bits IntKind.i64))))),
                                                UInt8.ofNat (Int.toNat (IntKind.wrap IntKind.u8 (bitsOp BinOp.and IntKind.i64 (↑(List.length l) : Int) (255 : Int))))]) *
                                          (1 : Nat) ≤
                                        (140737488355328 : Nat))
                                      (Tree.req
                                        ((0 : Int) ≤ (0 : Int) ∧
                                          (0 : Int) ≤ (↑(List.length l) : Int) ∧
                                            List.length l ≤ (65535 : Nat) ∧
                                              room
                                                (List.length
                                                    ([UInt8.ofNat (Int.toNat (IntKind.wrap IntKind.u8 k))] ++
                                                        [UInt8.ofNat (Int.toNat (IntKind.wrap IntKind.u8 (Int.fdiv v ((2 : Int) ^ min (24 : Nat) (IntKind.bits IntKind.i64))))),
                                                          UInt8.ofNat (Int.toNat (IntKind.wrap IntKind.u8 (bitsOp BinOp.and IntKind.i64 (Int.fdiv v ((2 : Int) ^ min (16 : Nat) (IntKind.bits IntKind.i64))) (255 : Int)))),
                                                          UInt8.ofNat (Int.toNat (IntKind.wrap IntKind.u8 (bitsOp BinOp.and IntKind.i64 (Int.fdiv v ((2 : Int) ^ min (8 : Nat) (IntKind.bits IntKind.i64))) (255 : Int)))),
                                                          UInt8.ofNat (Int.toNat (IntKind.wrap IntKind.u8 (bitsOp BinOp.and IntKind.i64 v (255 : Int))))] ++
                                                      [UInt8.ofNat (Int.toNat (IntKind.wrap IntKind.u8 (Int.fdiv (↑(List.length l) : Int) ((2 : Int) ^ min (8 : Nat) (IntKind.bits IntKind.i64))))),
                                                        UInt8.ofNat (Int.toNat (IntKind.wrap IntKind.u8 (bitsOp BinOp.and IntKind.i64 (↑(List.length l) : Int) (255 : Int))))]) +
                                                  (462 : Nat) * (List.length l - (0 : Nat))))
                                        (Tree.ite
                                          (Prod.snd
                                            (dCells
                                              ([UInt8.ofNat (Int.toNat (IntKind.wrap IntKind.u8 k))] ++
                                                  [UInt8.ofNat (Int.toNat (IntKind.wrap IntKind.u8 (Int.fdiv v ((2 : Int) ^ min (24 : Nat) (IntKind.bits IntKind.i64))))),
                                                    UInt8.ofNat (Int.toNat (IntKind.wrap IntKind.u8 (bitsOp BinOp.and IntKind.i64 (Int.fdiv v ((2 : Int) ^ min (16 : Nat) (IntKind.bits IntKind.i64))) (255 : Int)))),
                                                    UInt8.ofNat (Int.toNat (IntKind.wrap IntKind.u8 (bitsOp BinOp.and IntKind.i64 (Int.fdiv v ((2 : Int) ^ min (8 : Nat) (IntKind.bits IntKind.i64))) (255 : Int)))),
                                                    UInt8.ofNat (Int.toNat (IntKind.wrap IntKind.u8 (bitsOp BinOp.and IntKind.i64 v (255 : Int))))] ++
                                                [UInt8.ofNat (Int.toNat (IntKind.wrap IntKind.u8 (Int.fdiv (↑(List.length l) : Int) ((2 : Int) ^ min (8 : Nat) (IntKind.bits IntKind.i64))))),
                                                  UInt8.ofNat (Int.toNat (IntKind.wrap IntKind.u8 (bitsOp BinOp.and IntKind.i64 (↑(List.length l) : Int) (255 : Int))))])
                                              (List.drop (0 : Nat) l)))
                                          (Tree.leaf
                                            ([tL (0 : Nat)
                                                  (Prod.fst
                                                    (dCells
                                                      ([UInt8.ofNat (Int.toNat (IntKind.wrap IntKind.u8 k))] ++
                                                          [UInt8.ofNat (Int.toNat (IntKind.wrap IntKind.u8 (Int.fdiv v ((2 : Int) ^ min (24 : Nat) (IntKind.bits IntKind.i64))))),
                                                            UInt8.ofNat (Int.toNat (IntKind.wrap IntKind.u8 (bitsOp BinOp.and IntKind.i64 (Int.fdiv v ((2 : Int) ^ min (16 : Nat) (IntKind.bits IntKind.i64))) (255 : Int)))),
                                                            UInt8.ofNat (Int.toNat (IntKind.wrap IntKind.u8 (bitsOp BinOp.and IntKind.i64 (Int.fdiv v ((2 : Int) ^ min (8 : Nat) (IntKind.bits IntKind.i64))) (255 : Int)))),
                                                            UInt8.ofNat (Int.toNat (IntKind.wrap IntKind.u8 (bitsOp BinOp.and IntKind.i64 v (255 : Int))))] ++
                                                        [UInt8.ofNat (Int.toNat (IntKind.wrap IntKind.u8 (Int.fdiv (↑(List.length l) : Int) ((2 : Int) ^ min (8 : Nat) (IntKind.bits IntKind.i64))))),
                                                          UInt8.ofNat (Int.toNat (IntKind.wrap IntKind.u8 (bitsOp BinOp.and IntKind.i64 (↑(List.length l) : Int) (255 : Int))))])
                                                      (List.drop (0 : Nat) l)))
                                                  false],
                                              [RV.any]))
                                          (Tree.leaf ([tL (0 : Nat) [] true], [RV.any]))))))))))))))))))
          (Tree.ite false (Tree.leaf ([tL (0 : Nat) [] true], [RV.any]))
            (Tree.req (((0 : Int) ≤ IntKind.wrap IntKind.u8 k ∧ IntKind.wrap IntKind.u8 k < (256 : LT.den kindA (LT.int IntKind.u8))) ∧ True)
              (Tree.ite (k == (1 : Int))
                (Tree.req (((0 : Int) ≤ IntKind.wrap IntKind.u8 e ∧ IntKind.wrap IntKind.u8 e < (256 : LT.den kindA (LT.int IntKind.u8))) ∧ True)
                  (Tree.req ((List.length [UInt8.ofNat (Int.toNat (IntKind.wrap IntKind.u8 k))] + List.length [UInt8.ofNat (Int.toNat (IntKind.wrap IntKind.u8 e))]) * (1 : Nat) ≤ (140737488355328 : Nat))
                    (Tree.req ((0 : Int) ≤ (24 : Int))
                      (Tree.req ((0 : Int) ≤ (16 : Int))
                        (Tree.req ((0 : Int) ≤ (8 : Int))
                          (Tree.req
                            (((0 : Int) ≤ IntKind.wrap IntKind.u8 (Int.fdiv v ((2 : Int) ^ min (24 : Nat) (IntKind.bits IntKind.i64))) ∧ IntKind.wrap IntKind.u8 (Int.fdiv v ((2 : Int) ^ min (24 : Nat) (IntKind.bits IntKind.i64))) < (256 : LT.den kindA (LT.int IntKind.u8))) ∧
                              ((0 : Int) ≤ IntKind.wrap IntKind.u8 (bitsOp BinOp.and IntKind.i64 (Int.fdiv v ((2 : Int) ^ min (16 : Nat) (IntKind.bits IntKind.i64))) (255 : Int)) ∧
                                  IntKind.wrap IntKind.u8 (bitsOp BinOp.and IntKind.i64 (Int.fdiv v ((2 : Int) ^ min (16 : Nat) (IntKind.bits IntKind.i64))) (255 : Int)) < (256 : LT.den kindA (LT.int IntKind.u8))) ∧
                                ((0 : Int) ≤ IntKind.wrap IntKind.u8 (bitsOp BinOp.and IntKind.i64 (Int.fdiv v ((2 : Int) ^ min (8 : Nat) (IntKind.bits IntKind.i64))) (255 : Int)) ∧
                                    IntKind.wrap IntKind.u8 (bitsOp BinOp.and IntKind.i64 (Int.fdiv v ((2 : Int) ^ min (8 : Nat) (IntKind.bits IntKind.i64))) (255 : Int)) < (256 : LT.den kindA (LT.int IntKind.u8))) ∧
                                  ((0 : Int) ≤ IntKind.wrap IntKind.u8 (bitsOp BinOp.and IntKind.i64 v (255 : Int)) ∧ IntKind.wrap IntKind.u8 (bitsOp BinOp.and IntKind.i64 v (255 : Int)) < (256 : LT.den kindA (LT.int IntKind.u8))) ∧ True)
                            (Tree.req
                              ((List.length ([UInt8.ofNat (Int.toNat (IntKind.wrap IntKind.u8 k))] ++ [UInt8.ofNat (Int.toNat (IntKind.wrap IntKind.u8 e))]) +
                                    List.length
                                      [UInt8.ofNat (Int.toNat (IntKind.wrap IntKind.u8 (Int.fdiv v ((2 : Int) ^ min (24 : Nat) (IntKind.bits IntKind.i64))))),
                                        UInt8.ofNat (Int.toNat (IntKind.wrap IntKind.u8 (bitsOp BinOp.and IntKind.i64 (Int.fdiv v ((2 : Int) ^ min (16 : Nat) (IntKind.bits IntKind.i64))) (255 : Int)))),
                                        UInt8.ofNat (Int.toNat (IntKind.wrap IntKind.u8 (bitsOp BinOp.and IntKind.i64 (Int.fdiv v ((2 : Int) ^ min (8 : Nat) (IntKind.bits IntKind.i64))) (255 : Int)))), UInt8.ofNat (Int.toNat (IntKind.wrap IntKind.u8 (bitsOp BinOp.and IntKind.i64 v (255 : Int))))]) *
                                  (1 : Nat) ≤
                                (140737488355328 : Nat))
                              (Tree.ite (k != (2 : Int))
                                (Tree.ite (k != (3 : Int))
                                  (Tree.leaf
                                    ([tL (0 : Nat)
                                          ([UInt8.ofNat (Int.toNat (IntKind.wrap IntKind.u8 k))] ++ [UInt8.ofNat (Int.toNat (IntKind.wrap IntKind.u8 e))] ++
                                            [UInt8.ofNat (Int.toNat (IntKind.wrap IntKind.u8 (Int.fdiv v ((2 : Int) ^ min (24 : Nat) (IntKind.bits IntKind.i64))))),
                                              UInt8.ofNat (Int.toNat (IntKind.wrap IntKind.u8 (bitsOp BinOp.and IntKind.i64 (Int.fdiv v ((2 : Int) ^ min (16 : Nat) (IntKind.bits IntKind.i64))) (255 : Int)))),
                                              UInt8.ofNat (Int.toNat (IntKind.wrap IntKind.u8 (bitsOp BinOp.and IntKind.i64 (Int.fdiv v ((2 : Int) ^ min (8 : Nat) (IntKind.bits IntKind.i64))) (255 : Int)))),
                                              UInt8.ofNat (Int.toNat (IntKind.wrap IntKind.u8 (bitsOp BinOp.and IntKind.i64 v (255 : Int))))])
                                          false],
                                      [RV.any]))
                                  (Tree.ite (decide ((↑(List.length l) : Int) > (65535 : Int))) (Tree.leaf ([tL (0 : Nat) [] true], [RV.any]))
                                    (Tree.req ((0 : Int) ≤ (8 : Int))
                                      (Tree.req
                                        (((0 : Int) ≤ IntKind.wrap IntKind.u8 (Int.fdiv (↑(List.length l) : Int) ((2 : Int) ^ min (8 : Nat) (IntKind.bits IntKind.i64))) ∧
                                            IntKind.wrap IntKind.u8 (Int.fdiv (↑(List.length l) : Int) ((2 : Int) ^ min (8 : Nat) (IntKind.bits IntKind.i64))) < (256 : LT.den kindA (LT.int IntKind.u8))) ∧
                                          ((0 : Int) ≤ IntKind.wrap IntKind.u8 (bitsOp BinOp.and IntKind.i64 (↑(List.length l) : Int) (255 : Int)) ∧ IntKind.wrap IntKind.u8 (bitsOp BinOp.and IntKind.i64 (↑(List.length l) : Int) (255 : Int)) < (256 : LT.den kindA (LT.int IntKind.u8))) ∧ True)
                                        (Tree.req
                                          ((List.length
                                                  ([UInt8.ofNat (Int.toNat (IntKind.wrap IntKind.u8 k))] ++ [UInt8.ofNat (Int.toNat (IntKind.wrap IntKind.u8 e))] ++
                                                    [UInt8.ofNat (Int.toNat (IntKind.wrap IntKind.u8 (Int.fdiv v ((2 : Int) ^ min (24 : Nat) (IntKind.bits IntKind.i64))))),
                                                      UInt8.ofNat (Int.toNat (IntKind.wrap IntKind.u8 (bitsOp BinOp.and IntKind.i64 (Int.fdiv v ((2 : Int) ^ min (16 : Nat) (IntKind.bits IntKind.i64))) (255 : Int)))),
                                                      UInt8.ofNat (Int.toNat (IntKind.wrap IntKind.u8 (bitsOp BinOp.and IntKind.i64 (Int.fdiv v ((2 : Int) ^ min (8 : Nat) (IntKind.bits IntKind.i64))) (255 : Int)))),
                                                      UInt8.ofNat (Int.toNat (IntKind.wrap IntKind.u8 (bitsOp BinOp.and IntKind.i64 v (255 : Int))))]) +
                                                List.length
                                                  [UInt8.ofNat (Int.toNat (IntKind.wrap IntKind.u8 (Int.fdiv (↑(List.length l) : Int) ((2 : Int) ^ min (8 : Nat) (IntKind.bits IntKind.i64))))),
                                                    UInt8.ofNat (Int.toNat (IntKind.wrap IntKind.u8 (bitsOp BinOp.and IntKind.i64 (↑(List.length l) : Int) (255 : Int))))]) *
                                              (1 : Nat) ≤
                                            (140737488355328 : Nat))
                                          (Tree.req
                                            ((0 : Int) ≤ (0 : Int) ∧
                                              (0 : Int) ≤ (↑(List.length l) : Int) ∧
                                                List.length l ≤ (65535 : Nat) ∧
                                                  room
                                                    (List.length
                                                        ([UInt8.ofNat (Int.toNat (IntKind.wrap IntKind.u8 k))] ++ [UInt8.ofNat (Int.toNat (IntKind.wrap IntKind.u8 e))] ++
                                                            [UInt8.ofNat (Int.toNat (IntKind.wrap IntKind.u8 (Int.fdiv v ((2 : Int) ^ min (24 : Nat) (IntKind.bits IntKind.i64))))),
                                                              UInt8.ofNat (Int.toNat (IntKind.wrap IntKind.u8 (bitsOp BinOp.and IntKind.i64 (Int.fdiv v ((2 : Int) ^ min (16 : Nat) (IntKind.bits IntKind.i64))) (255 : Int)))),
                                                              UInt8.ofNat (Int.toNat (IntKind.wrap IntKind.u8 (bitsOp BinOp.and IntKind.i64 (Int.fdiv v ((2 : Int) ^ min (8 : Nat) (IntKind.bits IntKind.i64))) (255 : Int)))),
                                                              UInt8.ofNat (Int.toNat (IntKind.wrap IntKind.u8 (bitsOp BinOp.and IntKind.i64 v (255 : Int))))] ++
                                                          [UInt8.ofNat (Int.toNat (IntKind.wrap IntKind.u8 (Int.fdiv (↑(List.length l) : Int) ((2 : Int) ^ min (8 : Nat) (IntKind.bits IntKind.i64))))),
                                                            UInt8.ofNat (Int.toNat (IntKind.wrap IntKind.u8 (bitsOp BinOp.and IntKind.i64 (↑(List.length l) : Int) (255 : Int))))]) +
                                                      (462 : Nat) * (List.length l - (0 : Nat))))
                                            (Tree.ite
                                              (Prod.snd
                                                (dCells
                                                  ([UInt8.ofNat (Int.toNat (IntKind.wrap IntKind.u8 k))] ++ [UInt8.ofNat (Int.toNat (IntKind.wrap IntKind.u8 e))] ++
                                                      [UInt8.ofNat (Int.toNat (IntKind.wrap IntKind.u8 (Int.fdiv v ((2 : Int) ^ min (24 : Nat) (IntKind.bits IntKind.i64))))),
                                                        UInt8.ofNat (Int.toNat (IntKind.wrap IntKind.u8 (bitsOp BinOp.and IntKind.i64 (Int.fdiv v ((2 : Int) ^ min (16 : Nat) (IntKind.bits IntKind.i64))) (255 : Int)))),
                                                        UInt8.ofNat (Int.toNat (IntKind.wrap IntKind.u8 (bitsOp BinOp.and IntKind.i64 (Int.fdiv v ((2 : Int) ^ min (8 : Nat) (IntKind.bits IntKind.i64))) (255 : Int)))),
                                                        UInt8.ofNat (Int.toNat (IntKind.wrap IntKind.u8 (bitsOp BinOp.and IntKind.i64 v (255 : Int))))] ++
                                                    [UInt8.ofNat (Int.toNat (IntKind.wrap IntKind.u8 (Int.fdiv (↑(List.length l) : Int) ((2 : Int) ^ min (8 : Nat) (IntKind.bits IntKind.i64))))),
                                                      UInt8.ofNat (Int.toNat (IntKind.wrap IntKind.u8 (bitsOp BinOp.and IntKind.i64 (↑(List.length l) : Int) (255 : Int))))])
                                                  (List.drop (0 : Nat) l)))
                                              (Tree.leaf
                                                ([tL (0 : Nat)
                                                      (Prod.fst
                                                        (dCells
                                                          ([UInt8.ofNat (Int.toNat (IntKind.wrap IntKind.u8 k))] ++ [UInt8.ofNat (Int.toNat (IntKind.wrap IntKind.u8 e))] ++
                                                              [UInt8.ofNat (Int.toNat (IntKind.wrap IntKind.u8 (Int.fdiv v ((2 : Int) ^ min (24 : Nat) (IntKind.bits IntKind.i64))))),
                                                                UInt8.ofNat (Int.toNat (IntKind.wrap IntKind.u8 (bitsOp BinOp.and IntKind.i64 (Int.fdiv v ((2 : Int) ^ min (16 : Nat) (IntKind.bits IntKind.i64))) (255 : Int)))),
                                                                UInt8.ofNat (Int.toNat (IntKind.wrap IntKind.u8 (bitsOp BinOp.and IntKind.i64 (Int.fdiv v ((2 : Int) ^ min (8 : Nat) (IntKind.bits IntKind.i64))) (255 : Int)))),
                                                                UInt8.ofNat (Int.toNat (IntKind.wrap IntKind.u8 (bitsOp BinOp.and IntKind.i64 v (255 : Int))))] ++
                                                            [UInt8.ofNat (Int.toNat (IntKind.wrap IntKind.u8 (Int.fdiv (↑(List.length l) : Int) ((2 : Int) ^ min (8 : Nat) (IntKind.bits IntKind.i64))))),
                                                              UInt8.ofNat (Int.toNat (IntKind.wrap IntKind.u8 (bitsOp BinOp.and IntKind.i64 (↑(List.length l) : Int) (255 : Int))))])
                                                          (List.drop (0 : Nat) l)))
                                                      false],
                                                  [RV.any]))
                                              (Tree.leaf ([tL (0 : Nat) [] true], [RV.any])))))))))
                                (Tree.ite (decide ((↑(List.length l) : Int) > (65535 : Int))) (Tree.leaf ([tL (0 : Nat) [] true], [RV.any]))
                                  (Tree.req ((0 : Int) ≤ (8 : Int))
                                    (Tree.req
                                      (((0 : Int) ≤ IntKind.wrap IntKind.u8 (Int.fdiv (↑(List.length l) : Int) ((2 : Int) ^ min (8 : Nat) (IntKind.bits IntKind.i64))) ∧
                                          IntKind.wrap IntKind.u8 (Int.fdiv (↑(List.length l) : Int) ((2 : Int) ^ min (8 : Nat) (IntKind.bits IntKind.i64))) < (256 : LT.den kindA (LT.int IntKind.u8))) ∧
                                        ((0 : Int) ≤ IntKind.wrap IntKind.u8 (bitsOp BinOp.and IntKind.i64 (↑(List.length l) : Int) (255 : Int)) ∧ IntKind.wrap IntKind.u8 (bitsOp BinOp.and IntKind.i64 (↑(List.length l) : Int) (255 : Int)) < (256 : LT.den kindA (LT.int IntKind.u8))) ∧ True)
                                      (Tree.req
                                        ((List.length
                                                ([UInt8.ofNat (Int.toNat (IntKind.wrap IntKind.u8 k))] ++ [UInt8.ofNat (Int.toNat (IntKind.wrap IntKind.u8 e))] ++
                                                  [UInt8.ofNat (Int.toNat (IntKind.wrap IntKind.u8 (Int.fdiv v ((2 : Int) ^ min (24 : Nat) (IntKind.bits IntKind.i64))))),
                                                    UInt8.ofNat (Int.toNat (IntKind.wrap IntKind.u8 (bitsOp BinOp.and IntKind.i64 (Int.fdiv v ((2 : Int) ^ min (16 : Nat) (IntKind.bits IntKind.i64))) (255 : Int)))),
                                                    UInt8.ofNat (Int.toNat (IntKind.wrap IntKind.u8 (bitsOp BinOp.and IntKind.i64 (Int.fdiv v ((2 : Int) ^ min (8 : Nat) (IntKind.bits IntKind.i64))) (255 : Int)))),
                                                    UInt8.ofNat (Int.toNat (IntKind.wrap IntKind.u8 (bitsOp BinOp.and IntKind.i64 v (255 : Int))))]) +
                                              List.length
                                                [UInt8.ofNat (Int.toNat (IntKind.wrap IntKind.u8 (Int.fdiv (↑(List.length l) : Int) ((2 : Int) ^ min (8 : Nat) (IntKind.bits IntKind.i64))))),
                                                  UInt8.ofNat (Int.toNat (IntKind.wrap IntKind.u8 (bitsOp BinOp.and IntKind.i64 (↑(List.length l) : Int) (255 : Int))))]) *
                                            (1 : Nat) ≤
                                          (140737488355328 : Nat))
                                        (Tree.req
                                          ((0 : Int) ≤ (0 : Int) ∧
                                            (0 : Int) ≤ (↑(List.length l) : Int) ∧
                                              List.length l ≤ (65535 : Nat) ∧
                                                room
                                                  (List.length
                                                      ([UInt8.ofNat (Int.toNat (IntKind.wrap IntKind.u8 k))] ++ [UInt8.ofNat (Int.toNat (IntKind.wrap IntKind.u8 e))] ++
                                                          [UInt8.ofNat (Int.toNat (IntKind.wrap IntKind.u8 (Int.fdiv v ((2 : Int) ^ min (24 : Nat) (IntKind.bits IntKind.i64))))),
                                                            UInt8.ofNat (Int.toNat (IntKind.wrap IntKind.u8 (bitsOp BinOp.and IntKind.i64 (Int.fdiv v ((2 : Int) ^ min (16 : Nat) (IntKind.bits IntKind.i64))) (255 : Int)))),
                                                            UInt8.ofNat (Int.toNat (IntKind.wrap IntKind.u8 (bitsOp BinOp.and IntKind.i64 (Int.fdiv v ((2 : Int) ^ min (8 : Nat) (IntKind.bits IntKind.i64))) (255 : Int)))),
                                                            UInt8.ofNat (Int.toNat (IntKind.wrap IntKind.u8 (bitsOp BinOp.and IntKind.i64 v (255 : Int))))] ++
                                                        [UInt8.ofNat (Int.toNat (IntKind.wrap IntKind.u8 (Int.fdiv (↑(List.length l) : Int) ((2 : Int) ^ min (8 : Nat) (IntKind.bits IntKind.i64))))),
                                                          UInt8.ofNat (Int.toNat (IntKind.wrap IntKind.u8 (bitsOp BinOp.and IntKind.i64 (↑(List.length l) : Int) (255 : Int))))]) +
                                                    (462 : Nat) * (List.length l - (0 : Nat))))
                                          (Tree.ite
                                            (Prod.snd
                                              (dCells
                                                ([UInt8.ofNat (Int.toNat (IntKind.wrap IntKind.u8 k))] ++ [UInt8.ofNat (Int.toNat (IntKind.wrap IntKind.u8 e))] ++
                                                    [UInt8.ofNat (Int.toNat (IntKind.wrap IntKind.u8 (Int.fdiv v ((2 : Int) ^ min (24 : Nat) (IntKind.bits IntKind.i64))))),
                                                      UInt8.ofNat (Int.toNat (IntKind.wrap IntKind.u8 (bitsOp BinOp.and IntKind.i64 (Int.fdiv v ((2 : Int) ^ min (16 : Nat) (IntKind.bits IntKind.i64))) (255 : Int)))),
                                                      UInt8.ofNat (Int.toNat (IntKind.wrap IntKind.u8 (bitsOp BinOp.and IntKind.i64 (Int.fdiv v ((2 : Int) ^ min (8 : Nat) (IntKind.bits IntKind.i64))) (255 : Int)))),
                                                      UInt8.ofNat (Int.toNat (IntKind.wrap IntKind.u8 (bitsOp BinOp.and IntKind.i64 v (255 : Int))))] ++
                                                  [UInt8.ofNat (Int.toNat (IntKind.wrap IntKind.u8 (Int.fdiv (↑(List.length l) : Int) ((2 : Int) ^ min (8 : Nat) (IntKind.bits IntKind.i64))))),
                                                    UInt8.ofNat (Int.toNat (IntKind.wrap IntKind.u8 (bitsOp BinOp.and IntKind.i64 (↑(List.length l) : Int) (255 : Int))))])
                                                (List.drop (0 : Nat) l)))
                                            (Tree.leaf
                                              ([tL (0 : Nat)
                                                    (Prod.fst
                                                      (dCells
                                                        ([UInt8.ofNat (Int.toNat (IntKind.wrap IntKind.u8 k))] ++ [UInt8.ofNat (Int.toNat (IntKind.wrap IntKind.u8 e))] ++
                                                            [UInt8.ofNat (Int.toNat (IntKind.wrap IntKind.u8 (Int.fdiv v ((2 : Int) ^ min (24 : Nat) (IntKind.bits IntKind.i64))))),
                                                              UInt8.ofNat (Int.toNat (IntKind.wrap IntKind.u8 (bitsOp BinOp.and IntKind.i64 (Int.fdiv v ((2 : Int) ^ min (16 : Nat) (IntKind.bits IntKind.i64))) (255 : Int)))),
                                                              UInt8.ofNat (Int.toNat (IntKind.wrap IntKind.u8 (bitsOp BinOp.and IntKind.i64 (Int.fdiv v ((2 : Int) ^ min (8 : Nat) (IntKind.bits IntKind.i64))) (255 : Int)))),
                                                              UInt8.ofNat (Int.toNat (IntKind.wrap IntKind.u8 (bitsOp BinOp.and IntKind.i64 v (255 : Int))))] ++
                                                          [UInt8.ofNat (Int.toNat (IntKind.wrap IntKind.u8 (Int.fdiv (↑(List.length l) : Int) ((2 : Int) ^ min (8 : Nat) (IntKind.bits IntKind.i64))))),
                                                            UInt8.ofNat (Int.toNat (IntKind.wrap IntKind.u8 (bitsOp BinOp.and IntKind.i64 (↑(List.length l) : Int) (255 : Int))))])
                                                        (List.drop (0 : Nat) l)))
                                                    false],
                                                [RV.any]))
                                            (Tree.leaf ([tL (0 : Nat) [] true], [RV.any]))))))))))))))))
                (Tree.req ((0 : Int) ≤ (24 : Int))
                  (Tree.req ((0 : Int) ≤ (16 : Int))
                    (Tree.req ((0 : Int) ≤ (8 : Int))
                      (Tree.req
                        (((0 : Int) ≤ IntKind.wrap IntKind.u8 (Int.fdiv v ((2 : Int) ^ min (24 : Nat) (IntKind.bits IntKind.i64))) ∧ IntKind.wrap IntKind.u8 (Int.fdiv v ((2 : Int) ^ min (24 : Nat) (IntKind.bits IntKind.i64))) < (256 : LT.den kindA (LT.int IntKind.u8))) ∧
                          ((0 : Int) ≤ IntKind.wrap IntKind.u8 (bitsOp BinOp.and IntKind.i64 (Int.fdiv v ((2 : Int) ^ min (16 : Nat) (IntKind.bits IntKind.i64))) (255 : Int)) ∧
                              IntKind.wrap IntKind.u8 (bitsOp BinOp.and IntKind.i64 (Int.fdiv v ((2 : Int) ^ min (16 : Nat) (IntKind.bits IntKind.i64))) (255 : Int)) < (256 : LT.den kindA (LT.int IntKind.u8))) ∧
                            ((0 : Int) ≤ IntKind.wrap IntKind.u8 (bitsOp BinOp.and IntKind.i64 (Int.fdiv v ((2 : Int) ^ min (8 : Nat) (IntKind.bits IntKind.i64))) (255 : Int)) ∧
                                IntKind.wrap IntKind.u8 (bitsOp BinOp.and IntKind.i64 (Int.fdiv v ((2 : Int) ^ min (8 : Nat) (IntKind.bits IntKind.i64))) (255 : Int)) < (256 : LT.den kindA (LT.int IntKind.u8))) ∧
                              ((0 : Int) ≤ IntKind.wrap IntKind.u8 (bitsOp BinOp.and IntKind.i64 v (255 : Int)) ∧ IntKind.wrap IntKind.u8 (bitsOp BinOp.and IntKind.i64 v (255 : Int)) < (256 : LT.den kindA (LT.int IntKind.u8))) ∧ True)
                        (Tree.req
                          ((List.length [UInt8.ofNat (Int.toNat (IntKind.wrap IntKind.u8 k))] +
                                List.length
                                  [UInt8.ofNat (Int.toNat (IntKind.wrap IntKind.u8 (Int.fdiv v ((2 : Int) ^ min (24 : Nat) (IntKind.bits IntKind.i64))))),
                                    UInt8.ofNat (Int.toNat (IntKind.wrap IntKind.u8 (bitsOp BinOp.and IntKind.i64 (Int.fdiv v ((2 : Int) ^ min (16 : Nat) (IntKind.bits IntKind.i64))) (255 : Int)))),
                                    UInt8.ofNat (Int.toNat (IntKind.wrap IntKind.u8 (bitsOp BinOp.and IntKind.i64 (Int.fdiv v ((2 : Int) ^ min (8 : Nat) (IntKind.bits IntKind.i64))) (255 : Int)))), UInt8.ofNat (Int.toNat (IntKind.wrap IntKind.u8 (bitsOp BinOp.and IntKind.i64 v (255 : Int))))]) *
                              (1 : Nat) ≤
                            (140737488355328 : Nat))
                          (Tree.ite (k != (2 : Int))
                            (Tree.ite (k != (3 : Int))
                              (Tree.leaf
                                ([tL (0 : Nat)
                                      ([UInt8.ofNat (Int.toNat (IntKind.wrap IntKind.u8 k))] ++
                                        [UInt8.ofNat (Int.toNat (IntKind.wrap IntKind.u8 (Int.fdiv v ((2 : Int) ^ min (24 : Nat) (IntKind.bits IntKind.i64))))),
                                          UInt8.ofNat (Int.toNat (IntKind.wrap IntKind.u8 (bitsOp BinOp.and IntKind.i64 (Int.fdiv v ((2 : Int) ^ min (16 : Nat) (IntKind.bits IntKind.i64))) (255 : Int)))),
                                          UInt8.ofNat (Int.toNat (IntKind.wrap IntKind.u8 (bitsOp BinOp.and IntKind.i64 (Int.fdiv v ((2 : Int) ^ min (8 : Nat) (IntKind.bits IntKind.i64))) (255 : Int)))), UInt8.ofNat (Int.toNat (IntKind.wrap IntKind.u8 (bitsOp BinOp.and IntKind.i64 v (255 : Int))))])
                                      false],
                                  [RV.any]))
                              (Tree.ite (decide ((↑(List.length l) : Int) > (65535 : Int))) (Tree.leaf ([tL (0 : Nat) [] true], [RV.any]))
                                (Tree.req ((0 : Int) ≤ (8 : Int))
                                  (Tree.req
                                    (((0 : Int) ≤ IntKind.wrap IntKind.u8 (Int.fdiv (↑(List.length l) : Int) ((2 : Int) ^ min (8 : Nat) (IntKind.bits IntKind.i64))) ∧
                                        IntKind.wrap IntKind.u8 (Int.fdiv (↑(List.length l) : Int) ((2 : Int) ^ min (8 : Nat) (IntKind.bits IntKind.i64))) < (256 : LT.den kindA (LT.int IntKind.u8))) ∧
                                      ((0 : Int) ≤ IntKind.wrap IntKind.u8 (bitsOp BinOp.and IntKind.i64 (↑(List.length l) : Int) (255 : Int)) ∧ IntKind.wrap IntKind.u8 (bitsOp BinOp.and IntKind.i64 (↑(List.length l) : Int) (255 : Int)) < (256 : LT.den kindA (LT.int IntKind.u8))) ∧ True)
                                    (Tree.req
                                      ((List.length
                                              ([UInt8.ofNat (Int.toNat (IntKind.wrap IntKind.u8 k))] ++
                                                [UInt8.ofNat (Int.toNat (IntKind.wrap IntKind.u8 (Int.fdiv v ((2 : Int) ^ min (24 : Nat) (IntKind.bits IntKind.i64))))),
                                                  UInt8.ofNat (Int.toNat (IntKind.wrap IntKind.u8 (bitsOp BinOp.and IntKind.i64 (Int.fdiv v ((2 : Int) ^ min (16 : Nat) (IntKind.bits IntKind.i64))) (255 : Int)))),
                                                  UInt8.ofNat (Int.toNat (IntKind.wrap IntKind.u8 (bitsOp BinOp.and IntKind.i64 (Int.fdiv v ((2 : Int) ^ min (8 : Nat) (IntKind.bits IntKind.i64))) (255 : Int)))),
                                                  UInt8.ofNat (Int.toNat (IntKind.wrap IntKind.u8 (bitsOp BinOp.and IntKind.i64 v (255 : Int))))]) +
                                            List.length
                                              [UInt8.ofNat (Int.toNat (IntKind.wrap IntKind.u8 (Int.fdiv (↑(List.length l) : Int) ((2 : Int) ^ min (8 : Nat) (IntKind.bits IntKind.i64))))),
                                                UInt8.ofNat (Int.toNat (IntKind.wrap IntKind.u8 (bitsOp BinOp.and IntKind.i64 (↑(List.length l) : Int) (255 : Int))))]) *
                                          (1 : Nat) ≤
                                        (140737488355328 : Nat))
                                      (Tree.req
                                        ((0 : Int) ≤ (0 : Int) ∧
                                          (0 : Int) ≤ (↑(List.length l) : Int) ∧
                                            List.length l ≤ (65535 : Nat) ∧
                                              room
                                                (List.length
                                                    ([UInt8.ofNat (Int.toNat (IntKind.wrap IntKind.u8 k))] ++
                                                        [UInt8.ofNat (Int.toNat (IntKind.wrap IntKind.u8 (Int.fdiv v ((2 : Int) ^ min (24 : Nat) (IntKind.bits IntKind.i64))))),
                                                          UInt8.ofNat (Int.toNat (IntKind.wrap IntKind.u8 (bitsOp BinOp.and IntKind.i64 (Int.fdiv v ((2 : Int) ^ min (16 : Nat) (IntKind.bits IntKind.i64))) (255 : Int)))),
                                                          UInt8.ofNat (Int.toNat (IntKind.wrap IntKind.u8 (bitsOp BinOp.and IntKind.i64 (Int.fdiv v ((2 : Int) ^ min (8 : Nat) (IntKind.bits IntKind.i64))) (255 : Int)))),
                                                          UInt8.ofNat (Int.toNat (IntKind.wrap IntKind.u8 (bitsOp BinOp.and IntKind.i64 v (255 : Int))))] ++
                                                      [UInt8.ofNat (Int.toNat (IntKind.wrap IntKind.u8 (Int.fdiv (↑(List.length l) : Int) ((2 : Int) ^ min (8 : Nat) (IntKind.bits IntKind.i64))))),
                                                        UInt8.ofNat (Int.toNat (IntKind.wrap IntKind.u8 (bitsOp BinOp.and IntKind.i64 (↑(List.length l) : Int) (255 : Int))))]) +
                                                  (462 : Nat) * (List.length l - (0 : Nat))))
                                        (Tree.ite
                                          (Prod.snd
                                            (dCells
                                              ([UInt8.ofNat (Int.toNat (IntKind.wrap IntKind.u8 k))] ++
                                                  [UInt8.ofNat (Int.toNat (IntKind.wrap IntKind.u8 (Int.fdiv v ((2 : Int) ^ min (24 : Nat) (IntKind.bits IntKind.i64))))),
                                                    UInt8.ofNat (Int.toNat (IntKind.wrap IntKind.u8 (bitsOp BinOp.and IntKind.i64 (Int.fdiv v ((2 : Int) ^ min (16 : Nat) (IntKind.bits IntKind.i64))) (255 : Int)))),
                                                    UInt8.ofNat (Int.toNat (IntKind.wrap IntKind.u8 (bitsOp BinOp.and IntKind.i64 (Int.fdiv v ((2 : Int) ^ min (8 : Nat) (IntKind.bits IntKind.i64))) (255 : Int)))),
                                                    UInt8.ofNat (Int.toNat (IntKind.wrap IntKind.u8 (bitsOp BinOp.and IntKind.i64 v (255 : Int))))] ++
                                                [UInt8.ofNat (Int.toNat (IntKind.wrap IntKind.u8 (Int.fdiv (↑(List.length l) : Int) ((2 : Int) ^ min (8 : Nat) (IntKind.bits IntKind.i64))))),
                                                  UInt8.ofNat (Int.toNat (IntKind.wrap IntKind.u8 (bitsOp BinOp.and IntKind.i64 (↑(List.length l) : Int) (255 : Int))))])
                                              (List.drop (0 : Nat) l)))
                                          (Tree.leaf
                                            ([tL (0 : Nat)
                                                  (Prod.fst
                                                    (dCells
                                                      ([UInt8.ofNat (Int.toNat (IntKind.wrap IntKind.u8 k))] ++
                                                          [UInt8.ofNat (Int.toNat (IntKind.wrap IntKind.u8 (Int.fdiv v ((2 : Int) ^ min (24 : Nat) (IntKind.bits IntKind.i64))))),
                                                            UInt8.ofNat (Int.toNat (IntKind.wrap IntKind.u8 (bitsOp BinOp.and IntKind.i64 (Int.fdiv v ((2 : Int) ^ min (16 : Nat) (IntKind.bits IntKind.i64))) (255 : Int)))),
                                                            UInt8.ofNat (Int.toNat (IntKind.wrap IntKind.u8 (bitsOp BinOp.and IntKind.i64 (Int.fdiv v ((2 : Int) ^ min (8 : Nat) (IntKind.bits IntKind.i64))) (255 : Int)))),
                                                            UInt8.ofNat (Int.toNat (IntKind.wrap IntKind.u8 (bitsOp BinOp.and IntKind.i64 v (255 : Int))))] ++
                                                        [UInt8.ofNat (Int.toNat (IntKind.wrap IntKind.u8 (Int.fdiv (↑(List.length l) : Int) ((2 : Int) ^ min (8 : Nat) (IntKind.bits IntKind.i64))))),
                                                          UInt8.ofNat (Int.toNat (IntKind.wrap IntKind.u8 (bitsOp BinOp.and IntKind.i64 (↑(List.length l) : Int) (255 : Int))))])
                                                      (List.drop (0 : Nat) l)))
                                                  false],
                                              [RV.any]))
                                          (Tree.leaf ([tL (0 : Nat) [] true], [RV.any])))))))))
                            (Tree.ite (decide ((↑(List.length l) : Int) > (65535 : Int))) (Tree.leaf ([tL (0 : Nat) [] true], [RV.any]))
                              (Tree.req ((0 : Int) ≤ (8 : Int))
                                (Tree.req
                                  (((0 : Int) ≤ IntKind.wrap IntKind.u8 (Int.fdiv (↑(List.length l) : Int) ((2 : Int) ^ min (8 : Nat) (IntKind.bits IntKind.i64))) ∧
                                      IntKind.wrap IntKind.u8 (Int.fdiv (↑(List.length l) : Int) ((2 : Int) ^ min (8 : Nat) (IntKind.bits IntKind.i64))) < (256 : LT.den kindA (LT.int IntKind.u8))) ∧
                                    ((0 : Int) ≤ IntKind.wrap IntKind.u8 (bitsOp BinOp.and IntKind.i64 (↑(List.length l) : Int) (255 : Int)) ∧ IntKind.wrap IntKind.u8 (bitsOp BinOp.and IntKind.i64 (↑(List.length l) : Int) (255 : Int)) < (256 : LT.den kindA (LT.int IntKind.u8))) ∧ True)
                                  (Tree.req
                                    ((List.length
                                            ([UInt8.ofNat (Int.toNat (IntKind.wrap IntKind.u8 k))] ++
                                              [UInt8.ofNat (Int.toNat (IntKind.wrap IntKind.u8 (Int.fdiv v ((2 : Int) ^ min (24 : Nat) (IntKind.bits IntKind.i64))))),
                                                UInt8.ofNat (Int.toNat (IntKind.wrap IntKind.u8 (bitsOp BinOp.and IntKind.i64 (Int.fdiv v ((2 : Int) ^ min (16 : Nat) (IntKind.bits IntKind.i64))) (255 : Int)))),
                                                UInt8.ofNat (Int.toNat (IntKind.wrap IntKind.u8 (bitsOp BinOp.and IntKind.i64 (Int.fdiv v ((2 : Int) ^ min (8 : Nat) (IntKind.bits IntKind.i64))) (255 : Int)))),
                                                UInt8.ofNat (Int.toNat (IntKind.wrap IntKind.u8 (bitsOp BinOp.and IntKind.i64 v (255 : Int))))]) +
                                          List.length
                                            [UInt8.ofNat (Int.toNat (IntKind.wrap IntKind.u8 (Int.fdiv (↑(List.length l) : Int) ((2 : Int) ^ min (8 : Nat) (IntKind.bits IntKind.i64))))),
                                              UInt8.ofNat (Int.toNat (IntKind.wrap IntKind.u8 (bitsOp BinOp.and IntKind.i64 (↑(List.length l) : Int) (255 : Int))))]) *
                                        (1 : Nat) ≤
                                      (140737488355328 : Nat))
                                    (Tree.req
                                      ((0 : Int) ≤ (0 : Int) ∧
                                        (0 : Int) ≤ (↑(List.length l) : Int) ∧
                                          List.length l ≤ (65535 : Nat) ∧
                                            room
                                              (List.length
                                                  ([UInt8.ofNat (Int.toNat (IntKind.wrap IntKind.u8 k))] ++
                                                      [UInt8.ofNat (Int.toNat (IntKind.wrap IntKind.u8 (Int.fdiv v ((2 : Int) ^ min (24 : Nat) (IntKind.bits IntKind.i64))))),
                                                        UInt8.ofNat (Int.toNat (IntKind.wrap IntKind.u8 (bitsOp BinOp.and IntKind.i64 (Int.fdiv v ((2 : Int) ^ min (16 : Nat) (IntKind.bits IntKind.i64))) (255 : Int)))),
                                                        UInt8.ofNat (Int.toNat (IntKind.wrap IntKind.u8 (bitsOp BinOp.and IntKind.i64 (Int.fdiv v ((2 : Int) ^ min (8 : Nat) (IntKind.bits IntKind.i64))) (255 : Int)))),
                                                        UInt8.ofNat (Int.toNat (IntKind.wrap IntKind.u8 (bitsOp BinOp.and IntKind.i64 v (255 : Int))))] ++
                                                    [UInt8.ofNat (Int.toNat (IntKind.wrap IntKind.u8 (Int.fdiv (↑(List.length l) : Int) ((2 : Int) ^ min (8 : Nat) (IntKind.bits IntKind.i64))))),
                                                      UInt8.ofNat (Int.toNat (IntKind.wrap IntKind.u8 (bitsOp BinOp.and IntKind.i64 (↑(List.length l) : Int) (255 : Int))))]) +
                                                (462 : Nat) * (List.length l - (0 : Nat))))
                                      (Tree.ite
                                        (Prod.snd
                                          (dCells
                                            ([UInt8.ofNat (Int.toNat (IntKind.wrap IntKind.u8 k))] ++
                                                [UInt8.ofNat (Int.toNat (IntKind.wrap IntKind.u8 (Int.fdiv v ((2 : Int) ^ min (24 : Nat) (IntKind.bits IntKind.i64))))),
                                                  UInt8.ofNat (Int.toNat (IntKind.wrap IntKind.u8 (bitsOp BinOp.and IntKind.i64 (Int.fdiv v ((2 : Int) ^ min (16 : Nat) (IntKind.bits IntKind.i64))) (255 : Int)))),
                                                  UInt8.ofNat (Int.toNat (IntKind.wrap IntKind.u8 (bitsOp BinOp.and IntKind.i64 (Int.fdiv v ((2 : Int) ^ min (8 : Nat) (IntKind.bits IntKind.i64))) (255 : Int)))),
                                                  UInt8.ofNat (Int.toNat (IntKind.wrap IntKind.u8 (bitsOp BinOp.and IntKind.i64 v (255 : Int))))] ++
                                              [UInt8.ofNat (Int.toNat (IntKind.wrap IntKind.u8 (Int.fdiv (↑(List.length l) : Int) ((2 : Int) ^ min (8 : Nat) (IntKind.bits IntKind.i64))))),
                                                UInt8.ofNat (Int.toNat (IntKind.wrap IntKind.u8 (bitsOp BinOp.and IntKind.i64 (↑(List.length l) : Int) (255 : Int))))])
                                            (List.drop (0 : Nat) l)))
                                        (Tree.leaf
                                          ([tL (0 : Nat)
                                                (Prod.fst
                                                  (dCells
                                                    ([UInt8.ofNat (Int.toNat (IntKind.wrap IntKind.u8 k))] ++
                                                        [UInt8.ofNat (Int.toNat (IntKind.wrap IntKind.u8 (Int.fdiv v ((2 : Int) ^ min (24 : Nat) (IntKind.bits IntKind.i64))))),
                                                          UInt8.ofNat (Int.toNat (IntKind.wrap IntKind.u8 (bitsOp BinOp.and IntKind.i64 (Int.fdiv v ((2 : Int) ^ min (16 : Nat) (IntKind.bits IntKind.i64))) (255 : Int)))),
                                                          UInt8.ofNat (Int.toNat (IntKind.wrap IntKind.u8 (bitsOp BinOp.and IntKind.i64 (Int.fdiv v ((2 : Int) ^ min (8 : Nat) (IntKind.bits IntKind.i64))) (255 : Int)))),
                                                          UInt8.ofNat (Int.toNat (IntKind.wrap IntKind.u8 (bitsOp BinOp.and IntKind.i64 v (255 : Int))))] ++
                                                      [UInt8.ofNat (Int.toNat (IntKind.wrap IntKind.u8 (Int.fdiv (↑(List.length l) : Int) ((2 : Int) ^ min (8 : Nat) (IntKind.bits IntKind.i64))))),
                                                        UInt8.ofNat (Int.toNat (IntKind.wrap IntKind.u8 (bitsOp BinOp.and IntKind.i64 (↑(List.length l) : Int) (255 : Int))))])
                                                    (List.drop (0 : Nat) l)))
                                                false],
                                            [RV.any]))
                                        (Tree.leaf ([tL (0 : Nat) [] true], [RV.any]))))))))))))))))))))) := by kernel_rfl
def F : List TV' → Tree (List TV') := aReply fun r => a0 (.leaf [tL 0 (dReply r) false])
abbrev S : Spec En := pureSpec 1 F
theorem finD (H : List UInt8) (l : List Shown) : ∃ r0, (Tree.ite (dCells H l).2 (.leaf ([tL 0 (dCells H l).1 false], [RV.any])) (.leaf ([tL 0 [] true], [RV.any])) : Tree (List TV' × List RV')).reach r0 ∧
    [tL 0 (dCells H l).1 false] = List.map (TV.un (E := En)) r0.1 ∧ anys (E := En) 1 = List.map (RV.unB (E := En)) r0.2 := by
  cases h : (dCells H l).2 with
  | true => exact Tree.ex_tt (Tree.ex_leaf ⟨rfl, rfl⟩)
  | false => rw [dCells_no h]; exact Tree.ex_ff (Tree.ex_leaf ⟨rfl, rfl⟩)
theorem ok : SpecOk pr i_ref21_ReplyBytes S := by
  refine pureOkX (ctx := c) cok h_ref21_ReplyBytes (by kernel_rfl) (one_loop (by kernel_rfl) (by kernel_rfl) L0_ok) fun xs rs h => ?_
  obtain ⟨⟨k, v, e, l⟩, _, rfl, g1⟩ := aReply_r h
  obtain ⟨rfl, rfl⟩ := a0_r g1
  refine ⟨rfl, Tree.ex_of (fn_t k v e l) ?_⟩
  unfold dReply dReplyOk dHead
  dsimp only
  cases d1 : decide (k < 1) with
  | true => exact Tree.ex_tt (Tree.ex_leaf ⟨rfl, rfl⟩)
  | false =>
  refine Tree.ex_ff ?_
  cases d2 : decide (k > 4) with
  | true => exact Tree.ex_tt (Tree.ex_leaf ⟨rfl, rfl⟩)
  | false =>
  refine Tree.ex_ff ?_
  cases d3 : decide (v < 0) with
  | true => exact Tree.ex_tt (Tree.ex_leaf ⟨rfl, rfl⟩)
  | false =>
  refine Tree.ex_ff ?_
  cases d4 : decide (v > 2147483647) with
  | true => exact Tree.ex_tt (Tree.ex_leaf ⟨rfl, rfl⟩)
  | false =>
  have v0 : ¬ v < 0 := by simpa using d3
  have v1 : ¬ v > 2147483647 := by simpa using d4
  rw [be4 (x := v) (by omega) (by omega)]
  refine Tree.ex_ff ?_
  have len2 (h : ¬ (l.length : Int) > 65535) := be2 (x := (l.length : Int)) (by omega) (by omega)
  cases k1 : (k == 1) with
  | true =>
    refine Tree.ex_tt ?_
    cases d6 : decide (e < 1) with
    | true => exact Tree.ex_tt (Tree.ex_tt (Tree.ex_leaf ⟨rfl, rfl⟩))
    | false =>
    refine Tree.ex_ff ?_
    cases d7 : decide (e > 10) with
    | true => exact Tree.ex_tt (Tree.ex_leaf ⟨rfl, rfl⟩)
    | false =>
    have kk : k = 1 := by simpa using k1
    subst kk
    exact Tree.ex_ff (Tree.ex_req ⟨u8ok _, trivial⟩ (Tree.ex_tt (Tree.ex_req ⟨u8ok _, trivial⟩ (Tree.ex_req (by simp) (Tree.ex_req (by omega) (Tree.ex_req (by omega) (Tree.ex_req (by omega) (Tree.ex_req ⟨u8ok _, u8ok _, u8ok _, u8ok _, trivial⟩ (Tree.ex_req (by simp) (Tree.ex_tt (Tree.ex_tt (Tree.ex_leaf ⟨rfl, rfl⟩)))))))))))) 
  | false =>
    refine Tree.ex_ff (Tree.ex_ff (Tree.ex_req ⟨u8ok _, trivial⟩ (Tree.ex_ff (Tree.ex_req (by omega) (Tree.ex_req (by omega) (Tree.ex_req (by omega) (Tree.ex_req ⟨u8ok _, u8ok _, u8ok _, u8ok _, trivial⟩ (Tree.ex_req (by simp) ?_))))))))
    cases k2 : (k != 2) with
    | true =>
      refine Tree.ex_tt ?_
      cases k3 : (k != 3) with
      | true => exact Tree.ex_tt (Tree.ex_leaf ⟨rfl, rfl⟩)
      | false =>
          cases d5 : decide ((l.length : Int) > 65535) with
          | true => exact (Tree.ex_ff (Tree.ex_tt (Tree.ex_leaf ⟨rfl, rfl⟩)))
          | false =>
            have d5' : ¬ (l.length : Int) > 65535 := by simpa using d5
            rw [len2 d5']
            exact (Tree.ex_ff (Tree.ex_ff (Tree.ex_req (by omega) (Tree.ex_req ⟨u8ok _, u8ok _, trivial⟩ (Tree.ex_req (by simp) (Tree.ex_req ⟨by omega, by omega, by omega, by unfold room; simp; omega⟩ (finD _ _)))))))
    | false =>
        cases d5 : decide ((l.length : Int) > 65535) with
        | true => exact (Tree.ex_ff (Tree.ex_tt (Tree.ex_leaf ⟨rfl, rfl⟩)))
        | false =>
          have d5' : ¬ (l.length : Int) > 65535 := by simpa using d5
          rw [len2 d5']
          exact (Tree.ex_ff (Tree.ex_ff (Tree.ex_req (by omega) (Tree.ex_req ⟨u8ok _, u8ok _, trivial⟩ (Tree.ex_req (by simp) (Tree.ex_req ⟨by omega, by omega, by omega, by unfold room; simp; omega⟩ (finD _ _)))))))
end ref21_ReplyBytes
namespace frame_ReadReply
def L0 : LoopSum En := ⟨[52, 51, 4, 1000009, 5, 1000005, 2, 1000002], rI fun i => rI fun n => rP 9 (rSt t_frame_reader false fun w => rP 5 (rReplyO t_api_Reply fun x => rP 2 (rReplyO t_api_Reply fun z => r0 (.req (0 ≤ i ∧ i ≤ n ∧ n ≤ 65536 ∧ x.cells.length ≤ i)
  (.leaf (.normal, [.any, .any, .v (tP 9 0), stV t_frame_reader false (rdCells (n - i).toNat w x.cells).2, .v (tP 5 0), replyV t_api_Reply true ⟨x.kind, x.version, x.err, (rdCells (n - i).toNat w x.cells).1⟩, .v (tP 2 0), replyV t_api_Reply true z]))))))⟩
abbrev c := cxl f_frame_ReadReply [(i_frame_reader_number, frame_reader_number.S), (i_frame_right, frame_right.S), (i_frame_reader_ended, frame_reader_ended.S), (i_frame_reader_shown, frame_reader_shown.S)] [] [(1, L0)]
theorem body_t (i n : Int) (w : BF) (r z : Reply) : bodyRun frame_ReadReply.c [52, 51, 4, 1000009, 5, 1000005, 2, 1000002] (lb (codeOf f_frame_ReadReply) 1) [vI i, vI n, .v (tP 9 0), stV t_frame_reader false w, .v (tP 5 0), replyV t_api_Reply true r, .v (tP 2 0), replyV t_api_Reply true z] =
  Tree.ite (decide (i < n))
  (Tree.ite (Prod.snd w)
    (Tree.leaf
      (Ex.exit (1 : Nat),
        [vI i, vI n, RV.v (TV.leaf (Leaf.mk LT.ptr (some ((9 : Nat), (0 : Nat)))) false), RV.blk t_frame_reader [(Leaf.mk (LT.sl (0 : Nat)) (Prod.fst w), false), (Leaf.mk LT.bool (Prod.snd w), false)], RV.v (TV.leaf (Leaf.mk LT.ptr (some ((5 : Nat), (0 : Nat)))) false),
          RV.blk t_api_Reply [(Leaf.mk (LT.int IntKind.i64) (Reply.kind r), false), (Leaf.mk (LT.int IntKind.i64) (Reply.version r), false), (Leaf.mk (LT.int IntKind.i64) (Reply.err r), false), (Leaf.mk (LT.sl (2 : Nat)) (Reply.cells r), true)],
          RV.v (TV.leaf (Leaf.mk LT.ptr (some ((2 : Nat), (0 : Nat)))) false),
          RV.blk t_api_Reply [(Leaf.mk (LT.int IntKind.i64) (Reply.kind z), false), (Leaf.mk (LT.int IntKind.i64) (Reply.version z), false), (Leaf.mk (LT.int IntKind.i64) (Reply.err z), false), (Leaf.mk (LT.sl (2 : Nat)) (Reply.cells z), true)]]))
    (Tree.req (True ∧ True)
      (Tree.req
        ((List.length (Reply.cells r) +
              List.length
                [Shown.mk (Cell.mk (Cell.sheet (Shown.cell (Prod.fst (rdShown w)))) (Cell.col (Shown.cell (Prod.fst (rdShown w)))) (Cell.row (Shown.cell (Prod.fst (rdShown w)))))
                    (Val.mk (Val.kind (Shown.val (Prod.fst (rdShown w)))) (Val.n (Shown.val (Prod.fst (rdShown w)))) (Val.s (Shown.val (Prod.fst (rdShown w)))))]) *
            (64 : Nat) ≤
          (140737488355328 : Nat))
        (Tree.leaf
          (Ex.normal,
            [vI (IntKind.wrap IntKind.i64 (i + (1 : Int))), vI n, RV.v (TV.leaf (Leaf.mk LT.ptr (some ((9 : Nat), (0 : Nat)))) false), RV.blk t_frame_reader [(Leaf.mk (LT.sl (0 : Nat)) (Prod.fst (Prod.snd (rdShown w))), false), (Leaf.mk LT.bool (Prod.snd (Prod.snd (rdShown w))), false)],
              RV.v (TV.leaf (Leaf.mk LT.ptr (some ((5 : Nat), (0 : Nat)))) false),
              RV.blk t_api_Reply
                [(Leaf.mk (LT.int IntKind.i64) (Reply.kind r), false), (Leaf.mk (LT.int IntKind.i64) (Reply.version r), false), (Leaf.mk (LT.int IntKind.i64) (Reply.err r), false),
                  (Leaf.mk (LT.sl (2 : Nat))
                      (Reply.cells r ++
                        [Shown.mk (Cell.mk (Cell.sheet (Shown.cell (Prod.fst (rdShown w)))) (Cell.col (Shown.cell (Prod.fst (rdShown w)))) (Cell.row (Shown.cell (Prod.fst (rdShown w)))))
                            (Val.mk (Val.kind (Shown.val (Prod.fst (rdShown w)))) (Val.n (Shown.val (Prod.fst (rdShown w)))) (Val.s (Shown.val (Prod.fst (rdShown w)))))]),
                    true)],
              RV.v (TV.leaf (Leaf.mk LT.ptr (some ((2 : Nat), (0 : Nat)))) false),
              RV.blk t_api_Reply [(Leaf.mk (LT.int IntKind.i64) (Reply.kind z), false), (Leaf.mk (LT.int IntKind.i64) (Reply.version z), false), (Leaf.mk (LT.int IntKind.i64) (Reply.err z), false), (Leaf.mk (LT.sl (2 : Nat)) (Reply.cells z), true)]])))))
  (Tree.leaf
    (Ex.exit (1 : Nat),
      [vI i, vI n, RV.v (TV.leaf (Leaf.mk LT.ptr (some ((9 : Nat), (0 : Nat)))) false), RV.blk t_frame_reader [(Leaf.mk (LT.sl (0 : Nat)) (Prod.fst w), false), (Leaf.mk LT.bool (Prod.snd w), false)], RV.v (TV.leaf (Leaf.mk LT.ptr (some ((5 : Nat), (0 : Nat)))) false),
        RV.blk t_api_Reply [(Leaf.mk (LT.int IntKind.i64) (Reply.kind r), false), (Leaf.mk (LT.int IntKind.i64) (Reply.version r), false), (Leaf.mk (LT.int IntKind.i64) (Reply.err r), false), (Leaf.mk (LT.sl (2 : Nat)) (Reply.cells r), true)],
        RV.v (TV.leaf (Leaf.mk LT.ptr (some ((2 : Nat), (0 : Nat)))) false),
        RV.blk t_api_Reply [(Leaf.mk (LT.int IntKind.i64) (Reply.kind z), false), (Leaf.mk (LT.int IntKind.i64) (Reply.version z), false), (Leaf.mk (LT.int IntKind.i64) (Reply.err z), false), (Leaf.mk (LT.sl (2 : Nat)) (Reply.cells z), true)]])) := by kernel_rfl
theorem cok : CtxOk pr c := cxl_ok (.cons frame_reader_number.ok (.cons frame_right.ok (.cons frame_reader_ended.ok (.cons frame_reader_shown.ok .nil)))) nil_ok
theorem L0_ok : LoopOk pr c 1 (lb (codeOf f_frame_ReadReply) 1) L0 := by
  refine loopOk2 cok mixed (no_loop (by kernel_rfl)) (fun vs => match vs with | .v (.leaf ⟨.int .i64, i⟩ _) :: .v (.leaf ⟨.int .i64, n⟩ _) :: _ => (n - i).toNat | _ => 0) fun vs r h => ?_
  obtain ⟨i, _, rfl, g1⟩ := rI_r h
  obtain ⟨n, _, rfl, g2⟩ := rI_r g1
  obtain ⟨_, rfl, g3⟩ := rP_r g2
  obtain ⟨⟨ys, bad⟩, _, rfl, g4⟩ := rSt_r g3
  obtain ⟨_, rfl, g5⟩ := rP_r g4
  obtain ⟨⟨k, v, e, l⟩, _, rfl, g6⟩ := rReplyO_r g5
  obtain ⟨_, rfl, g7⟩ := rP_r g6
  obtain ⟨z, _, rfl, g8⟩ := rReplyO_r g7
  obtain ⟨rfl, ⟨h0, h1, h2, h3⟩, rfl⟩ := r0_r g8
  clear g1 g2 g3 g4 g5 g6 g7 g8 h
  have hb := body_t i n (ys, bad) ⟨k, v, e, l⟩ z
  rw [wrap_i64 (x := i + 1) (by omega) (by omega)] at hb
  dsimp only at h3
  by_cases lt : i < n
  · have hn : (n - i).toNat = (n - (i + 1)).toNat + 1 := by omega
    rw [hn]
    cases bad with
    | true =>
      refine ⟨(.exit 1, [vI i, vI n, .v (tP 9 0), stV t_frame_reader false (ys, true), .v (tP 5 0), replyV t_api_Reply true ⟨k, v, e, l⟩, .v (tP 2 0), replyV t_api_Reply true z]), Tree.reach_of hb ?_, onw_exit ⟨wkV, wkV, wkE, wkE, wkE, wkE, wkE, wkE, trivial⟩⟩
      exact Tree.reach_ite (fun _ => Tree.reach_tt rfl) fun hx => by simp at hx; omega
    | false =>
      refine ⟨(.normal, [vI (i + 1), vI n, .v (tP 9 0), stV t_frame_reader false (rdShown (ys, false)).2, .v (tP 5 0), replyV t_api_Reply true ⟨k, v, e, l ++ [(rdShown (ys, false)).1]⟩, .v (tP 2 0), replyV t_api_Reply true z]), Tree.reach_of hb ?_, onward2 ⟨?_, ⟨by omega, by omega, h2, ?_⟩, ?_⟩⟩
      · refine Tree.reach_ite (fun _ => Tree.reach_ff (Tree.reach_req ⟨trivial, trivial⟩ (Tree.reach_req ?_ rfl))) fun hx => by simp at hx; omega
        simp only [List.length_singleton]; omega
      · show (n - (i + 1)).toNat < (n - i).toNat; omega
      · show ((l ++ [(rdShown (ys, false)).1]).length : Int) ≤ i + 1
        rw [List.length_append, List.length_singleton]; omega
      · rfl
  · have hn : (n - i).toNat = 0 := by omega
    rw [hn]
    exact ⟨(.exit 1, [vI i, vI n, .v (tP 9 0), stV t_frame_reader false (ys, bad), .v (tP 5 0), replyV t_api_Reply true ⟨k, v, e, l⟩, .v (tP 2 0), replyV t_api_Reply true z]), Tree.reach_of hb (Tree.reach_ite (fun hx => by simp at hx; omega) fun _ => rfl), onw_exit ⟨wkV, wkV, wkE, wkE, wkE, wkE, wkE, wkE, trivial⟩⟩
theorem fn_t (b : List UInt8) : fnRun frame_ReadReply.c f_frame_ReadReply (codeOf f_frame_ReadReply) [tL 0 b false] (anys 1) =
  Tree.req ((0 : Int) ≤ (1 : Int) ∧ (1 : Int) ≤ (6 : Int))
  (Tree.ite ((↑(numOf (0 : Nat) (Prod.fst (rTake (b, false) (1 : Nat)))) : Int) == (1 : Int))
    (Tree.req ((0 : Int) ≤ (1 : Int) ∧ (1 : Int) ≤ (6 : Int))
      (Tree.ite (Prod.snd (Prod.snd (rTake (Prod.snd (rTake (b, false) (1 : Nat))) (1 : Nat))))
        (Tree.req ((0 : Int) ≤ (4 : Int) ∧ (4 : Int) ≤ (6 : Int))
          (Tree.ite (!rEnded (Prod.snd (rTake (Prod.fst (Prod.snd (rTake (Prod.snd (rTake (b, false) (1 : Nat))) (1 : Nat))), true) (4 : Nat))))
            (Tree.leaf ([TV.agg [Leaf.mk (LT.int IntKind.i64) (0 : Int), Leaf.mk (LT.int IntKind.i64) (0 : Int), Leaf.mk (LT.int IntKind.i64) (0 : Int), Leaf.mk (LT.sl (2 : Nat)) []], tI (2 : Int)], [RV.any]))
            (Tree.ite (decide ((↑(numOf (0 : Nat) (Prod.fst (rTake (Prod.fst (Prod.snd (rTake (Prod.snd (rTake (b, false) (1 : Nat))) (1 : Nat))), true) (4 : Nat)))) : Int) > (2147483647 : Int)))
              (Tree.leaf ([TV.agg [Leaf.mk (LT.int IntKind.i64) (0 : Int), Leaf.mk (LT.int IntKind.i64) (0 : Int), Leaf.mk (LT.int IntKind.i64) (0 : Int), Leaf.mk (LT.sl (2 : Nat)) []], tI (2 : Int)], [RV.any]))
              (Tree.leaf
                ([TV.agg
                      [Leaf.mk (LT.int IntKind.i64) (↑(numOf (0 : Nat) (Prod.fst (rTake (b, false) (1 : Nat)))) : Int), Leaf.mk (LT.int IntKind.i64) (↑(numOf (0 : Nat) (Prod.fst (rTake (Prod.fst (Prod.snd (rTake (Prod.snd (rTake (b, false) (1 : Nat))) (1 : Nat))), true) (4 : Nat)))) : Int),
                        Leaf.mk (LT.int IntKind.i64) (↑(numOf (0 : Nat) (Prod.fst (rTake (Prod.snd (rTake (b, false) (1 : Nat))) (1 : Nat)))) : Int), Leaf.mk (LT.sl (2 : Nat)) []],
                    tI (0 : Int)],
                  [RV.any])))))
        (Tree.req ((0 : Int) ≤ (4 : Int) ∧ (4 : Int) ≤ (6 : Int))
          (Tree.ite
            (!rEnded
                (Prod.snd
                  (rTake
                    (Prod.fst (Prod.snd (rTake (Prod.snd (rTake (b, false) (1 : Nat))) (1 : Nat))),
                      !(decide ((↑(numOf (0 : Nat) (Prod.fst (rTake (Prod.snd (rTake (b, false) (1 : Nat))) (1 : Nat)))) : Int) ≥ (1 : Int)) && decide ((↑(numOf (0 : Nat) (Prod.fst (rTake (Prod.snd (rTake (b, false) (1 : Nat))) (1 : Nat)))) : Int) ≤ (10 : Int))))
                    (4 : Nat))))
            (Tree.leaf ([TV.agg [Leaf.mk (LT.int IntKind.i64) (0 : Int), Leaf.mk (LT.int IntKind.i64) (0 : Int), Leaf.mk (LT.int IntKind.i64) (0 : Int), Leaf.mk (LT.sl (2 : Nat)) []], tI (2 : Int)], [RV.any]))
            (Tree.ite
              (decide
                ((↑(numOf (0 : Nat)
                        (Prod.fst
                          (rTake
                            (Prod.fst (Prod.snd (rTake (Prod.snd (rTake (b, false) (1 : Nat))) (1 : Nat))),
                              !(decide ((↑(numOf (0 : Nat) (Prod.fst (rTake (Prod.snd (rTake (b, false) (1 : Nat))) (1 : Nat)))) : Int) ≥ (1 : Int)) && decide ((↑(numOf (0 : Nat) (Prod.fst (rTake (Prod.snd (rTake (b, false) (1 : Nat))) (1 : Nat)))) : Int) ≤ (10 : Int))))
                            (4 : Nat)))) :
                    Int) >
                  (2147483647 : Int)))
              (Tree.leaf ([TV.agg [Leaf.mk (LT.int IntKind.i64) (0 : Int), Leaf.mk (LT.int IntKind.i64) (0 : Int), Leaf.mk (LT.int IntKind.i64) (0 : Int), Leaf.mk (LT.sl (2 : Nat)) []], tI (2 : Int)], [RV.any]))
              (Tree.leaf
                ([TV.agg
                      [Leaf.mk (LT.int IntKind.i64) (↑(numOf (0 : Nat) (Prod.fst (rTake (b, false) (1 : Nat)))) : Int),
                        Leaf.mk (LT.int IntKind.i64)
                          (↑(numOf (0 : Nat)
                                (Prod.fst
                                  (rTake
                                    (Prod.fst (Prod.snd (rTake (Prod.snd (rTake (b, false) (1 : Nat))) (1 : Nat))),
                                      !(decide ((↑(numOf (0 : Nat) (Prod.fst (rTake (Prod.snd (rTake (b, false) (1 : Nat))) (1 : Nat)))) : Int) ≥ (1 : Int)) && decide ((↑(numOf (0 : Nat) (Prod.fst (rTake (Prod.snd (rTake (b, false) (1 : Nat))) (1 : Nat)))) : Int) ≤ (10 : Int))))
                                    (4 : Nat)))) :
                            Int),
                        Leaf.mk (LT.int IntKind.i64) (↑(numOf (0 : Nat) (Prod.fst (rTake (Prod.snd (rTake (b, false) (1 : Nat))) (1 : Nat)))) : Int), Leaf.mk (LT.sl (2 : Nat)) []],
                    tI (0 : Int)],
                  [RV.any])))))))
    (Tree.ite ((↑(numOf (0 : Nat) (Prod.fst (rTake (b, false) (1 : Nat)))) : Int) == (4 : Int))
      (Tree.req ((0 : Int) ≤ (4 : Int) ∧ (4 : Int) ≤ (6 : Int))
        (Tree.ite (!rEnded (Prod.snd (rTake (Prod.snd (rTake (b, false) (1 : Nat))) (4 : Nat)))) (Tree.leaf ([TV.agg [Leaf.mk (LT.int IntKind.i64) (0 : Int), Leaf.mk (LT.int IntKind.i64) (0 : Int), Leaf.mk (LT.int IntKind.i64) (0 : Int), Leaf.mk (LT.sl (2 : Nat)) []], tI (2 : Int)], [RV.any]))
          (Tree.ite (decide ((↑(numOf (0 : Nat) (Prod.fst (rTake (Prod.snd (rTake (b, false) (1 : Nat))) (4 : Nat)))) : Int) > (2147483647 : Int)))
            (Tree.leaf ([TV.agg [Leaf.mk (LT.int IntKind.i64) (0 : Int), Leaf.mk (LT.int IntKind.i64) (0 : Int), Leaf.mk (LT.int IntKind.i64) (0 : Int), Leaf.mk (LT.sl (2 : Nat)) []], tI (2 : Int)], [RV.any]))
            (Tree.leaf
              ([TV.agg
                    [Leaf.mk (LT.int IntKind.i64) (↑(numOf (0 : Nat) (Prod.fst (rTake (b, false) (1 : Nat)))) : Int), Leaf.mk (LT.int IntKind.i64) (↑(numOf (0 : Nat) (Prod.fst (rTake (Prod.snd (rTake (b, false) (1 : Nat))) (4 : Nat)))) : Int), Leaf.mk (LT.int IntKind.i64) (0 : Int),
                      Leaf.mk (LT.sl (2 : Nat)) []],
                  tI (0 : Int)],
                [RV.any])))))
      (Tree.ite ((↑(numOf (0 : Nat) (Prod.fst (rTake (b, false) (1 : Nat)))) : Int) == (2 : Int))
        (Tree.ite ((↑(numOf (0 : Nat) (Prod.fst (rTake (b, false) (1 : Nat)))) : Int) == (2 : Int))
          (Tree.req ((0 : Int) ≤ (4 : Int) ∧ (4 : Int) ≤ (6 : Int))
            (Tree.req ((0 : Int) ≤ (2 : Int) ∧ (2 : Int) ≤ (6 : Int))
              (Tree.req
                ((0 : Int) ≤ (0 : Int) ∧
                  (0 : Int) ≤ (↑(numOf (0 : Nat) (Prod.fst (rTake (Prod.snd (rTake (Prod.snd (rTake (b, false) (1 : Nat))) (4 : Nat))) (2 : Nat)))) : Int) ∧
                    (↑(numOf (0 : Nat) (Prod.fst (rTake (Prod.snd (rTake (Prod.snd (rTake (b, false) (1 : Nat))) (4 : Nat))) (2 : Nat)))) : Int) ≤ (65536 : Int) ∧ (↑(0 : Nat) : Int) ≤ (0 : Int))
                (Tree.ite
                  (!rEnded (Prod.snd (rdCells (Int.toNat ((↑(numOf (0 : Nat) (Prod.fst (rTake (Prod.snd (rTake (Prod.snd (rTake (b, false) (1 : Nat))) (4 : Nat))) (2 : Nat)))) : Int) - (0 : Int))) (Prod.snd (rTake (Prod.snd (rTake (Prod.snd (rTake (b, false) (1 : Nat))) (4 : Nat))) (2 : Nat))) [])))
                  (Tree.leaf ([TV.agg [Leaf.mk (LT.int IntKind.i64) (0 : Int), Leaf.mk (LT.int IntKind.i64) (0 : Int), Leaf.mk (LT.int IntKind.i64) (0 : Int), Leaf.mk (LT.sl (2 : Nat)) []], tI (2 : Int)], [RV.any]))
                  (Tree.ite (decide ((↑(numOf (0 : Nat) (Prod.fst (rTake (Prod.snd (rTake (b, false) (1 : Nat))) (4 : Nat)))) : Int) > (2147483647 : Int)))
                    (Tree.leaf ([TV.agg [Leaf.mk (LT.int IntKind.i64) (0 : Int), Leaf.mk (LT.int IntKind.i64) (0 : Int), Leaf.mk (LT.int IntKind.i64) (0 : Int), Leaf.mk (LT.sl (2 : Nat)) []], tI (2 : Int)], [RV.any]))
                    (Tree.leaf
                      ([TV.agg
                            [Leaf.mk (LT.int IntKind.i64) (↑(numOf (0 : Nat) (Prod.fst (rTake (b, false) (1 : Nat)))) : Int), Leaf.mk (LT.int IntKind.i64) (↑(numOf (0 : Nat) (Prod.fst (rTake (Prod.snd (rTake (b, false) (1 : Nat))) (4 : Nat)))) : Int), Leaf.mk (LT.int IntKind.i64) (0 : Int),
                              Leaf.mk (LT.sl (2 : Nat))
                                (Prod.fst
                                  (rdCells (Int.toNat ((↑(numOf (0 : Nat) (Prod.fst (rTake (Prod.snd (rTake (Prod.snd (rTake (b, false) (1 : Nat))) (4 : Nat))) (2 : Nat)))) : Int) - (0 : Int))) (Prod.snd (rTake (Prod.snd (rTake (Prod.snd (rTake (b, false) (1 : Nat))) (4 : Nat))) (2 : Nat))) []))],
                          tI (0 : Int)],
                        [RV.any])))))))
          (Tree.ite (!rEnded (Prod.fst (Prod.snd (rTake (b, false) (1 : Nat))), true)) (Tree.leaf ([TV.agg [Leaf.mk (LT.int IntKind.i64) (0 : Int), Leaf.mk (LT.int IntKind.i64) (0 : Int), Leaf.mk (LT.int IntKind.i64) (0 : Int), Leaf.mk (LT.sl (2 : Nat)) []], tI (2 : Int)], [RV.any]))
            (Tree.ite false (Tree.leaf ([TV.agg [Leaf.mk (LT.int IntKind.i64) (0 : Int), Leaf.mk (LT.int IntKind.i64) (0 : Int), Leaf.mk (LT.int IntKind.i64) (0 : Int), Leaf.mk (LT.sl (2 : Nat)) []], tI (2 : Int)], [RV.any]))
              (Tree.leaf ([TV.agg [Leaf.mk (LT.int IntKind.i64) (↑(numOf (0 : Nat) (Prod.fst (rTake (b, false) (1 : Nat)))) : Int), Leaf.mk (LT.int IntKind.i64) (0 : Int), Leaf.mk (LT.int IntKind.i64) (0 : Int), Leaf.mk (LT.sl (2 : Nat)) []], tI (0 : Int)], [RV.any])))))
        (Tree.ite ((↑(numOf (0 : Nat) (Prod.fst (rTake (b, false) (1 : Nat)))) : Int) == (3 : Int))
          (Tree.req ((0 : Int) ≤ (4 : Int) ∧ (4 : Int) ≤ (6 : Int))
            (Tree.req ((0 : Int) ≤ (2 : Int) ∧ (2 : Int) ≤ (6 : Int))
              (Tree.req
                ((0 : Int) ≤ (0 : Int) ∧
                  (0 : Int) ≤ (↑(numOf (0 : Nat) (Prod.fst (rTake (Prod.snd (rTake (Prod.snd (rTake (b, false) (1 : Nat))) (4 : Nat))) (2 : Nat)))) : Int) ∧
                    (↑(numOf (0 : Nat) (Prod.fst (rTake (Prod.snd (rTake (Prod.snd (rTake (b, false) (1 : Nat))) (4 : Nat))) (2 : Nat)))) : Int) ≤ (65536 : Int) ∧ (↑(0 : Nat) : Int) ≤ (0 : Int))
                (Tree.ite
                  (!rEnded (Prod.snd (rdCells (Int.toNat ((↑(numOf (0 : Nat) (Prod.fst (rTake (Prod.snd (rTake (Prod.snd (rTake (b, false) (1 : Nat))) (4 : Nat))) (2 : Nat)))) : Int) - (0 : Int))) (Prod.snd (rTake (Prod.snd (rTake (Prod.snd (rTake (b, false) (1 : Nat))) (4 : Nat))) (2 : Nat))) [])))
                  (Tree.leaf ([TV.agg [Leaf.mk (LT.int IntKind.i64) (0 : Int), Leaf.mk (LT.int IntKind.i64) (0 : Int), Leaf.mk (LT.int IntKind.i64) (0 : Int), Leaf.mk (LT.sl (2 : Nat)) []], tI (2 : Int)], [RV.any]))
                  (Tree.ite (decide ((↑(numOf (0 : Nat) (Prod.fst (rTake (Prod.snd (rTake (b, false) (1 : Nat))) (4 : Nat)))) : Int) > (2147483647 : Int)))
                    (Tree.leaf ([TV.agg [Leaf.mk (LT.int IntKind.i64) (0 : Int), Leaf.mk (LT.int IntKind.i64) (0 : Int), Leaf.mk (LT.int IntKind.i64) (0 : Int), Leaf.mk (LT.sl (2 : Nat)) []], tI (2 : Int)], [RV.any]))
                    (Tree.leaf
                      ([TV.agg
                            [Leaf.mk (LT.int IntKind.i64) (↑(numOf (0 : Nat) (Prod.fst (rTake (b, false) (1 : Nat)))) : Int), Leaf.mk (LT.int IntKind.i64) (↑(numOf (0 : Nat) (Prod.fst (rTake (Prod.snd (rTake (b, false) (1 : Nat))) (4 : Nat)))) : Int), Leaf.mk (LT.int IntKind.i64) (0 : Int),
                              Leaf.mk (LT.sl (2 : Nat))
                                (Prod.fst
                                  (rdCells (Int.toNat ((↑(numOf (0 : Nat) (Prod.fst (rTake (Prod.snd (rTake (Prod.snd (rTake (b, false) (1 : Nat))) (4 : Nat))) (2 : Nat)))) : Int) - (0 : Int))) (Prod.snd (rTake (Prod.snd (rTake (Prod.snd (rTake (b, false) (1 : Nat))) (4 : Nat))) (2 : Nat))) []))],
                          tI (0 : Int)],
                        [RV.any])))))))
          (Tree.ite (!rEnded (Prod.fst (Prod.snd (rTake (b, false) (1 : Nat))), true)) (Tree.leaf ([TV.agg [Leaf.mk (LT.int IntKind.i64) (0 : Int), Leaf.mk (LT.int IntKind.i64) (0 : Int), Leaf.mk (LT.int IntKind.i64) (0 : Int), Leaf.mk (LT.sl (2 : Nat)) []], tI (2 : Int)], [RV.any]))
            (Tree.ite false (Tree.leaf ([TV.agg [Leaf.mk (LT.int IntKind.i64) (0 : Int), Leaf.mk (LT.int IntKind.i64) (0 : Int), Leaf.mk (LT.int IntKind.i64) (0 : Int), Leaf.mk (LT.sl (2 : Nat)) []], tI (2 : Int)], [RV.any]))
              (Tree.leaf ([TV.agg [Leaf.mk (LT.int IntKind.i64) (↑(numOf (0 : Nat) (Prod.fst (rTake (b, false) (1 : Nat)))) : Int), Leaf.mk (LT.int IntKind.i64) (0 : Int), Leaf.mk (LT.int IntKind.i64) (0 : Int), Leaf.mk (LT.sl (2 : Nat)) []], tI (0 : Int)], [RV.any])))))))) := by kernel_rfl
def F : List TV' → Tree (List TV') := aBytes fun b => a0 (.leaf [tReply (rdReplyTail (rdReply b)).1, tI (rdReplyTail (rdReply b)).2])
abbrev S : Spec En := pureSpec 1 F
theorem rfin (x : Reply) (r : BF) (b c : Bool) (h : b = rEnded r) (h2 : c = decide (x.version > 2147483647)) :
    (Tree.ite (!b) (.leaf ([tReply ⟨0, 0, 0, []⟩, tI 2], [RV.any])) (.ite c (.leaf ([tReply ⟨0, 0, 0, []⟩, tI 2], [RV.any])) (.leaf ([tReply x, tI 0], [RV.any]))) : Tree (List TV' × List RV')).reach ([tReply (rdReplyTail (x, r)).1, tI (rdReplyTail (x, r)).2], [RV.any]) := by
  subst h; subst h2
  unfold rdReplyTail
  dsimp only
  cases rEnded r
  · exact Tree.reach_tt rfl
  · cases decide (x.version > 2147483647)
    · exact Tree.reach_ff (Tree.reach_ff rfl)
    · exact Tree.reach_ff (Tree.reach_tt rfl)
theorem ok : SpecOk pr i_frame_ReadReply S := by
  refine pureOk (ctx := c) cok mixed h_frame_ReadReply (by kernel_rfl) (one_loop (by kernel_rfl) (by kernel_rfl) L0_ok) (by kernel_rfl) fun xs r h => ?_
  obtain ⟨b, _, rfl, g1⟩ := aBytes_r h
  obtain ⟨rfl, rfl⟩ := a0_r g1
  refine ⟨rfl, Tree.reach_of (fn_t b) (Tree.reach_req ⟨by omega, by omega⟩ ?_)⟩
  have hn (w : BF) : (numOf 0 (rTake w 2).1 : Nat) < 65536 := numOf_le (k := 2) (rTake_len w 2)
  unfold rdReply
  dsimp only
  cases h1 : (((numOf 0 (rTake (b, false) 1).1 : Nat) : Int) == 1) with
  | true =>
    refine Tree.reach_tt (Tree.reach_req ⟨by omega, by omega⟩ ?_)
    show Tree.reach _ ([tReply (rdReplyTail (⟨_, (rNum ((rNum (rTake (b, false) 1).2 1).2.1, (rTake (rTake (b, false) 1).2 1).2.2 || _) 4).1, _, []⟩, (rNum ((rNum (rTake (b, false) 1).2 1).2.1, (rTake (rTake (b, false) 1).2 1).2.2 || _) 4).2)).1, tI (rdReplyTail (⟨_, (rNum ((rNum (rTake (b, false) 1).2 1).2.1, (rTake (rTake (b, false) 1).2 1).2.2 || _) 4).1, _, []⟩, (rNum ((rNum (rTake (b, false) 1).2 1).2.1, (rTake (rTake (b, false) 1).2 1).2.2 || _) 4).2)).2], _)
    cases hb : (rTake (rTake (b, false) 1).2 1).2.2 with
    | true => exact Tree.reach_tt (Tree.reach_req ⟨by omega, by omega⟩ (rfin _ _ _ _ rfl rfl))
    | false => exact Tree.reach_ff (Tree.reach_req ⟨by omega, by omega⟩ (rfin _ _ _ _ rfl rfl))
  | false =>
  refine Tree.reach_ff ?_
  cases h4 : (((numOf 0 (rTake (b, false) 1).1 : Nat) : Int) == 4) with
  | true => exact Tree.reach_tt (Tree.reach_req ⟨by omega, by omega⟩ (rfin _ _ _ _ rfl rfl))
  | false =>
  refine Tree.reach_ff ?_
  have hq := hn (rTake (rTake (b, false) 1).2 4).2
  cases h2 : (((numOf 0 (rTake (b, false) 1).1 : Nat) : Int) == 2) with
  | true => exact Tree.reach_tt (Tree.reach_tt (Tree.reach_req ⟨by omega, by omega⟩ (Tree.reach_req ⟨by omega, by omega⟩ (Tree.reach_req ⟨by omega, by omega, by omega, by simp⟩ (rfin _ _ _ _ rfl rfl)))))
  | false =>
  refine Tree.reach_ff ?_
  cases h3 : (((numOf 0 (rTake (b, false) 1).1 : Nat) : Int) == 3) with
  | true => exact Tree.reach_tt (Tree.reach_req ⟨by omega, by omega⟩ (Tree.reach_req ⟨by omega, by omega⟩ (Tree.reach_req ⟨by omega, by omega, by omega, by simp⟩ (rfin _ _ _ _ rfl rfl))))
  | false => exact Tree.reach_ff (rfin _ _ _ _ rfl rfl)
end frame_ReadReply
end Go.Rf
end
end
section
set_option linter.unusedSimpArgs false
set_option linter.unusedVariables false
/-! What is read of a text is read of it with more behind. -/
namespace Go.Rf
def ExtP {α : Type} (f : BF → α × BF) : Prop := ∀ (r : BF) (t : List UInt8), (f r).2.2 = false → r.2 = false ∧ f (r.1 ++ t, false) = ((f r).1, ((f r).2.1 ++ t, false))
theorem ExtP.bind {α β : Type} {f : BF → α × BF} {g : α → BF → β × BF} (hf : ExtP f) (hg : ∀ a, ExtP (g a)) : ExtP (fun r => g (f r).1 (f r).2) := by
  intro r t h
  obtain ⟨h1, h2⟩ := hg _ _ t h
  obtain ⟨h3, h4⟩ := hf r t h1
  refine ⟨h3, ?_⟩
  dsimp only
  rw [h4, h2]
theorem ExtP.map {α β : Type} {f : BF → α × BF} (hf : ExtP f) (k : α → β) : ExtP (fun r => (k (f r).1, (f r).2)) := by
  intro r t h
  obtain ⟨h3, h4⟩ := hf r t h
  refine ⟨h3, ?_⟩
  dsimp only
  rw [h4]
theorem ExtP.pure {α : Type} (a : α) : ExtP (fun r : BF => (a, r)) := by
  intro r t h
  exact ⟨h, by dsimp only at h ⊢⟩
theorem rTake_ext (n : Nat) : ExtP (fun r => rTake r n) := by
  intro r t h
  dsimp only at h ⊢
  unfold rTake at h ⊢
  cases hb : (r.2 || decide (r.1.length < n)) with
  | true => rw [hb] at h; simp at h
  | false =>
    simp only [Bool.or_eq_false_iff, decide_eq_false_iff_not] at hb
    refine ⟨hb.1, ?_⟩
    have e : decide ((r.1 ++ t).length < n) = false := by rw [List.length_append]; simp; omega
    simp only [Bool.false_or, e, cond_false]
    rw [List.take_append_of_le_length (by omega), List.drop_append_of_le_length (by omega)]
theorem rNum_ext (n : Nat) : ExtP (fun r => rNum r n) := ((rTake_ext n).map (fun b => ((numOf 0 b : Nat) : Int)) : ExtP _)
theorem rShort_ext : ExtP rShort := ((rTake_ext 1).bind (g := fun b r => rTake r (numOf 0 b)) (fun b => rTake_ext _) : ExtP _)
theorem rdCell_ext : ExtP rdCell :=
  (rShort_ext.bind (g := fun s r => ((⟨s, (rNum r 2).1, (rNum (rNum r 2).2 2).1⟩ : Cell), (rNum (rNum r 2).2 2).2)) (fun s =>
    ((rNum_ext 2).bind (g := fun x r => ((⟨s, x, (rNum r 2).1⟩ : Cell), (rNum r 2).2)) (fun x => (rNum_ext 2).map (fun y => (⟨s, x, y⟩ : Cell))) : ExtP _)) : ExtP _)
theorem b0_app {b t : List UInt8} {i : Nat} (h : i < b.length) : b0 (b ++ t) i = b0 b i := by
  unfold b0
  rw [List.getD_eq_getElem?_getD, List.getD_eq_getElem?_getD, List.getElem?_append_left h]
theorem vSize_app {b t : List UInt8} (h : ¬ vSize b < 0) : vSize (b ++ t) = vSize b := by
  obtain ⟨_, hl, _, _⟩ := vSize_1 h
  unfold vSize at h ⊢
  have e1 : decide ((b.length : Int) < 1) = false := by simp; omega
  have e2 : decide (((b ++ t).length : Int) < 1) = false := by rw [List.length_append]; simp; omega
  rw [e1] at h ⊢
  rw [e2, b0_app hl]
  simp only [cond_false] at h ⊢
  cases k0 : ((b0 b 0 : Int) == 0) with
  | true => rfl
  | false =>
  cases k1 : ((b0 b 0 : Int) == 1) with
  | true => rfl
  | false =>
  cases k3 : ((b0 b 0 : Int) == 3 || (b0 b 0 : Int) == 4) with
  | true => rfl
  | false =>
  rw [k0, k1, k3] at h
  cases hm : decide ((b.length : Int) > 1) with
  | false => rw [hm] at h; simp at h
  | true =>
    have hm' : (b.length : Int) > 1 := by simpa using hm
    have e3 : decide (((b ++ t).length : Int) > 1) = true := by rw [List.length_append]; simp; omega
    rw [e3, b0_app (by omega)]
theorem vRead_app {b t : List UInt8} (h : (vRead b).2.2 = 0) : vRead (b ++ t) = vRead b := by
  cases hz : (decide (vSize b < 0) || decide (vSize b > b.length)) with
  | true => unfold vRead at h; rw [hz] at h; simp at h
  | false =>
    have hz' := hz
    simp only [Bool.or_eq_false_iff, decide_eq_false_iff_not] at hz'
    have hs := vSize_app (t := t) hz'.1
    obtain ⟨_, hl, _, _⟩ := vSize_1 hz'.1
    have hz2 : (decide (vSize (b ++ t) < 0) || decide (vSize (b ++ t) > (b ++ t).length)) = false := by
      rw [hs, List.length_append]
      simp only [Bool.or_eq_false_iff, decide_eq_false_iff_not]
      omega
    unfold vRead
    rw [hz, hz2, hs, b0_app hl, List.take_append_of_le_length (by omega)]
theorem rdShown_ext : ExtP rdShown := by
  intro r t h
  unfold rdShown at h ⊢
  dsimp only at h ⊢
  obtain ⟨h1, h2⟩ := rTake_ext _ _ t h
  simp only [Bool.or_eq_false_iff, bne_eq_false_iff_eq] at h1
  obtain ⟨h3, h4⟩ := rdCell_ext r t h1.1
  refine ⟨h3, ?_⟩
  rw [h4]
  dsimp only
  rw [vRead_app h1.2]
  have e : (false || (vRead (rdCell r).2.1).2.2 != 0) = false := by rw [h1.2]; rfl
  rw [e]
  dsimp only at h2
  rw [h2]
theorem rdCells_ext : ∀ (k : Nat) (acc : List Shown), ExtP (fun r => rdCells k r acc)
  | 0, acc => ExtP.pure acc
  | k + 1, acc => by
    intro r t h
    dsimp only at h ⊢
    unfold rdCells at h ⊢
    cases hb : r.2 with
    | true => rw [hb] at h; simp only [cond_true] at h; rw [hb] at h; cases h
    | false =>
      rw [hb] at h
      simp only [cond_false] at h ⊢
      obtain ⟨h1, h2⟩ := rdCells_ext k _ _ t h
      obtain ⟨h3, h4⟩ := rdShown_ext r t h1
      refine ⟨trivial, ?_⟩
      rw [h4]
      exact h2
def rdEditK (k : Int) (r : BF) : Edit × BF :=
  bif k == 1 then (⟨k, (rdCell r).1, [], (rShort (rdCell r).2).1, zRange⟩, (rShort (rdCell r).2).2) else
  bif k == 2 then (⟨k, (rdCell r).1, [], [], zRange⟩, (rdCell r).2) else
  bif k == 3 || k == 4 then (⟨k, ⟨[], 0, 0⟩, (rShort r).1, [], zRange⟩, (rShort r).2) else
  bif k == 5 then (⟨k, ⟨[], 0, 0⟩, (rShort r).1, (rShort (rShort r).2).1, zRange⟩, (rShort (rShort r).2).2) else
  bif k == 8 then (⟨k, ⟨[], 0, 0⟩, [], [], ⟨(rdCell r).1, (rdCell (rdCell r).2).1⟩⟩, (rdCell (rdCell r).2).2) else
  bif k == 6 || k == 7 || k == 9 then (⟨k, ⟨[], 0, 0⟩, [], [], zRange⟩, r) else (⟨k, ⟨[], 0, 0⟩, [], [], zRange⟩, (r.1, true))
def rdEditS (r : BF) : Edit × BF := rdEditK (numOf 0 (rTake r 1).1 : Nat) (rTake r 1).2
theorem rdEdit_S (b : List UInt8) : rdEdit b = rdEditS (b, false) := rfl
theorem rdEditK_ext (k : Int) : ExtP (rdEditK k) := by
  unfold rdEditK
  cases (k == 1) with
  | true => exact (rdCell_ext.bind (g := fun c r => ((⟨k, c, [], (rShort r).1, zRange⟩ : Edit), (rShort r).2)) (fun c => rShort_ext.map (fun s => (⟨k, c, [], s, zRange⟩ : Edit))) : ExtP _)
  | false =>
  cases (k == 2) with
  | true => exact (rdCell_ext.map (fun c => (⟨k, c, [], [], zRange⟩ : Edit)) : ExtP _)
  | false =>
  cases (k == 3 || k == 4) with
  | true => exact (rShort_ext.map (fun s => (⟨k, ⟨[], 0, 0⟩, s, [], zRange⟩ : Edit)) : ExtP _)
  | false =>
  cases (k == 5) with
  | true => exact (rShort_ext.bind (g := fun c r => ((⟨k, ⟨[], 0, 0⟩, c, (rShort r).1, zRange⟩ : Edit), (rShort r).2)) (fun c => rShort_ext.map (fun s => (⟨k, ⟨[], 0, 0⟩, c, s, zRange⟩ : Edit))) : ExtP _)
  | false =>
  cases (k == 8) with
  | true => exact (rdCell_ext.bind (g := fun c r => ((⟨k, ⟨[], 0, 0⟩, [], [], ⟨c, (rdCell r).1⟩⟩ : Edit), (rdCell r).2)) (fun c => rdCell_ext.map (fun s => (⟨k, ⟨[], 0, 0⟩, [], [], ⟨c, s⟩⟩ : Edit))) : ExtP _)
  | false =>
  cases (k == 6 || k == 7 || k == 9) with
  | true => exact ExtP.pure _
  | false =>
    intro r t h
    cases h
theorem rdEditS_ext : ExtP rdEditS := ((rTake_ext 1).bind (g := fun b r => rdEditK (numOf 0 b : Nat) r) (fun b => rdEditK_ext _) : ExtP _)
def rdReplyK (k : Int) (r : BF) : Reply × BF :=
  bif k == 1 then
    (⟨k, (rNum ((rNum r 1).2.1, (rNum r 1).2.2 || !(decide ((rNum r 1).1 ≥ 1) && decide ((rNum r 1).1 ≤ 10))) 4).1, (rNum r 1).1, []⟩, (rNum ((rNum r 1).2.1, (rNum r 1).2.2 || !(decide ((rNum r 1).1 ≥ 1) && decide ((rNum r 1).1 ≤ 10))) 4).2) else
  bif k == 4 then (⟨k, (rNum r 4).1, 0, []⟩, (rNum r 4).2) else
  bif k == 2 || k == 3 then (⟨k, (rNum r 4).1, 0, (rdCells ((rNum (rNum r 4).2 2).1 - 0).toNat (rNum (rNum r 4).2 2).2 []).1⟩, (rdCells ((rNum (rNum r 4).2 2).1 - 0).toNat (rNum (rNum r 4).2 2).2 []).2) else
  (⟨k, 0, 0, []⟩, (r.1, true))
def rdReplyS (r : BF) : Reply × BF := rdReplyK (numOf 0 (rTake r 1).1 : Nat) (rTake r 1).2
theorem rdReply_S (b : List UInt8) : rdReply b = rdReplyS (b, false) := rfl
/-- A flag may be raised by what was read. -/
theorem rFlag_ext (f : Bool) : ExtP (fun r => ((), ((r.1, r.2 || f) : BF))) := by
  intro r t h
  dsimp only at h ⊢
  simp only [Bool.or_eq_false_iff] at h
  obtain ⟨h1, rfl⟩ := h
  exact ⟨h1, rfl⟩
theorem rdReplyK_ext (k : Int) : ExtP (rdReplyK k) := by
  unfold rdReplyK
  cases (k == 1) with
  | true => exact ((rNum_ext 1).bind (g := fun x r => ((⟨k, (rNum (r.1, r.2 || !(decide (x ≥ 1) && decide (x ≤ 10))) 4).1, x, []⟩ : Reply), (rNum (r.1, r.2 || !(decide (x ≥ 1) && decide (x ≤ 10))) 4).2)) (fun x =>
      ((rFlag_ext (!(decide (x ≥ 1) && decide (x ≤ 10)))).bind (g := fun _ r => ((⟨k, (rNum r 4).1, x, []⟩ : Reply), (rNum r 4).2)) (fun _ => (rNum_ext 4).map (fun v => (⟨k, v, x, []⟩ : Reply))) : ExtP _)) : ExtP _)
  | false =>
  cases (k == 4) with
  | true => exact ((rNum_ext 4).map (fun v => (⟨k, v, 0, []⟩ : Reply)) : ExtP _)
  | false =>
  cases (k == 2 || k == 3) with
  | true => exact ((rNum_ext 4).bind (g := fun v r => ((⟨k, v, 0, (rdCells ((rNum r 2).1 - 0).toNat (rNum r 2).2 []).1⟩ : Reply), (rdCells ((rNum r 2).1 - 0).toNat (rNum r 2).2 []).2)) (fun v =>
      ((rNum_ext 2).bind (g := fun n r => ((⟨k, v, 0, (rdCells (n - 0).toNat r []).1⟩ : Reply), (rdCells (n - 0).toNat r []).2)) (fun n => (rdCells_ext (n - 0).toNat []).map (fun l => (⟨k, v, 0, l⟩ : Reply))) : ExtP _)) : ExtP _)
  | false =>
    intro r t h
    cases h
theorem rdReplyS_ext : ExtP rdReplyS := ((rTake_ext 1).bind (g := fun b r => rdReplyK (numOf 0 b : Nat) r) (fun b => rdReplyK_ext _) : ExtP _)
theorem ended_iff {r : BF} : rEnded r = true ↔ r = ([], false) := by
  obtain ⟨ys, b⟩ := r
  unfold rEnded
  cases b <;> simp
/-- What is read to its end is not read to the end of any beginning, nor with more behind. -/
theorem torn {α : Type} {f : BF → α × BF} (hf : ExtP f) {x : List UInt8} (h : rEnded (f (x, false)).2 = true) :
    (∀ m, m < x.length → rEnded (f (x.take m, false)).2 = false) ∧ ∀ t, t ≠ [] → rEnded (f (x ++ t, false)).2 = false := by
  have hx := ended_iff.1 h
  refine ⟨fun m hm => ?_, fun t ht => ?_⟩
  · cases he : rEnded (f (x.take m, false)).2 with
    | false => rfl
    | true =>
      exfalso
      have hy := ended_iff.1 he
      obtain ⟨_, h2⟩ := hf (x.take m, false) (x.drop m) (by rw [hy])
      dsimp only at h2
      rw [List.take_append_drop, hy] at h2
      rw [h2] at hx
      have := congrArg (fun r : BF => r.1.length) hx
      simp at this
      omega
  · cases he : rEnded (f (x ++ t, false)).2 with
    | false => rfl
    | true =>
      exfalso
      have hy := ended_iff.1 he
      obtain ⟨_, h2⟩ := hf (x, false) t (by rw [hx])
      dsimp only at h2
      rw [h2, hx] at hy
      have := congrArg Prod.fst hy
      exact ht (by simpa using this)
end Go.Rf
end
section
set_option linter.unusedSimpArgs false
set_option linter.unusedVariables false
/-! What is written is read back. -/
namespace Go.Rf
theorem bt_fdiv (x k : Nat) : (bt (Int.fdiv (x : Int) (2 ^ (8 * k)))).toNat = x / 256 ^ k % 256 := by
  have h := bt_nat (Int.fdiv (x : Int) (2 ^ (8 * k)))
  have hp : (2 : Int) ^ (8 * k) = ((256 ^ k : Nat) : Int) := by rw [Int.pow_mul]; norm_cast
  rw [hp, Int.fdiv_eq_ediv_of_nonneg _ (Int.natCast_nonneg _)] at h
  rw [hp, Int.fdiv_eq_ediv_of_nonneg _ (Int.natCast_nonneg _)]
  generalize 256 ^ k = m at h ⊢
  have h3 : (x : Int) / (m : Int) = ((x / m : Nat) : Int) := (Int.natCast_ediv x m).symm
  rw [h3] at h ⊢
  omega
theorem numOf_be (x : Nat) : ∀ (k n : Nat), numOf n (be (x : Int) k) = n * 256 ^ k + x % 256 ^ k
  | 0, n => by simp [be, numOf, Nat.mod_one]
  | k + 1, n => by
    have e : numOf n (be (x : Int) (k + 1)) = numOf (n * 256 + (bt (Int.fdiv (x : Int) (2 ^ (8 * k)))).toNat) (be x k) := rfl
    rw [e, numOf_be x k, bt_fdiv, Nat.pow_succ, Nat.mod_mul, Nat.add_mul]
    have : n * 256 * 256 ^ k = n * (256 ^ k * 256) := by rw [Nat.mul_assoc, Nat.mul_comm 256]
    rw [this, Nat.mul_comm (x / 256 ^ k % 256)]
    omega
theorem rTake_app (l t : List UInt8) : rTake (l ++ t, false) l.length = (l, (t, false)) := by
  unfold rTake
  have : decide ((l ++ t).length < l.length) = false := by rw [List.length_append]; simp
  simp only [Bool.false_or, this, cond_false, List.take_left', List.drop_left']
theorem rNum_back {x : Int} {k : Nat} (h0 : 0 ≤ x) (h1 : x < ((256 ^ k : Nat) : Int)) (t : List UInt8) : rNum (be x k ++ t, false) k = (x, (t, false)) := by
  obtain ⟨n, rfl⟩ := Int.eq_ofNat_of_zero_le h0
  have hn : n < 256 ^ k := by exact_mod_cast h1
  unfold rNum
  have e := rTake_app (be (n : Int) k) t
  rw [be_len] at e
  rw [e, numOf_be, Nat.mod_eq_of_lt hn]
  simp
theorem be1 (x : Int) : be x 1 = [bt x] := by simp [be]
theorem rShort_back {s : List UInt8} (h : s.length ≤ 255) (t : List UInt8) : rShort ([bt s.length] ++ s ++ t, false) = (s, (t, false)) := by
  have e := rNum_back (x := (s.length : Int)) (k := 1) (by omega) (by simp; omega) (s ++ t)
  rw [be1, ← List.append_assoc] at e
  unfold rShort
  have e2 : (rTake ([bt s.length] ++ s ++ t, false) 1).2 = (s ++ t, false) := congrArg Prod.snd e
  have e3 : numOf 0 (rTake ([bt s.length] ++ s ++ t, false) 1).1 = s.length := by
    have := congrArg Prod.fst e
    exact Int.ofNat.inj this
  show rTake (rTake _ 1).2 _ = _
  rw [e2, e3, rTake_app]
def encS (s : List UInt8) : List UInt8 := [bt s.length] ++ s
def encC (c : Cell) : List UInt8 := encS c.sheet ++ (be c.col 2 ++ be c.row 2)
theorem dShort_enc {b s : List UInt8} (h : (dShort b s).2 = true) : s.length ≤ 255 ∧ (dShort b s).1 = b ++ encS s := by
  unfold dShort at h ⊢
  cases hd : decide (255 < s.length) with
  | true => rw [hd] at h; cases h
  | false =>
    have : ¬ 255 < s.length := by simpa using hd
    exact ⟨by omega, by simp only [cond_false, encS, List.append_assoc]⟩
theorem dCell_enc {b : List UInt8} {c : Cell} (h : (dCell b c).2 = true) : dCellIn c = true ∧ c.sheet.length ≤ 255 ∧ (dCell b c).1 = b ++ encC c := by
  unfold dCell at h ⊢
  cases hd : dCellIn c with
  | false => rw [hd] at h; cases h
  | true =>
    rw [hd] at h
    obtain ⟨h1, h2⟩ := dShort_enc h
    refine ⟨rfl, h1, ?_⟩
    simp only [cond_true, h2, encC, List.append_assoc]
theorem rShort_enc {s : List UInt8} (h : s.length ≤ 255) (t : List UInt8) : rShort (encS s ++ t, false) = (s, (t, false)) := rShort_back h t
theorem rdCell_enc {c : Cell} (h : dCellIn c = true) (hs : c.sheet.length ≤ 255) (t : List UInt8) : rdCell (encC c ++ t, false) = (c, (t, false)) := by
  unfold dCellIn at h
  simp only [Bool.not_eq_true', Bool.or_eq_false_iff, decide_eq_false_iff_not] at h
  obtain ⟨⟨⟨h1, h2⟩, h3⟩, h4⟩ := h
  have e : encC c ++ t = encS c.sheet ++ (be c.col 2 ++ (be c.row 2 ++ t)) := by simp only [encC, List.append_assoc]
  unfold rdCell
  rw [e, rShort_enc hs]
  dsimp only
  rw [rNum_back (x := c.col) (k := 2) (by omega) (by simp; omega)]
  dsimp only
  rw [rNum_back (x := c.row) (k := 2) (by omega) (by simp; omega)]
theorem rTake_1 {k : Int} (h0 : 0 ≤ k) (h1 : k < 256) (t : List UInt8) : (numOf 0 (rTake ([bt k] ++ t, false) 1).1 : Int) = k ∧ (rTake ([bt k] ++ t, false) 1).2 = (t, false) := by
  have e := rNum_back (x := k) (k := 1) h0 (by simpa using h1) t
  rw [be1] at e
  exact ⟨congrArg Prod.fst e, congrArg Prod.snd e⟩
theorem edit_back {e : Edit} (h : dEdit e ≠ []) : rEnded (rdEditS (dEdit e, false)).2 = true := by
  obtain ⟨k, a, n, t, ⟨f, g⟩⟩ := e
  unfold dEdit at h ⊢
  dsimp only at h ⊢
  cases hr : (decide (k < 1) || decide (k > 9)) with
  | true => rw [hr] at h; simp at h
  | false =>
  rw [hr] at h
  have hk := hr
  simp only [Bool.or_eq_false_iff, decide_eq_false_iff_not] at hk
  simp only [cond_false] at h ⊢
  cases hf : (!(dEditOf ⟨k, a, n, t, ⟨f, g⟩⟩).2.1 || !(dEditOf ⟨k, a, n, t, ⟨f, g⟩⟩).2.2) with
  | true => rw [hf] at h; simp at h
  | false =>
  simp only [cond_false]
  simp only [Bool.or_eq_false_iff, Bool.not_eq_false'] at hf
  have key : ∀ {enc : List UInt8}, (dEditOf ⟨k, a, n, t, ⟨f, g⟩⟩).1 = [bt k] ++ enc → (rdEditK k (enc, false)).2 = ([], false) → rEnded (rdEditS ((dEditOf ⟨k, a, n, t, ⟨f, g⟩⟩).1, false)).2 = true := by
    intro enc h1 h2
    rw [h1]
    unfold rdEditS
    obtain ⟨e1, e2⟩ := rTake_1 (k := k) (by omega) (by omega) enc
    rw [e1, e2, h2]
    rfl
  unfold dEditOf at hf key ⊢
  unfold rdEditK at key
  dsimp only at hf key ⊢
  cases k1 : (k == (1 : Int)) with
  | true =>
    rw [k1] at hf key
    simp only [cond_true] at hf key ⊢
    obtain ⟨c1, c2, c3⟩ := dCell_enc hf.1
    obtain ⟨s1, s2⟩ := dShort_enc hf.2
    refine key (enc := encC a ++ (encS t ++ [])) (by rw [s2, c3, List.append_nil, List.append_assoc]) ?_
    rw [rdCell_enc c1 c2]; dsimp only; rw [rShort_enc s1]
  | false =>
  cases k2 : (k == (2 : Int)) with
  | true =>
    rw [k1, k2] at hf key
    simp only [cond_true, cond_false] at hf key ⊢
    obtain ⟨c1, c2, c3⟩ := dCell_enc hf.1
    refine key (enc := encC a ++ []) (by rw [c3, List.append_nil]) ?_
    rw [rdCell_enc c1 c2]
  | false =>
  cases k3 : (k == (3 : Int) || k == (4 : Int)) with
  | true =>
    rw [k1, k2, k3] at hf key
    simp only [cond_true, cond_false] at hf key ⊢
    obtain ⟨s1, s2⟩ := dShort_enc hf.1
    refine key (enc := encS n ++ []) (by rw [s2, List.append_nil]) ?_
    rw [rShort_enc s1]
  | false =>
  cases k5 : (k == (5 : Int)) with
  | true =>
    rw [k1, k2, k3, k5] at hf key
    simp only [cond_true, cond_false] at hf key ⊢
    obtain ⟨s1, s2⟩ := dShort_enc hf.1
    obtain ⟨s3, s4⟩ := dShort_enc hf.2
    refine key (enc := encS n ++ (encS t ++ [])) (by rw [s4, s2, List.append_nil, List.append_assoc]) ?_
    rw [rShort_enc s1]; dsimp only; rw [rShort_enc s3]
  | false =>
  cases k8 : (k == (8 : Int)) with
  | true =>
    rw [k1, k2, k3, k5, k8] at hf key
    simp only [cond_true, cond_false] at hf key ⊢
    obtain ⟨c1, c2, c3⟩ := dCell_enc hf.1
    obtain ⟨d1, d2, d3⟩ := dCell_enc hf.2
    refine key (enc := encC f ++ (encC g ++ [])) (by rw [d3, c3, List.append_nil, List.append_assoc]) ?_
    rw [rdCell_enc c1 c2]; dsimp only; rw [rdCell_enc d1 d2]
  | false =>
    rw [k1, k2, k3, k5, k8] at hf key
    simp only [cond_true, cond_false] at hf key ⊢
    refine key (enc := []) (by simp) ?_
    have : (k == 6 || k == 7 || k == 9) = true := by
      simp only [Bool.or_eq_false_iff, beq_eq_false_iff_ne] at k1 k2 k3 k5 k8
      have : k = 6 ∨ k = 7 ∨ k = 9 := by omega
      rcases this with rfl | rfl | rfl <;> rfl
    rw [this]; rfl
theorem b0_cons (x : UInt8) (l : List UInt8) : b0 (x :: l) 0 = x.toNat := rfl
theorem b0_cons1 (x y : UInt8) (l : List UInt8) : b0 (x :: y :: l) 1 = y.toNat := rfl
theorem bt_small {k : Int} (h0 : 0 ≤ k) (h1 : k < 256) : ((bt k).toNat : Int) = k := by
  rw [bt_nat]; omega
/-- A value that may be is read back, as far as it goes. -/
theorem vBack {v : Val} (h : vRight v = true) (t : List UInt8) : ∃ v', vRead (vBytes v ++ t) = (v', ((vBytes v).length : Int), 0) := by
  obtain ⟨k, n, s⟩ := v
  have hB : vBytes ⟨k, n, s⟩ = (bif k == 1 then [bt k] ++ be (IntKind.wrap .u64 n) 8 else bif k == 2 then [bt k] ++ [bt s.length] ++ s else bif k == 3 || k == 4 then [bt k] ++ [bt n] else [bt k]) := by unfold vBytes; rw [h]; rfl
  have tail (v : Val) (s : Int) (hv : vRight v = true) : vTail v s = (v, s, 0) := by unfold vTail; rw [hv]; rfl
  have hread (b : List UInt8) (z : Int) (h1 : vSize b = z) (h2 : 0 ≤ z) (h3 : z ≤ b.length) : vRead b = bif (b0 b 0 : Int) == 0 then vTail ⟨b0 b 0, 0, []⟩ z else
      bif (b0 b 0 : Int) == 1 || (b0 b 0 : Int) == 3 || (b0 b 0 : Int) == 4 then vTail ⟨b0 b 0, IntKind.wrap .i64 (numOf 0 ((b.take z.toNat).drop 1) : Nat), []⟩ z else vTail ⟨b0 b 0, 0, (b.take z.toNat).drop 2⟩ z := by
    unfold vRead
    rw [h1, show (decide (z < 0) || decide (z > (b.length : Int))) = false by simp; omega]
    rfl
  rw [hB]
  cases k1 : (k == (1 : Int)) with
  | true =>
    obtain rfl : k = 1 := by simpa using k1
    simp only [cond_true]
    have e0 : ((b0 ([bt 1] ++ be (IntKind.wrap .u64 n) 8 ++ t) 0 : Nat) : Int) = 1 := by
      show ((bt 1).toNat : Int) = 1
      exact bt_small (by omega) (by omega)
    have hs : vSize ([bt 1] ++ be (IntKind.wrap .u64 n) 8 ++ t) = 9 := by
      unfold vSize
      rw [e0, show decide ((([bt 1] ++ be (IntKind.wrap .u64 n) 8 ++ t).length : Int) < 1) = false by simp; omega]
      rfl
    rw [hread _ 9 hs (by omega) (by simp [be_len]; omega), e0]
    exact ⟨⟨1, IntKind.wrap .i64 (numOf 0 ((List.take (9 : Int).toNat ([bt 1] ++ be (IntKind.wrap .u64 n) 8 ++ t)).drop 1) : Nat), []⟩, tail ⟨1, IntKind.wrap .i64 (numOf 0 ((List.take (9 : Int).toNat ([bt 1] ++ be (IntKind.wrap .u64 n) 8 ++ t)).drop 1) : Nat), []⟩ 9 rfl⟩
  | false =>
  cases k2 : (k == (2 : Int)) with
  | true =>
    obtain rfl : k = 2 := by simpa using k2
    simp only [cond_true, cond_false]
    have hl : (s.length : Int) ≤ 200 ∧ n = 0 := by
      unfold vRight at h
      cases hn : (n == (0 : Int)) with
      | false => simp only at h; rw [hn] at h; cases h
      | true => simp only at h; rw [hn] at h; exact ⟨of_decide_eq_true h, by simpa using hn⟩
    have e0 : ((b0 ([bt 2] ++ [bt s.length] ++ s ++ t) 0 : Nat) : Int) = 2 := by
      show ((bt 2).toNat : Int) = 2
      exact bt_small (by omega) (by omega)
    have e1 : ((b0 ([bt 2] ++ [bt s.length] ++ s ++ t) 1 : Nat) : Int) = s.length := by
      show ((bt s.length).toNat : Int) = s.length
      exact bt_small (by omega) (by omega)
    have hs : vSize ([bt 2] ++ [bt s.length] ++ s ++ t) = 2 + s.length := by
      unfold vSize
      rw [e0, e1, show decide ((([bt 2] ++ [bt s.length] ++ s ++ t).length : Int) < 1) = false by simp; omega, show decide ((([bt 2] ++ [bt s.length] ++ s ++ t).length : Int) > 1) = true by simp; omega]
      rfl
    rw [hread _ _ hs (by omega) (by simp; omega), e0]
    have hz : (List.take (2 + (s.length : Int)).toNat ([bt 2] ++ [bt s.length] ++ s ++ t)).drop 2 = s := by
      have : (2 + (s.length : Int)).toNat = ([bt 2] ++ [bt s.length] ++ s).length := by simp; omega
      rw [this, List.take_left']
      · rfl
      · rfl
    rw [hz]
    refine ⟨⟨2, 0, s⟩, ?_⟩
    have hle : (([bt 2] ++ [bt s.length] ++ s).length : Int) = 2 + s.length := by simp; omega
    rw [hle]
    exact tail _ _ (by unfold vRight; simp; omega)
  | false =>
  cases k3 : (k == (3 : Int) || k == (4 : Int)) with
  | true =>
    simp only [cond_true, cond_false]
    have hk : k = 3 ∨ k = 4 := by simpa using k3
    have hn : s = [] ∧ 0 ≤ n ∧ n ≤ 7 := by
      unfold vRight at h
      dsimp only at h
      rcases hk with rfl | rfl
      · cases n0 : (n == (0 : Int)) with
        | true => rw [n0] at h; simp at h n0; exact ⟨h, by omega, by omega⟩
        | false =>
          cases n1 : (n == (1 : Int)) with
          | true => rw [n0, n1] at h; simp at h n1; exact ⟨h, by omega, by omega⟩
          | false => rw [n0, n1] at h; simp at h
      · cases n0 : decide (n ≥ (1 : Int)) with
        | false => rw [n0] at h; simp at h
        | true =>
          cases n1 : decide (n ≤ (7 : Int)) with
          | false => rw [n0, n1] at h; simp at h
          | true => rw [n0, n1] at h; simp at h n0 n1; exact ⟨h, by omega, by omega⟩
    obtain ⟨rfl, h0, h7⟩ := hn
    have e0 : ((b0 ([bt k] ++ [bt n] ++ t) 0 : Nat) : Int) = k := bt_small (by omega) (by omega)
    have q0 : (k == (0 : Int)) = false := by rcases hk with rfl | rfl <;> rfl
    have hs : vSize ([bt k] ++ [bt n] ++ t) = 2 := by
      unfold vSize
      rw [e0, q0, k1, k3, show decide ((([bt k] ++ [bt n] ++ t).length : Int) < 1) = false by simp; omega]
      rfl
    rw [hread _ 2 hs (by omega) (by simp; omega), e0, q0]
    have k3' : (k == 1 || k == 3 || k == 4) = true := by rw [k1, Bool.false_or]; exact k3
    rw [k3']
    have hz : numOf 0 ((List.take (2 : Int).toNat ([bt k] ++ [bt n] ++ t)).drop 1) = n.toNat := by
      show 0 * 256 + (bt n).toNat = n.toNat
      have := bt_small h0 (by omega : n < 256)
      omega
    rw [hz]
    have hw : IntKind.wrap .i64 ((n.toNat : Nat) : Int) = n := by rw [wrap_i64 (by omega) (by omega)]; omega
    rw [hw]
    exact ⟨⟨k, n, []⟩, tail _ _ h⟩
  | false =>
    simp only [cond_false]
    have q0 : (k == (0 : Int)) = true := by
      unfold vRight at h
      dsimp only at h
      simp only [Bool.or_eq_false_iff] at k3
      rw [k1, k2, k3.1, k3.2] at h
      cases hq : (k == (0 : Int)) with
      | true => rfl
      | false => rw [hq] at h; simp at h
    obtain rfl : k = 0 := by simpa using q0
    have e0 : ((b0 ([bt 0] ++ t) 0 : Nat) : Int) = 0 := bt_small (by omega) (by omega)
    have hs : vSize ([bt 0] ++ t) = 1 := by
      unfold vSize
      rw [e0, show decide ((([bt 0] ++ t).length : Int) < 1) = false by simp; omega]
      rfl
    rw [hread _ 1 hs (by omega) (by simp; omega), e0]
    exact ⟨⟨0, 0, []⟩, tail ⟨0, 0, []⟩ 1 rfl⟩
def encSh (x : Shown) : List UInt8 := encC x.cell ++ vBytes x.val
def shOk (x : Shown) : Prop := dCellIn x.cell = true ∧ x.cell.sheet.length ≤ 255 ∧ vRight x.val = true
theorem rdShown_enc {x : Shown} (h : shOk x) (t : List UInt8) : (rdShown (encSh x ++ t, false)).2 = (t, false) := by
  obtain ⟨h1, h2, h3⟩ := h
  obtain ⟨v', hv⟩ := vBack h3 t
  have e : encSh x ++ t = encC x.cell ++ (vBytes x.val ++ t) := by unfold encSh; rw [List.append_assoc]
  unfold rdShown
  rw [e, rdCell_enc h1 h2]
  dsimp only
  rw [hv]
  have := rTake_app (vBytes x.val) t
  dsimp only
  rw [Int.toNat_natCast]
  exact congrArg Prod.snd this
theorem vRight_of {v : Val} (h : ((vBytes v).length : Int) ≠ 0) : vRight v = true := by
  cases hr : vRight v with
  | true => rfl
  | false => unfold vBytes at h; rw [hr] at h; simp at h
theorem dCells_enc : ∀ {l : List Shown} {b : List UInt8}, (dCells b l).2 = true → (dCells b l).1 = b ++ l.flatMap encSh ∧ ∀ x ∈ l, shOk x
  | [], b, _ => ⟨by simp [dCells], by simp⟩
  | x :: l, b, h => by
    unfold dCells at h ⊢
    cases hc : (!(dCell b x.cell).2 || ((vBytes x.val).length : Int) == 0) with
    | true => rw [hc] at h; cases h
    | false =>
      rw [hc] at h
      simp only [cond_false] at h ⊢
      simp only [Bool.or_eq_false_iff, Bool.not_eq_false', beq_eq_false_iff_ne] at hc
      obtain ⟨c1, c2, c3⟩ := dCell_enc hc.1
      obtain ⟨h1, h2⟩ := dCells_enc h
      refine ⟨?_, fun y hy => ?_⟩
      · rw [h1, c3]; simp only [List.flatMap_cons, encSh, List.append_assoc]
      · rcases List.mem_cons.1 hy with rfl | hy
        · exact ⟨c1, c2, vRight_of hc.2⟩
        · exact h2 y hy
theorem rdCells_enc : ∀ {l : List Shown} (_ : ∀ x ∈ l, shOk x) (t : List UInt8) (acc : List Shown), (rdCells l.length (l.flatMap encSh ++ t, false) acc).2 = (t, false)
  | [], _, t, acc => rfl
  | x :: l, h, t, acc => by
    have e : (x :: l).flatMap encSh ++ t = encSh x ++ (l.flatMap encSh ++ t) := by rw [List.flatMap_cons, List.append_assoc]
    rw [e]
    show (bif false then _ else rdCells l.length (rdShown (encSh x ++ (l.flatMap encSh ++ t), false)).2 _ : List Shown × BF).2 = _
    rw [rdShown_enc (h x List.mem_cons_self)]
    exact rdCells_enc (fun y hy => h y (List.mem_cons_of_mem _ hy)) t _
theorem reply_back {r : Reply} (h : dReply r ≠ []) : rEnded (rdReplyS (dReply r, false)).2 = true := by
  obtain ⟨k, v, e, l⟩ := r
  unfold dReply at h ⊢
  cases ho : dReplyOk ⟨k, v, e, l⟩ with
  | false => rw [ho] at h; simp at h
  | true =>
  rw [ho] at h
  simp only [Bool.not_true, cond_false] at h ⊢
  unfold dReplyOk at ho
  simp only [Bool.not_eq_true', Bool.or_eq_false_iff, decide_eq_false_iff_not] at ho
  obtain ⟨⟨⟨⟨o1, o2⟩, o3⟩, o4⟩, o5⟩ := ho
  have key : ∀ {x enc : List UInt8}, x = [bt k] ++ enc → (rdReplyK k (enc, false)).2 = ([], false) → rEnded (rdReplyS (x, false)).2 = true := by
    intro x enc h1 h2
    rw [h1]
    unfold rdReplyS
    obtain ⟨e1, e2⟩ := rTake_1 (k := k) (by omega) (by omega) enc
    rw [e1, e2, h2]
    rfl
  have ver (t : List UInt8) := rNum_back (x := v) (k := 4) (by omega) (by simp; omega) t
  unfold rdReplyK at key
  cases k1 : (k == (1 : Int)) with
  | true =>
    obtain rfl : k = 1 := by simpa using k1
    rw [k1] at o5 key
    simp only [Bool.true_and, Bool.or_eq_false_iff, decide_eq_false_iff_not] at o5
    refine key (enc := be e 1 ++ (be v 4 ++ [])) (by simp [dHead, be1]) ?_
    rw [rNum_back (x := e) (k := 1) (by omega) (by simp; omega)]
    dsimp only
    have hf : (false || !(decide (e ≥ 1) && decide (e ≤ 10))) = false := by simp; omega
    simp only [cond_true, hf]
    rw [ver]
  | false =>
  have hd : dHead ⟨k, v, e, l⟩ = [bt k] ++ be v 4 := by unfold dHead; dsimp only; rw [k1]; rfl
  cases k4 : (k == (4 : Int)) with
  | true =>
    obtain rfl : k = 4 := by simpa using k4
    rw [k1, k4] at key
    refine key (enc := be v 4 ++ []) (by rw [List.append_nil, ← hd]; rfl) ?_
    rw [ver]; rfl
  | false =>
    have k23 : k = 2 ∨ k = 3 := by
      simp only [beq_eq_false_iff_ne] at k1 k4
      omega
    have kb : (k == 2 || k == 3) = true := by rcases k23 with rfl | rfl <;> rfl
    have kc : (k != 2 && k != 3) = false := by rcases k23 with rfl | rfl <;> rfl
    rw [k1, k4, kb] at key
    rw [kc] at h ⊢
    simp only [cond_false, cond_true] at h ⊢ key
    cases hl : decide ((l.length : Int) > 65535) with
    | true => rw [hl] at h; simp at h
    | false =>
      rw [hl] at h
      have hl' : ¬ (l.length : Int) > 65535 := by simpa using hl
      simp only [cond_false] at h ⊢
      cases hc : (dCells (dHead ⟨k, v, e, l⟩ ++ be (l.length : Nat) 2) l).2 with
      | false => rw [dCells_no hc] at h; exact absurd rfl h
      | true =>
        obtain ⟨h1, h2⟩ := dCells_enc hc
        refine key (enc := be v 4 ++ (be (l.length : Nat) 2 ++ (l.flatMap encSh ++ []))) (by rw [h1, hd, List.append_nil]; simp only [List.append_assoc]) ?_
        rw [ver]
        dsimp only
        rw [rNum_back (x := (l.length : Int)) (k := 2) (by omega) (by simp; omega)]
        dsimp only
        rw [show ((l.length : Int) - 0).toNat = l.length by omega]
        exact rdCells_enc h2 [] []
end Go.Rf
end
section
set_option linter.unusedSimpArgs false
set_option linter.unusedVariables false
noncomputable section
namespace Go.Rf
open Go.Proofs
set_option maxRecDepth 100000
namespace law24_FrameTorn
abbrev c := cxl f_law24_FrameTorn [(i_law24_num, law24_num.S), (i_law24_alive, law24_alive.S), (i_frame_ReadEdit, frame_ReadEdit.S), (i_frame_ReadReply, frame_ReadReply.S), (i_ref21_EditBytes, ref21_EditBytes.S), (i_ref21_ReplyBytes, ref21_ReplyBytes.S)] [] []
theorem fn_t (e : Edit) (r : Reply) (n : Int) : fnRun law24_FrameTorn.c f_law24_FrameTorn (codeOf f_law24_FrameTorn) [tEdit e, tReply r, tI n] (anys 3) =
  Tree.ite false (Tree.leaf ([tB true], [RV.any, RV.any, RV.any]))
  (Tree.ite
    ((↑(List.length
            (dEdit
              (Edit.mk (Edit.kind e) (Cell.mk (Cell.sheet (Edit.cell e)) (Cell.col (Edit.cell e)) (Cell.row (Edit.cell e))) (Edit.name e) (Edit.text e)
                (Range.mk (Cell.mk (Cell.sheet (Range.from_ (Edit.range e))) (Cell.col (Range.from_ (Edit.range e))) (Cell.row (Range.from_ (Edit.range e)))) (Cell.mk (Cell.sheet (Range.to (Edit.range e))) (Cell.col (Range.to (Edit.range e))) (Cell.row (Range.to (Edit.range e)))))))) :
        Int) ==
      (0 : Int))
    (Tree.leaf ([tB true], [RV.any, RV.any, RV.any]))
    (Tree.ite ((↑(List.length (dReply (Reply.mk (Reply.kind r) (Reply.version r) (Reply.err r) (Reply.cells r)))) : Int) == (0 : Int)) (Tree.leaf ([tB true], [RV.any, RV.any, RV.any]))
      (Tree.ite (decide ((↑(List.length (Reply.cells r)) : Int) > (60 : Int))) (Tree.leaf ([tB true], [RV.any, RV.any, RV.any]))
        (Tree.ite (decide (n < (0 : Int))) (Tree.leaf ([tB true], [RV.any, RV.any, RV.any]))
          (Tree.req
            ((↑(List.length
                    (dEdit
                      (Edit.mk (Edit.kind e) (Cell.mk (Cell.sheet (Edit.cell e)) (Cell.col (Edit.cell e)) (Cell.row (Edit.cell e))) (Edit.name e) (Edit.text e)
                        (Range.mk (Cell.mk (Cell.sheet (Range.from_ (Edit.range e))) (Cell.col (Range.from_ (Edit.range e))) (Cell.row (Range.from_ (Edit.range e)))) (Cell.mk (Cell.sheet (Range.to (Edit.range e))) (Cell.col (Range.to (Edit.range e))) (Cell.row (Range.to (Edit.range e)))))))) :
                Int) ≠
              (0 : Int))
            (Tree.req
              ((0 : Int) ≤ (0 : Int) ∧
                (0 : Int) ≤
                    Int.tmod n
                      (↑(List.length
                            (dEdit
                              (Edit.mk (Edit.kind e) (Cell.mk (Cell.sheet (Edit.cell e)) (Cell.col (Edit.cell e)) (Cell.row (Edit.cell e))) (Edit.name e) (Edit.text e)
                                (Range.mk (Cell.mk (Cell.sheet (Range.from_ (Edit.range e))) (Cell.col (Range.from_ (Edit.range e))) (Cell.row (Range.from_ (Edit.range e))))
                                  (Cell.mk (Cell.sheet (Range.to (Edit.range e))) (Cell.col (Range.to (Edit.range e))) (Cell.row (Range.to (Edit.range e)))))))) :
                        Int) ∧
                  Int.tmod n
                      (↑(List.length
                            (dEdit
                              (Edit.mk (Edit.kind e) (Cell.mk (Cell.sheet (Edit.cell e)) (Cell.col (Edit.cell e)) (Cell.row (Edit.cell e))) (Edit.name e) (Edit.text e)
                                (Range.mk (Cell.mk (Cell.sheet (Range.from_ (Edit.range e))) (Cell.col (Range.from_ (Edit.range e))) (Cell.row (Range.from_ (Edit.range e))))
                                  (Cell.mk (Cell.sheet (Range.to (Edit.range e))) (Cell.col (Range.to (Edit.range e))) (Cell.row (Range.to (Edit.range e)))))))) :
                        Int) ≤
                    (↑(List.length
                          (dEdit
                            (Edit.mk (Edit.kind e) (Cell.mk (Cell.sheet (Edit.cell e)) (Cell.col (Edit.cell e)) (Cell.row (Edit.cell e))) (Edit.name e) (Edit.text e)
                              (Range.mk (Cell.mk (Cell.sheet (Range.from_ (Edit.range e))) (Cell.col (Range.from_ (Edit.range e))) (Cell.row (Range.from_ (Edit.range e)))) (Cell.mk (Cell.sheet (Range.to (Edit.range e))) (Cell.col (Range.to (Edit.range e))) (Cell.row (Range.to (Edit.range e)))))))) :
                      Int))
              (Tree.req
                (((0 : Nat) +
                      List.length
                        (dEdit
                          (Edit.mk (Edit.kind e) (Cell.mk (Cell.sheet (Edit.cell e)) (Cell.col (Edit.cell e)) (Cell.row (Edit.cell e))) (Edit.name e) (Edit.text e)
                            (Range.mk (Cell.mk (Cell.sheet (Range.from_ (Edit.range e))) (Cell.col (Range.from_ (Edit.range e))) (Cell.row (Range.from_ (Edit.range e)))) (Cell.mk (Cell.sheet (Range.to (Edit.range e))) (Cell.col (Range.to (Edit.range e))) (Cell.row (Range.to (Edit.range e)))))))) *
                    (1 : Nat) ≤
                  (140737488355328 : Nat))
                (Tree.req (((0 : Int) ≤ (0 : Int) ∧ (0 : Int) < (256 : LT.den kindA (LT.int IntKind.u8))) ∧ True)
                  (Tree.req
                    ((List.length
                            (dEdit
                              (Edit.mk (Edit.kind e) (Cell.mk (Cell.sheet (Edit.cell e)) (Cell.col (Edit.cell e)) (Cell.row (Edit.cell e))) (Edit.name e) (Edit.text e)
                                (Range.mk (Cell.mk (Cell.sheet (Range.from_ (Edit.range e))) (Cell.col (Range.from_ (Edit.range e))) (Cell.row (Range.from_ (Edit.range e))))
                                  (Cell.mk (Cell.sheet (Range.to (Edit.range e))) (Cell.col (Range.to (Edit.range e))) (Cell.row (Range.to (Edit.range e))))))) +
                          List.length [UInt8.ofNat (0 : Nat)]) *
                        (1 : Nat) ≤
                      (140737488355328 : Nat))
                    (Tree.req ((↑(List.length (dReply (Reply.mk (Reply.kind r) (Reply.version r) (Reply.err r) (Reply.cells r)))) : Int) ≠ (0 : Int))
                      (Tree.req
                        ((0 : Int) ≤ (0 : Int) ∧
                          (0 : Int) ≤ Int.tmod n (↑(List.length (dReply (Reply.mk (Reply.kind r) (Reply.version r) (Reply.err r) (Reply.cells r)))) : Int) ∧
                            Int.tmod n (↑(List.length (dReply (Reply.mk (Reply.kind r) (Reply.version r) (Reply.err r) (Reply.cells r)))) : Int) ≤ (↑(List.length (dReply (Reply.mk (Reply.kind r) (Reply.version r) (Reply.err r) (Reply.cells r)))) : Int))
                        (Tree.req (((0 : Nat) + List.length (dReply (Reply.mk (Reply.kind r) (Reply.version r) (Reply.err r) (Reply.cells r)))) * (1 : Nat) ≤ (140737488355328 : Nat))
                          (Tree.req (((0 : Int) ≤ (0 : Int) ∧ (0 : Int) < (256 : LT.den kindA (LT.int IntKind.u8))) ∧ True)
                            (Tree.req ((List.length (dReply (Reply.mk (Reply.kind r) (Reply.version r) (Reply.err r) (Reply.cells r))) + List.length [UInt8.ofNat (0 : Nat)]) * (1 : Nat) ≤ (140737488355328 : Nat))
                              (Tree.ite
                                (Prod.snd
                                    (rdTail
                                      (rdEdit
                                        (List.drop (0 : Nat)
                                          (List.take
                                            (Int.toNat
                                              (Int.tmod n
                                                (↑(List.length
                                                      (dEdit
                                                        (Edit.mk (Edit.kind e) (Cell.mk (Cell.sheet (Edit.cell e)) (Cell.col (Edit.cell e)) (Cell.row (Edit.cell e))) (Edit.name e) (Edit.text e)
                                                          (Range.mk (Cell.mk (Cell.sheet (Range.from_ (Edit.range e))) (Cell.col (Range.from_ (Edit.range e))) (Cell.row (Range.from_ (Edit.range e))))
                                                            (Cell.mk (Cell.sheet (Range.to (Edit.range e))) (Cell.col (Range.to (Edit.range e))) (Cell.row (Range.to (Edit.range e)))))))) :
                                                  Int)))
                                            (dEdit
                                              (Edit.mk (Edit.kind e) (Cell.mk (Cell.sheet (Edit.cell e)) (Cell.col (Edit.cell e)) (Cell.row (Edit.cell e))) (Edit.name e) (Edit.text e)
                                                (Range.mk (Cell.mk (Cell.sheet (Range.from_ (Edit.range e))) (Cell.col (Range.from_ (Edit.range e))) (Cell.row (Range.from_ (Edit.range e))))
                                                  (Cell.mk (Cell.sheet (Range.to (Edit.range e))) (Cell.col (Range.to (Edit.range e))) (Cell.row (Range.to (Edit.range e))))))))))) ==
                                  (2 : Int))
                                (Tree.ite
                                  (Prod.snd
                                      (rdTail
                                        (rdEdit
                                          (dEdit
                                              (Edit.mk (Edit.kind e) (Cell.mk (Cell.sheet (Edit.cell e)) (Cell.col (Edit.cell e)) (Cell.row (Edit.cell e))) (Edit.name e) (Edit.text e)
                                                (Range.mk (Cell.mk (Cell.sheet (Range.from_ (Edit.range e))) (Cell.col (Range.from_ (Edit.range e))) (Cell.row (Range.from_ (Edit.range e))))
                                                  (Cell.mk (Cell.sheet (Range.to (Edit.range e))) (Cell.col (Range.to (Edit.range e))) (Cell.row (Range.to (Edit.range e)))))) ++
                                            [UInt8.ofNat (0 : Nat)]))) ==
                                    (2 : Int))
                                  (Tree.ite
                                    (Prod.snd
                                        (rdReplyTail
                                          (rdReply
                                            (List.drop (0 : Nat) (List.take (Int.toNat (Int.tmod n (↑(List.length (dReply (Reply.mk (Reply.kind r) (Reply.version r) (Reply.err r) (Reply.cells r)))) : Int))) (dReply (Reply.mk (Reply.kind r) (Reply.version r) (Reply.err r) (Reply.cells r))))))) ==
                                      (2 : Int))
                                    (Tree.leaf ([tB (Prod.snd (rdReplyTail (rdReply (dReply (Reply.mk (Reply.kind r) (Reply.version r) (Reply.err r) (Reply.cells r)) ++ [UInt8.ofNat (0 : Nat)]))) == (2 : Int))], [RV.any, RV.any, RV.any])) (Tree.leaf ([tB false], [RV.any, RV.any, RV.any])))
                                  (Tree.leaf ([tB false], [RV.any, RV.any, RV.any])))
                                (Tree.leaf ([tB false], [RV.any, RV.any, RV.any]))))))))))))))))) := by kernel_rfl
def F : List TV' → Tree (List TV') := aEdit fun e => aReply fun r => aI fun n => a0 (.leaf [tB true])
abbrev S : Spec En := pureSpec 3 F
theorem dEdit_len (e : Edit) : (dEdit e).length ≤ 1000 := by
  unfold dEdit
  cases (decide (e.kind < 1) || decide (e.kind > 9)) with
  | true => simp
  | false =>
  cases (!(dEditOf e).2.1 || !(dEditOf e).2.2) with
  | true => simp
  | false =>
  simp only [cond_false]
  unfold dEditOf
  have a1 := dCell_len [bt e.kind] e.cell
  have a2 := dShort_len (dCell [bt e.kind] e.cell).1 e.text
  have a3 := dShort_len [bt e.kind] e.name
  have a4 := dShort_len (dShort [bt e.kind] e.name).1 e.text
  have a5 := dCell_len [bt e.kind] e.range.from_
  have a6 := dCell_len (dCell [bt e.kind] e.range.from_).1 e.range.to
  simp only [List.length_singleton] at a1 a3 a5
  cases (e.kind == (1 : Int)) <;> cases (e.kind == (2 : Int)) <;> cases (e.kind == (3 : Int) || e.kind == (4 : Int)) <;> cases (e.kind == (5 : Int)) <;> cases (e.kind == (8 : Int)) <;> simp only [cond_true, cond_false, List.length_singleton] <;> omega
theorem dCells_len : ∀ (l : List Shown) (b : List UInt8), (dCells b l).1.length ≤ b.length + 462 * l.length
  | [], b => by simp [dCells]
  | x :: l, b => by
    unfold dCells
    have a1 := dCell_len b x.cell
    have a2 := vBytes_len x.val
    cases (!(dCell b x.cell).2 || ((vBytes x.val).length : Int) == 0) with
    | true => simp
    | false =>
      simp only [cond_false]
      have := dCells_len l ((dCell b x.cell).1 ++ vBytes x.val)
      rw [List.length_append] at this
      rw [List.length_cons]; omega
theorem dReply_len (r : Reply) : (dReply r).length ≤ 100000000 := by
  unfold dReply
  have hh : (dHead r).length ≤ 6 := by
    unfold dHead
    rw [List.length_append, be_len]
    cases (r.kind == 1) <;> simp
  cases !dReplyOk r with
  | true => simp
  | false =>
  cases (r.kind != 2 && r.kind != 3) with
  | true => simp only [cond_true, cond_false]; omega
  | false =>
  cases hl : decide ((r.cells.length : Int) > 65535) with
  | true => simp
  | false =>
    have hl' : ¬ (r.cells.length : Int) > 65535 := by simpa using hl
    have := dCells_len r.cells (dHead r ++ be (r.cells.length : Nat) 2)
    rw [List.length_append, be_len] at this
    simp only [cond_false]; omega
theorem tail2 {x : Edit × BF} (h : rEnded x.2 = false) : (rdTail x).2 = 2 := by unfold rdTail; rw [h]; rfl
theorem tail3 {x : Reply × BF} (h : rEnded x.2 = false) : (rdReplyTail x).2 = 2 := by unfold rdReplyTail; rw [h]; rfl
theorem ok : SpecOk pr i_law24_FrameTorn S := by
  refine pureOk (ctx := c) (cxl_ok (.cons law24_num.ok (.cons law24_alive.ok (.cons frame_ReadEdit.ok (.cons frame_ReadReply.ok (.cons ref21_EditBytes.ok (.cons ref21_ReplyBytes.ok .nil)))))) nil_ok) mixed h_law24_FrameTorn (by kernel_rfl) (no_loop (by kernel_rfl)) (by kernel_rfl) fun xs r h => ?_
  obtain ⟨e, _, rfl, g1⟩ := aEdit_r h
  obtain ⟨q, _, rfl, g2⟩ := aReply_r g1
  obtain ⟨n, _, rfl, g3⟩ := aI_r g2
  obtain ⟨rfl, rfl⟩ := a0_r g3
  refine ⟨rfl, Tree.reach_of (fn_t e q n) ?_⟩
  have he := dEdit_len e
  have hq := dReply_len q
  have hE : dEdit e ≠ [] → _ := edit_back (e := e)
  have hR : dReply q ≠ [] → _ := reply_back (r := q)
  obtain ⟨ek, ⟨es, ec, er⟩, en, et, ⟨⟨fs, fc, fr⟩, ⟨gs, gc, gr⟩⟩⟩ := e
  obtain ⟨qk, qv, qe, ql⟩ := q
  dsimp only
  generalize dEdit _ = x at *
  generalize dReply _ = y at *
  refine Tree.reach_ff ?_
  cases c1 : ((x.length : Int) == 0) with
  | true => exact Tree.reach_tt rfl
  | false =>
  refine Tree.reach_ff ?_
  cases c2 : ((y.length : Int) == 0) with
  | true => exact Tree.reach_tt rfl
  | false =>
  refine Tree.reach_ff ?_
  cases c3 : decide ((ql.length : Int) > 60) with
  | true => exact Tree.reach_tt rfl
  | false =>
  refine Tree.reach_ff ?_
  cases c4 : decide (n < 0) with
  | true => exact Tree.reach_tt rfl
  | false =>
  have k1 : ¬ (x.length : Int) = 0 := by simpa using c1
  have k2 : ¬ (y.length : Int) = 0 := by simpa using c2
  have k4 : ¬ n < 0 := by simpa using c4
  have hx := hE (fun h => k1 (by rw [h]; rfl))
  have hy := hR (fun h => k2 (by rw [h]; rfl))
  have m1 := Int.tmod_nonneg (x.length : Int) (a := n) (by omega)
  have m2 := Int.tmod_lt_of_pos n (b := (x.length : Int)) (by omega)
  have m3 := Int.tmod_nonneg (y.length : Int) (a := n) (by omega)
  have m4 := Int.tmod_lt_of_pos n (b := (y.length : Int)) (by omega)
  obtain ⟨t1, t2⟩ := torn rdEditS_ext hx
  obtain ⟨t3, t4⟩ := torn rdReplyS_ext hy
  have a1 : (rdTail (rdEdit (List.drop 0 (List.take (Int.toNat (Int.tmod n (x.length : Int))) x)))).2 = 2 := tail2 (t1 _ (by omega))
  have a2 : (rdTail (rdEdit (x ++ [UInt8.ofNat 0]))).2 = 2 := tail2 (t2 _ (by simp))
  have a3 : (rdReplyTail (rdReply (List.drop 0 (List.take (Int.toNat (Int.tmod n (y.length : Int))) y)))).2 = 2 := tail3 (t3 _ (by omega))
  have a4 : (rdReplyTail (rdReply (y ++ [UInt8.ofNat 0]))).2 = 2 := tail3 (t4 _ (by simp))
  rw [a1, a2, a3, a4]
  refine Tree.reach_ff (Tree.reach_req k1 (Tree.reach_req ⟨by omega, by omega, by omega⟩ (Tree.reach_req (by omega) (Tree.reach_req ⟨⟨by omega, by decide⟩, trivial⟩ (Tree.reach_req ?_ (Tree.reach_req k2 (Tree.reach_req ⟨by omega, by omega, by omega⟩ (Tree.reach_req (by omega) (Tree.reach_req ⟨⟨by omega, by decide⟩, trivial⟩ (Tree.reach_req ?_ (Tree.reach_tt (Tree.reach_tt (Tree.reach_tt rfl)))))))))))))
  · simp only [List.length_singleton]; omega
  · simp only [List.length_singleton]; omega
end law24_FrameTorn
end Go.Rf
end
end
