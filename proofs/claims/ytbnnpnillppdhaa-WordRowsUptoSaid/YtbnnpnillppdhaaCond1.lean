/- The conditions of the seat's functions, written by a program (VcTool, genvc.py) off 'vc' reduced; each is tied to 'vc' by the kernel. Conditions: none. -/
import Derived.Test.YtbnnpnillppdhaaVcSound5
import Derived.Test.YtbnnpnillppdhaaProg
set_option linter.unusedVariables false
set_option maxRecDepth 100000
namespace Go.Proofs
open Go Go.Vc
/-- dunnage/dunnagelaw05.LayoutApart -/
theorem dunnagelaw05_LayoutApart.vc (n0 : Int) (w : World) (R : Bool → World → Prop)
  (h : CallT
      [Ty.agg
          [Sh.int IntKind.i64, Sh.int IntKind.i64, Sh.int IntKind.i64, Sh.int IntKind.i64, Sh.int IntKind.i64,
            Sh.int IntKind.i64, Sh.int IntKind.i64, Sh.int IntKind.i64, Sh.int IntKind.i64],
        Ty.one (Sh.int IntKind.i64)]
      Try.prog (35 : Nat) [Value.int IntKind.i64 n0] w
      fun (x : (Int × Int × Int × Int × Int × Int × Int × Int × Int) × Int) (w' : World) =>
      let w1 :=
        w'.alloc
          (Obj.cells
            #[Value.int IntKind.i64 (0 : Int), Value.int IntKind.i64 (0 : Int), Value.int IntKind.i64 (0 : Int),
              Value.int IntKind.i64 (0 : Int), Value.int IntKind.i64 (0 : Int), Value.int IntKind.i64 (0 : Int),
              Value.int IntKind.i64 (0 : Int), Value.int IntKind.i64 (0 : Int), Value.int IntKind.i64 (0 : Int)]
            (44 : Nat));
      canSt w1 (Addr.mk w'.heap.size (0 : Nat) none) (9 : Nat) ∧
        ∃ (R_1 : PUnit → World → Prop),
          (∃ (R_2 : Bool → World → Prop),
              (CallT [Ty.one Sh.bool] Try.prog (36 : Nat) []
                  (setCells w1 (Addr.mk w'.heap.size (0 : Nat) none) (0 : Nat)
                    [Value.int IntKind.i64 x.fst.fst, Value.int IntKind.i64 x.fst.snd.fst,
                      Value.int IntKind.i64 x.fst.snd.snd.fst, Value.int IntKind.i64 x.fst.snd.snd.snd.fst,
                      Value.int IntKind.i64 x.fst.snd.snd.snd.snd.fst, Value.int IntKind.i64 x.fst.snd.snd.snd.snd.snd.fst,
                      Value.int IntKind.i64 x.fst.snd.snd.snd.snd.snd.snd.fst,
                      Value.int IntKind.i64 x.fst.snd.snd.snd.snd.snd.snd.snd.fst,
                      Value.int IntKind.i64 x.fst.snd.snd.snd.snd.snd.snd.snd.snd])
                  fun (x_1 : Bool) (w' : World) =>
                  cnd (!x_1) (R_2 true w') (cnd (x.snd != (0 : Int)) (R_2 true w') (R_2 (decide (n0 > (5000 : Int))) w'))) ∧
                ∀ (x : Bool) (j : Nat → Value) (w' : World),
                  R_2 x w' →
                    cnd x (CallT [Ty.one Sh.bool] Try.prog (36 : Nat) [] w' fun (x : Bool) (w' : World) => R x w')
                      (R_1 () w')) ∧
            ∀ (x : PUnit) (j : Nat → Value) (w'_1 : World),
              R_1 x w'_1 →
                ∃ (I : Nat → Int × Int → World → Prop),
                  (∃ (n : Nat),
                      I n ((0 : Int), (0 : Int))
                        (w'_1.alloc
                          (Obj.cells
                            #[Value.int IntKind.i64 (0 : Int), Value.int IntKind.i64 (0 : Int),
                              Value.int IntKind.i64 (0 : Int), Value.int IntKind.i64 (0 : Int),
                              Value.int IntKind.i64 (0 : Int), Value.int IntKind.i64 (0 : Int),
                              Value.int IntKind.i64 (0 : Int), Value.int IntKind.i64 (0 : Int)]
                            (60 : Nat)))) ∧
                    ∀ (n : Nat) (x : Int × Int) (j : Nat → Value) (w'_2 : World),
                      I n x w'_2 →
                        let e1 := x.snd;
                        cnd (decide (e1 < n0))
                          (∃ (x_1 : Int × Int × Int × Int × Int × Int × Int × Int × Int),
                            cellsAt w'_2 (Addr.mk w'.heap.size (0 : Nat) none)
                                [Value.int IntKind.i64 x_1.fst, Value.int IntKind.i64 x_1.snd.fst,
                                  Value.int IntKind.i64 x_1.snd.snd.fst, Value.int IntKind.i64 x_1.snd.snd.snd.fst,
                                  Value.int IntKind.i64 x_1.snd.snd.snd.snd.fst,
                                  Value.int IntKind.i64 x_1.snd.snd.snd.snd.snd.fst,
                                  Value.int IntKind.i64 x_1.snd.snd.snd.snd.snd.snd.fst,
                                  Value.int IntKind.i64 x_1.snd.snd.snd.snd.snd.snd.snd.fst,
                                  Value.int IntKind.i64 x_1.snd.snd.snd.snd.snd.snd.snd.snd] ∧
                              CallT [Ty.one (Sh.int IntKind.i64)] Try.prog (38 : Nat)
                                [Value.agg
                                    #[Value.int IntKind.i64 x_1.fst, Value.int IntKind.i64 x_1.snd.fst,
                                      Value.int IntKind.i64 x_1.snd.snd.fst, Value.int IntKind.i64 x_1.snd.snd.snd.fst,
                                      Value.int IntKind.i64 x_1.snd.snd.snd.snd.fst,
                                      Value.int IntKind.i64 x_1.snd.snd.snd.snd.snd.fst,
                                      Value.int IntKind.i64 x_1.snd.snd.snd.snd.snd.snd.fst,
                                      Value.int IntKind.i64 x_1.snd.snd.snd.snd.snd.snd.snd.fst,
                                      Value.int IntKind.i64 x_1.snd.snd.snd.snd.snd.snd.snd.snd],
                                  Value.int IntKind.i64 x.snd]
                                w'_2 fun (x_2 : Int) (w'_3 : World) =>
                                ∃ (R_2 : PUnit → World → Prop),
                                  cnd (decide (x_2 < (0 : Int))) (R false w'_3)
                                      (cnd (decide (x_2 > (7 : Int))) (R false w'_3) (R_2 () w'_3)) ∧
                                    ∀ (x_3 : PUnit) (j : Nat → Value) (w'_4 : World),
                                      R_2 x_3 w'_4 →
                                        (0 : Int) ≤ x_2 ∧
                                          x_2 < (↑(8 : Nat) : Int) ∧
                                            ∃ (x_4 : Int),
                                              w'_4.cell?
                                                    ((Addr.mk w'_1.heap.size (0 : Nat) none).add (x_2.toNat * (1 : Nat))) =
                                                  some (Value.int IntKind.i64 x_4) ∧
                                                (0 : Int) ≤ x_2 ∧
                                                  x_2 < (↑(8 : Nat) : Int) ∧
                                                    (w'_4.cell?
                                                            ((Addr.mk w'_1.heap.size (0 : Nat) none).add
                                                              (x_2.toNat * (1 : Nat)))).isSome =
                                                        true ∧
                                                      w'_4.frozen?
                                                            ((Addr.mk w'_1.heap.size (0 : Nat) none).add
                                                              (x_2.toNat * (1 : Nat))) =
                                                          false ∧
                                                        let w1 :=
                                                          w'_4.setCell
                                                            ((Addr.mk w'_1.heap.size (0 : Nat) none).add
                                                              (x_2.toNat * (1 : Nat)))
                                                            (Value.int IntKind.i64 (IntKind.i64.wrap (x_4 + (1 : Int))));
                                                        ∃ (x_5 : Int × Int × Int × Int × Int × Int × Int × Int × Int),
                                                          cellsAt w1 (Addr.mk w'.heap.size (0 : Nat) none)
                                                              [Value.int IntKind.i64 x_5.fst,
                                                                Value.int IntKind.i64 x_5.snd.fst,
                                                                Value.int IntKind.i64 x_5.snd.snd.fst,
                                                                Value.int IntKind.i64 x_5.snd.snd.snd.fst,
                                                                Value.int IntKind.i64 x_5.snd.snd.snd.snd.fst,
                                                                Value.int IntKind.i64 x_5.snd.snd.snd.snd.snd.fst,
                                                                Value.int IntKind.i64 x_5.snd.snd.snd.snd.snd.snd.fst,
                                                                Value.int IntKind.i64 x_5.snd.snd.snd.snd.snd.snd.snd.fst,
                                                                Value.int IntKind.i64 x_5.snd.snd.snd.snd.snd.snd.snd.snd] ∧
                                                            CallT [Ty.one (Sh.int IntKind.i64), Ty.one Sh.bool] Try.prog
                                                              (45 : Nat)
                                                              [Value.agg
                                                                  #[Value.int IntKind.i64 x_5.fst,
                                                                    Value.int IntKind.i64 x_5.snd.fst,
                                                                    Value.int IntKind.i64 x_5.snd.snd.fst,
                                                                    Value.int IntKind.i64 x_5.snd.snd.snd.fst,
                                                                    Value.int IntKind.i64 x_5.snd.snd.snd.snd.fst,
                                                                    Value.int IntKind.i64 x_5.snd.snd.snd.snd.snd.fst,
                                                                    Value.int IntKind.i64 x_5.snd.snd.snd.snd.snd.snd.fst,
                                                                    Value.int IntKind.i64
                                                                      x_5.snd.snd.snd.snd.snd.snd.snd.fst,
                                                                    Value.int IntKind.i64
                                                                      x_5.snd.snd.snd.snd.snd.snd.snd.snd],
                                                                Value.int IntKind.i64 x.snd]
                                                              w1 fun (x_6 : Int × Bool) (w' : World) =>
                                                              cnd (x_2 == (7 : Int))
                                                                (cnd (!x_6.snd)
                                                                  (∃ (m : Nat),
                                                                    m < n ∧
                                                                      I m
                                                                        (IntKind.i64.wrap (x.fst + (1 : Int)),
                                                                          IntKind.i64.wrap (x.snd + (1 : Int)))
                                                                        w')
                                                                  (∃ (m : Nat),
                                                                    m < n ∧
                                                                      I m (x.fst, IntKind.i64.wrap (x.snd + (1 : Int))) w'))
                                                                (∃ (m : Nat),
                                                                  m < n ∧
                                                                    I m (x.fst, IntKind.i64.wrap (x.snd + (1 : Int))) w'))
                          (∃ (S : World → Prop),
                            S w'_2.drew ∧
                              (0 : Int) ≤ (1 : Int) ∧
                                (1 : Int) < (↑(8 : Nat) : Int) ∧
                                  ∃ (x_1 : Int),
                                    (∀ (w : World),
                                        S w →
                                          w.cell?
                                              ((Addr.mk w'_1.heap.size (0 : Nat) none).add
                                                (Int.toNat (1 : Int) * (1 : Nat))) =
                                            some (Value.int IntKind.i64 x_1)) ∧
                                      cnd (x_1 == (2 : Int))
                                        ((0 : Int) ≤ (2 : Int) ∧
                                          (2 : Int) < (↑(8 : Nat) : Int) ∧
                                            ∃ (x_2 : Int),
                                              (∀ (w : World),
                                                  S w →
                                                    w.cell?
                                                        ((Addr.mk w'_1.heap.size (0 : Nat) none).add
                                                          (Int.toNat (2 : Int) * (1 : Nat))) =
                                                      some (Value.int IntKind.i64 x_2)) ∧
                                                cnd (x_2 == (1 : Int))
                                                  ((0 : Int) ≤ (3 : Int) ∧
                                                    (3 : Int) < (↑(8 : Nat) : Int) ∧
                                                      ∃ (x_3 : Int),
                                                        (∀ (w : World),
                                                            S w →
                                                              w.cell?
                                                                  ((Addr.mk w'_1.heap.size (0 : Nat) none).add
                                                                    (Int.toNat (3 : Int) * (1 : Nat))) =
                                                                some (Value.int IntKind.i64 x_3)) ∧
                                                          cnd (x_3 == (10 : Int))
                                                            ((0 : Int) ≤ (4 : Int) ∧
                                                              (4 : Int) < (↑(8 : Nat) : Int) ∧
                                                                ∃ (x_4 : Int),
                                                                  (∀ (w : World),
                                                                      S w →
                                                                        w.cell?
                                                                            ((Addr.mk w'_1.heap.size (0 : Nat) none).add
                                                                              (Int.toNat (4 : Int) * (1 : Nat))) =
                                                                          some (Value.int IntKind.i64 x_4)) ∧
                                                                    ∃ (x_5 : Int),
                                                                      (∀ (w : World),
                                                                          S w →
                                                                            w.cell?
                                                                                ((Addr.mk w'.heap.size (0 : Nat) none).add
                                                                                  (3 : Nat)) =
                                                                              some (Value.int IntKind.i64 x_5)) ∧
                                                                        cnd (x_4 == x_5)
                                                                          ((0 : Int) ≤ (5 : Int) ∧
                                                                            (5 : Int) < (↑(8 : Nat) : Int) ∧
                                                                              ∃ (x_6 : Int),
                                                                                (∀ (w : World),
                                                                                    S w →
                                                                                      w.cell?
                                                                                          ((Addr.mk w'_1.heap.size (0 : Nat)
                                                                                                none).add
                                                                                            (Int.toNat (5 : Int) *
                                                                                              (1 : Nat))) =
                                                                                        some (Value.int IntKind.i64 x_6)) ∧
                                                                                  ∃ (x_7 : Int),
                                                                                    (∀ (w : World),
                                                                                        S w →
                                                                                          w.cell?
                                                                                              ((Addr.mk w'.heap.size
                                                                                                    (0 : Nat) none).add
                                                                                                (6 : Nat)) =
                                                                                            some
                                                                                              (Value.int IntKind.i64 x_7)) ∧
                                                                                      cnd (x_6 == x_7)
                                                                                        ((0 : Int) ≤ (6 : Int) ∧
                                                                                          (6 : Int) < (↑(8 : Nat) : Int) ∧
                                                                                            ∃ (x_8 : Int),
                                                                                              (∀ (w : World),
                                                                                                  S w →
                                                                                                    w.cell?
                                                                                                        ((Addr.mk
                                                                                                              w'_1.heap.size
                                                                                                              (0 : Nat)
                                                                                                              none).add
                                                                                                          (Int.toNat
                                                                                                              (6 : Int) *
                                                                                                            (1 : Nat))) =
                                                                                                      some
                                                                                                        (Value.int
                                                                                                          IntKind.i64
                                                                                                          x_8)) ∧
                                                                                                ∃ (x_9 : Int),
                                                                                                  (∀ (w : World),
                                                                                                      S w →
                                                                                                        w.cell?
                                                                                                            ((Addr.mk
                                                                                                                  w'.heap.size
                                                                                                                  (0 : Nat)
                                                                                                                  none).add
                                                                                                              (6 : Nat)) =
                                                                                                          some
                                                                                                            (Value.int
                                                                                                              IntKind.i64
                                                                                                              x_9)) ∧
                                                                                                    cnd (x_8 == x_9)
                                                                                                      ((0 : Int) ≤
                                                                                                          (7 : Int) ∧
                                                                                                        (7 : Int) <
                                                                                                            (↑(8 : Nat) :
                                                                                                              Int) ∧
                                                                                                          ∃ (x_10 : Int),
                                                                                                            (∀ (w : World),
                                                                                                                S w →
                                                                                                                  w.cell?
                                                                                                                      ((Addr.mk
                                                                                                                            w'_1.heap.size
                                                                                                                            (0 :
                                                                                                                              Nat)
                                                                                                                            none).add
                                                                                                                        (Int.toNat
                                                                                                                            (7 :
                                                                                                                              Int) *
                                                                                                                          (1 :
                                                                                                                            Nat))) =
                                                                                                                    some
                                                                                                                      (Value.int
                                                                                                                        IntKind.i64
                                                                                                                        x_10)) ∧
                                                                                                              ∃ (x_11 :
                                                                                                                Int),
                                                                                                                (∀
                                                                                                                    (w :
                                                                                                                      World),
                                                                                                                    S w →
                                                                                                                      w.cell?
                                                                                                                          ((Addr.mk
                                                                                                                                w'.heap.size
                                                                                                                                (0 :
                                                                                                                                  Nat)
                                                                                                                                none).add
                                                                                                                            (8 :
                                                                                                                              Nat)) =
                                                                                                                        some
                                                                                                                          (Value.int
                                                                                                                            IntKind.i64
                                                                                                                            x_11)) ∧
                                                                                                                  cnd
                                                                                                                    (x_10 ==
                                                                                                                      IntKind.i64.wrap
                                                                                                                        (x_11 *
                                                                                                                          (32 :
                                                                                                                            Int)))
                                                                                                                    (∃ (x_12
                                                                                                                      :
                                                                                                                      Int),
                                                                                                                      (∀
                                                                                                                          (w :
                                                                                                                            World),
                                                                                                                          S
                                                                                                                              w →
                                                                                                                            w.cell?
                                                                                                                                ((Addr.mk
                                                                                                                                      w'.heap.size
                                                                                                                                      (0 :
                                                                                                                                        Nat)
                                                                                                                                      none).add
                                                                                                                                  (8 :
                                                                                                                                    Nat)) =
                                                                                                                              some
                                                                                                                                (Value.int
                                                                                                                                  IntKind.i64
                                                                                                                                  x_12)) ∧
                                                                                                                        cnd
                                                                                                                          (x.fst ==
                                                                                                                            x_12)
                                                                                                                          ((0 :
                                                                                                                                Int) ≤
                                                                                                                              (0 :
                                                                                                                                Int) ∧
                                                                                                                            (0 :
                                                                                                                                  Int) <
                                                                                                                                (↑(8 :
                                                                                                                                      Nat) :
                                                                                                                                  Int) ∧
                                                                                                                              ∃
                                                                                                                                (x
                                                                                                                                :
                                                                                                                                Int),
                                                                                                                                (∀
                                                                                                                                    (w :
                                                                                                                                      World),
                                                                                                                                    S
                                                                                                                                        w →
                                                                                                                                      w.cell?
                                                                                                                                          ((Addr.mk
                                                                                                                                                w'_1.heap.size
                                                                                                                                                (0 :
                                                                                                                                                  Nat)
                                                                                                                                                none).add
                                                                                                                                            (Int.toNat
                                                                                                                                                (0 :
                                                                                                                                                  Int) *
                                                                                                                                              (1 :
                                                                                                                                                Nat))) =
                                                                                                                                        some
                                                                                                                                          (Value.int
                                                                                                                                            IntKind.i64
                                                                                                                                            x)) ∧
                                                                                                                                  cnd
                                                                                                                                    (decide
                                                                                                                                      (x <
                                                                                                                                        (32 :
                                                                                                                                          Int)))
                                                                                                                                    (∃
                                                                                                                                      (x
                                                                                                                                      :
                                                                                                                                      Int ×
                                                                                                                                        Int ×
                                                                                                                                          Int ×
                                                                                                                                            Int ×
                                                                                                                                              Int ×
                                                                                                                                                Int ×
                                                                                                                                                  Int ×
                                                                                                                                                    Int ×
                                                                                                                                                      Int),
                                                                                                                                      (∀
                                                                                                                                          (w :
                                                                                                                                            World),
                                                                                                                                          S
                                                                                                                                              w →
                                                                                                                                            cellsAt
                                                                                                                                              w
                                                                                                                                              (Addr.mk
                                                                                                                                                w'.heap.size
                                                                                                                                                (0 :
                                                                                                                                                  Nat)
                                                                                                                                                none)
                                                                                                                                              [Value.int
                                                                                                                                                  IntKind.i64
                                                                                                                                                  x.fst,
                                                                                                                                                Value.int
                                                                                                                                                  IntKind.i64
                                                                                                                                                  x.snd.fst,
                                                                                                                                                Value.int
                                                                                                                                                  IntKind.i64
                                                                                                                                                  x.snd.snd.fst,
                                                                                                                                                Value.int
                                                                                                                                                  IntKind.i64
                                                                                                                                                  x.snd.snd.snd.fst,
                                                                                                                                                Value.int
                                                                                                                                                  IntKind.i64
                                                                                                                                                  x.snd.snd.snd.snd.fst,
                                                                                                                                                Value.int
                                                                                                                                                  IntKind.i64
                                                                                                                                                  x.snd.snd.snd.snd.snd.fst,
                                                                                                                                                Value.int
                                                                                                                                                  IntKind.i64
                                                                                                                                                  x.snd.snd.snd.snd.snd.snd.fst,
                                                                                                                                                Value.int
                                                                                                                                                  IntKind.i64
                                                                                                                                                  x.snd.snd.snd.snd.snd.snd.snd.fst,
                                                                                                                                                Value.int
                                                                                                                                                  IntKind.i64
                                                                                                                                                  x.snd.snd.snd.snd.snd.snd.snd.snd]) ∧
                                                                                                                                        ∃
                                                                                                                                          (x_13
                                                                                                                                          :
                                                                                                                                          Int),
                                                                                                                                          (∀
                                                                                                                                              (w :
                                                                                                                                                World),
                                                                                                                                              S
                                                                                                                                                  w →
                                                                                                                                                w.cell?
                                                                                                                                                    ((Addr.mk
                                                                                                                                                          w'.heap.size
                                                                                                                                                          (0 :
                                                                                                                                                            Nat)
                                                                                                                                                          none).add
                                                                                                                                                      (8 :
                                                                                                                                                        Nat)) =
                                                                                                                                                  some
                                                                                                                                                    (Value.int
                                                                                                                                                      IntKind.i64
                                                                                                                                                      x_13)) ∧
                                                                                                                                            CallT
                                                                                                                                              [Ty.one
                                                                                                                                                  (Sh.int
                                                                                                                                                    IntKind.i64)]
                                                                                                                                              Try.prog
                                                                                                                                              (46 :
                                                                                                                                                Nat)
                                                                                                                                              [Value.agg
                                                                                                                                                  #[Value.int
                                                                                                                                                      IntKind.i64
                                                                                                                                                      x.fst,
                                                                                                                                                    Value.int
                                                                                                                                                      IntKind.i64
                                                                                                                                                      x.snd.fst,
                                                                                                                                                    Value.int
                                                                                                                                                      IntKind.i64
                                                                                                                                                      x.snd.snd.fst,
                                                                                                                                                    Value.int
                                                                                                                                                      IntKind.i64
                                                                                                                                                      x.snd.snd.snd.fst,
                                                                                                                                                    Value.int
                                                                                                                                                      IntKind.i64
                                                                                                                                                      x.snd.snd.snd.snd.fst,
                                                                                                                                                    Value.int
                                                                                                                                                      IntKind.i64
                                                                                                                                                      x.snd.snd.snd.snd.snd.fst,
                                                                                                                                                    Value.int
                                                                                                                                                      IntKind.i64
                                                                                                                                                      x.snd.snd.snd.snd.snd.snd.fst,
                                                                                                                                                    Value.int
                                                                                                                                                      IntKind.i64
                                                                                                                                                      x.snd.snd.snd.snd.snd.snd.snd.fst,
                                                                                                                                                    Value.int
                                                                                                                                                      IntKind.i64
                                                                                                                                                      x.snd.snd.snd.snd.snd.snd.snd.snd]]
                                                                                                                                              w'_2.drew
                                                                                                                                              fun
                                                                                                                                                (x :
                                                                                                                                                  Int)
                                                                                                                                                (w'_3 :
                                                                                                                                                  World) =>
                                                                                                                                              S
                                                                                                                                                  w'_3 ∧
                                                                                                                                                cnd
                                                                                                                                                  (x ==
                                                                                                                                                    IntKind.i64.wrap
                                                                                                                                                      (x_13 *
                                                                                                                                                        (31 :
                                                                                                                                                          Int)))
                                                                                                                                                  (∃
                                                                                                                                                    (x
                                                                                                                                                    :
                                                                                                                                                    Int),
                                                                                                                                                    (∀
                                                                                                                                                        (w :
                                                                                                                                                          World),
                                                                                                                                                        S
                                                                                                                                                            w →
                                                                                                                                                          w.cell?
                                                                                                                                                              ((Addr.mk
                                                                                                                                                                    w'.heap.size
                                                                                                                                                                    (0 :
                                                                                                                                                                      Nat)
                                                                                                                                                                    none).add
                                                                                                                                                                (3 :
                                                                                                                                                                  Nat)) =
                                                                                                                                                            some
                                                                                                                                                              (Value.int
                                                                                                                                                                IntKind.i64
                                                                                                                                                                x)) ∧
                                                                                                                                                      cnd
                                                                                                                                                        (decide
                                                                                                                                                          (x ≥
                                                                                                                                                            (30 :
                                                                                                                                                              Int)))
                                                                                                                                                        (∃
                                                                                                                                                          (x
                                                                                                                                                          :
                                                                                                                                                          Int),
                                                                                                                                                          (∀
                                                                                                                                                              (w :
                                                                                                                                                                World),
                                                                                                                                                              S
                                                                                                                                                                  w →
                                                                                                                                                                w.cell?
                                                                                                                                                                    ((Addr.mk
                                                                                                                                                                          w'.heap.size
                                                                                                                                                                          (0 :
                                                                                                                                                                            Nat)
                                                                                                                                                                          none).add
                                                                                                                                                                      (8 :
                                                                                                                                                                        Nat)) =
                                                                                                                                                                  some
                                                                                                                                                                    (Value.int
                                                                                                                                                                      IntKind.i64
                                                                                                                                                                      x)) ∧
                                                                                                                                                            R
                                                                                                                                                              (decide
                                                                                                                                                                (x ≥
                                                                                                                                                                  (4 :
                                                                                                                                                                    Int)))
                                                                                                                                                              w'_3)
                                                                                                                                                        (R
                                                                                                                                                          false
                                                                                                                                                          w'_3))
                                                                                                                                                  (R
                                                                                                                                                    false
                                                                                                                                                    w'_3))
                                                                                                                                    (S
                                                                                                                                        w'_2.drew ∧
                                                                                                                                      R
                                                                                                                                        false
                                                                                                                                        w'_2.drew))
                                                                                                                          (S
                                                                                                                              w'_2.drew ∧
                                                                                                                            R
                                                                                                                              false
                                                                                                                              w'_2.drew))
                                                                                                                    (S
                                                                                                                        w'_2.drew ∧
                                                                                                                      R
                                                                                                                        false
                                                                                                                        w'_2.drew))
                                                                                                      (S w'_2.drew ∧
                                                                                                        R false w'_2.drew))
                                                                                        (S w'_2.drew ∧ R false w'_2.drew))
                                                                          (S w'_2.drew ∧ R false w'_2.drew))
                                                            (S w'_2.drew ∧ R false w'_2.drew))
                                                  (S w'_2.drew ∧ R false w'_2.drew))
                                        (S w'_2.drew ∧ R false w'_2.drew)))
  : CallT [Ty.one Sh.bool] Try.prog 14 [Value.int IntKind.i64 n0] w R :=
  fnV_sound (h := HT.z.sq
  (HT.z.sq
    (HT.jn [] (HT.jn [((25 : Nat), Ty.one Sh.bool)] HT.z HT.z)
      (HT.z.sq
        (HT.z.sq
          ((HT.z.sq
                (HT.lp [((6 : Nat), Ty.one (Sh.int IntKind.i64)), ((7 : Nat), Ty.one (Sh.int IntKind.i64))]
                    (HT.z.sq ((HT.z.sq (HT.jn [] HT.z HT.z)).bl.sq HT.z))).bl).sq
            ((HT.dr
                  (DT.take (0 : Nat)
                    (DT.take (1 : Nat)
                      (DT.take (2 : Nat)
                        (DT.take (3 : Nat)
                          (DT.take (4 : Nat)
                            (DT.take (5 : Nat)
                              (DT.take (6 : Nat)
                                (DT.take (7 : Nat)
                                  (DT.take (8 : Nat)
                                    (DT.take (9 : Nat)
                                      (DT.take (10 : Nat)
                                        (DT.take (11 : Nat)
                                          (DT.take (12 : Nat)
                                            (DT.take (13 : Nat)
                                              (DT.take (14 : Nat)
                                                (DT.take (15 : Nat)
                                                  (DT.take (16 : Nat)
                                                    (DT.take (17 : Nat)
                                                      (DT.take (18 : Nat)
                                                        (DT.take (19 : Nat)
                                                          (DT.take (20 : Nat)
                                                            (DT.take (21 : Nat)
                                                              (DT.take (22 : Nat)
                                                                (DT.take (23 : Nat)
                                                                  (DT.take (24 : Nat)
                                                                    (DT.take (25 : Nat)
                                                                      (DT.take (26 : Nat)
                                                                        (DT.take (27 : Nat)
                                                                          (DT.take (28 : Nat)
                                                                            (DT.take (29 : Nat)
                                                                              (DT.take (30 : Nat)
                                                                                (DT.take (31 : Nat)
                                                                                  (DT.take (32 : Nat)
                                                                                    (DT.take (33 : Nat)
                                                                                      (DT.take (34 : Nat)
                                                                                        (DT.take (35 : Nat)
                                                                                          (DT.take (36 : Nat)
                                                                                            (DT.take (37 : Nat)
                                                                                              (DT.take (38 : Nat)
                                                                                                (DT.take (39 : Nat)
                                                                                                  (DT.take (40 : Nat)
                                                                                                    (DT.take (41 : Nat)
                                                                                                      (DT.take
                                                                                                        (42 : Nat)
                                                                                                        (DT.take
                                                                                                          (43 : Nat)
                                                                                                          (DT.take
                                                                                                            (44 : Nat)
                                                                                                            (DT.take
                                                                                                              (45 : Nat)
                                                                                                              (DT.take
                                                                                                                (46 :
                                                                                                                  Nat)
                                                                                                                (DT.take
                                                                                                                  (47 :
                                                                                                                    Nat)
                                                                                                                  (DT.take
                                                                                                                    (48 :
                                                                                                                      Nat)
                                                                                                                    (DT.take
                                                                                                                      (49 :
                                                                                                                        Nat)
                                                                                                                      (DT.take
                                                                                                                        (50 :
                                                                                                                          Nat)
                                                                                                                        (DT.take
                                                                                                                          (51 :
                                                                                                                            Nat)
                                                                                                                          (DT.take
                                                                                                                            (52 :
                                                                                                                              Nat)
                                                                                                                            (DT.take
                                                                                                                              (53 :
                                                                                                                                Nat)
                                                                                                                              (DT.take
                                                                                                                                (54 :
                                                                                                                                  Nat)
                                                                                                                                (DT.take
                                                                                                                                  (56 :
                                                                                                                                    Nat)
                                                                                                                                  (DT.take
                                                                                                                                    (57 :
                                                                                                                                      Nat)
                                                                                                                                    (DT.take
                                                                                                                                      (58 :
                                                                                                                                        Nat)
                                                                                                                                      (DT.alt
                                                                                                                                        (55 :
                                                                                                                                          Nat)
                                                                                                                                        (DT.take
                                                                                                                                          (59 :
                                                                                                                                            Nat)
                                                                                                                                          (DT.take
                                                                                                                                            (60 :
                                                                                                                                              Nat)
                                                                                                                                            (DT.take
                                                                                                                                              (61 :
                                                                                                                                                Nat)
                                                                                                                                              (DT.take
                                                                                                                                                (62 :
                                                                                                                                                  Nat)
                                                                                                                                                (DT.take
                                                                                                                                                  (63 :
                                                                                                                                                    Nat)
                                                                                                                                                  (DT.take
                                                                                                                                                    (64 :
                                                                                                                                                      Nat)
                                                                                                                                                    (DT.take
                                                                                                                                                      (65 :
                                                                                                                                                        Nat)
                                                                                                                                                      (DT.take
                                                                                                                                                        (66 :
                                                                                                                                                          Nat)
                                                                                                                                                        (DT.take
                                                                                                                                                          (67 :
                                                                                                                                                            Nat)
                                                                                                                                                          (DT.take
                                                                                                                                                            (68 :
                                                                                                                                                              Nat)
                                                                                                                                                            (DT.take
                                                                                                                                                              (69 :
                                                                                                                                                                Nat)
                                                                                                                                                              (DT.take
                                                                                                                                                                (70 :
                                                                                                                                                                  Nat)
                                                                                                                                                                (DT.take
                                                                                                                                                                  (71 :
                                                                                                                                                                    Nat)
                                                                                                                                                                  DT.fin)))))))))))))
                                                                                                                                        DT.fin)))))))))))))))))))))))))))))))))))))))))))))))))))))))))))).sq
              HT.z))))))) Try.func14 (by kernel_rfl) (by kernel_rfl) (Eq.mp (by kernel_rfl) h)

/-- dunnage/dunnagelaw05.LayoutPlaces -/
theorem dunnagelaw05_LayoutPlaces.vc (n0 : Int) (n1 : Int) (n2 : Int) (w : World) (R : Bool → World → Prop)
  (h : CallT
      [Ty.agg
          [Sh.int IntKind.i64, Sh.int IntKind.i64, Sh.int IntKind.i64, Sh.int IntKind.i64, Sh.int IntKind.i64,
            Sh.int IntKind.i64, Sh.int IntKind.i64, Sh.int IntKind.i64, Sh.int IntKind.i64],
        Ty.one (Sh.int IntKind.i64)]
      Try.prog (35 : Nat) [Value.int IntKind.i64 n0] w
      fun (x : (Int × Int × Int × Int × Int × Int × Int × Int × Int) × Int) (w' : World) =>
      let w1 :=
        w'.alloc
          (Obj.cells
            #[Value.int IntKind.i64 (0 : Int), Value.int IntKind.i64 (0 : Int), Value.int IntKind.i64 (0 : Int),
              Value.int IntKind.i64 (0 : Int), Value.int IntKind.i64 (0 : Int), Value.int IntKind.i64 (0 : Int),
              Value.int IntKind.i64 (0 : Int), Value.int IntKind.i64 (0 : Int), Value.int IntKind.i64 (0 : Int)]
            (44 : Nat));
      canSt w1 (Addr.mk w'.heap.size (0 : Nat) none) (9 : Nat) ∧
        ∃ (R_1 : PUnit → World → Prop),
          (∃ (R_2 : Bool → World → Prop),
              (CallT [Ty.one Sh.bool] Try.prog (36 : Nat) []
                  (setCells w1 (Addr.mk w'.heap.size (0 : Nat) none) (0 : Nat)
                    [Value.int IntKind.i64 x.fst.fst, Value.int IntKind.i64 x.fst.snd.fst,
                      Value.int IntKind.i64 x.fst.snd.snd.fst, Value.int IntKind.i64 x.fst.snd.snd.snd.fst,
                      Value.int IntKind.i64 x.fst.snd.snd.snd.snd.fst, Value.int IntKind.i64 x.fst.snd.snd.snd.snd.snd.fst,
                      Value.int IntKind.i64 x.fst.snd.snd.snd.snd.snd.snd.fst,
                      Value.int IntKind.i64 x.fst.snd.snd.snd.snd.snd.snd.snd.fst,
                      Value.int IntKind.i64 x.fst.snd.snd.snd.snd.snd.snd.snd.snd])
                  fun (x_1 : Bool) (w' : World) => cnd (!x_1) (R_2 true w') (R_2 (x.snd != (0 : Int)) w')) ∧
                ∀ (x : Bool) (j : Nat → Value) (w' : World),
                  R_2 x w' →
                    cnd x (CallT [Ty.one Sh.bool] Try.prog (36 : Nat) [] w' fun (x : Bool) (w' : World) => R x w')
                      (R_1 () w')) ∧
            ∀ (x : PUnit) (j : Nat → Value) (w'_1 : World),
              R_1 x w'_1 →
                ∃ (x : Int × Int × Int × Int × Int × Int × Int × Int × Int),
                  cellsAt w'_1 (Addr.mk w'.heap.size (0 : Nat) none)
                      [Value.int IntKind.i64 x.fst, Value.int IntKind.i64 x.snd.fst, Value.int IntKind.i64 x.snd.snd.fst,
                        Value.int IntKind.i64 x.snd.snd.snd.fst, Value.int IntKind.i64 x.snd.snd.snd.snd.fst,
                        Value.int IntKind.i64 x.snd.snd.snd.snd.snd.fst,
                        Value.int IntKind.i64 x.snd.snd.snd.snd.snd.snd.fst,
                        Value.int IntKind.i64 x.snd.snd.snd.snd.snd.snd.snd.fst,
                        Value.int IntKind.i64 x.snd.snd.snd.snd.snd.snd.snd.snd] ∧
                    CallT [Ty.one (Sh.int IntKind.i64), Ty.one Sh.bool] Try.prog (47 : Nat)
                      [Value.agg
                          #[Value.int IntKind.i64 x.fst, Value.int IntKind.i64 x.snd.fst,
                            Value.int IntKind.i64 x.snd.snd.fst, Value.int IntKind.i64 x.snd.snd.snd.fst,
                            Value.int IntKind.i64 x.snd.snd.snd.snd.fst, Value.int IntKind.i64 x.snd.snd.snd.snd.snd.fst,
                            Value.int IntKind.i64 x.snd.snd.snd.snd.snd.snd.fst,
                            Value.int IntKind.i64 x.snd.snd.snd.snd.snd.snd.snd.fst,
                            Value.int IntKind.i64 x.snd.snd.snd.snd.snd.snd.snd.snd],
                        Value.int IntKind.i64 n1]
                      w'_1 fun (x : Int × Bool) (w'_2 : World) =>
                      ∃ (x_1 : Int × Int × Int × Int × Int × Int × Int × Int × Int),
                        cellsAt w'_2 (Addr.mk w'.heap.size (0 : Nat) none)
                            [Value.int IntKind.i64 x_1.fst, Value.int IntKind.i64 x_1.snd.fst,
                              Value.int IntKind.i64 x_1.snd.snd.fst, Value.int IntKind.i64 x_1.snd.snd.snd.fst,
                              Value.int IntKind.i64 x_1.snd.snd.snd.snd.fst,
                              Value.int IntKind.i64 x_1.snd.snd.snd.snd.snd.fst,
                              Value.int IntKind.i64 x_1.snd.snd.snd.snd.snd.snd.fst,
                              Value.int IntKind.i64 x_1.snd.snd.snd.snd.snd.snd.snd.fst,
                              Value.int IntKind.i64 x_1.snd.snd.snd.snd.snd.snd.snd.snd] ∧
                          CallT [Ty.one (Sh.int IntKind.i64), Ty.one Sh.bool] Try.prog (47 : Nat)
                            [Value.agg
                                #[Value.int IntKind.i64 x_1.fst, Value.int IntKind.i64 x_1.snd.fst,
                                  Value.int IntKind.i64 x_1.snd.snd.fst, Value.int IntKind.i64 x_1.snd.snd.snd.fst,
                                  Value.int IntKind.i64 x_1.snd.snd.snd.snd.fst,
                                  Value.int IntKind.i64 x_1.snd.snd.snd.snd.snd.fst,
                                  Value.int IntKind.i64 x_1.snd.snd.snd.snd.snd.snd.fst,
                                  Value.int IntKind.i64 x_1.snd.snd.snd.snd.snd.snd.snd.fst,
                                  Value.int IntKind.i64 x_1.snd.snd.snd.snd.snd.snd.snd.snd],
                              Value.int IntKind.i64 n2]
                            w'_2 fun (x_2 : Int × Bool) (w'_3 : World) =>
                            ∃ (R_2 : PUnit → World → Prop),
                              cnd x.snd
                                  (∃ (x_3 : Int × Int × Int × Int × Int × Int × Int × Int × Int),
                                    cellsAt w'_3 (Addr.mk w'.heap.size (0 : Nat) none)
                                        [Value.int IntKind.i64 x_3.fst, Value.int IntKind.i64 x_3.snd.fst,
                                          Value.int IntKind.i64 x_3.snd.snd.fst, Value.int IntKind.i64 x_3.snd.snd.snd.fst,
                                          Value.int IntKind.i64 x_3.snd.snd.snd.snd.fst,
                                          Value.int IntKind.i64 x_3.snd.snd.snd.snd.snd.fst,
                                          Value.int IntKind.i64 x_3.snd.snd.snd.snd.snd.snd.fst,
                                          Value.int IntKind.i64 x_3.snd.snd.snd.snd.snd.snd.snd.fst,
                                          Value.int IntKind.i64 x_3.snd.snd.snd.snd.snd.snd.snd.snd] ∧
                                      CallT [Ty.one (Sh.int IntKind.i64), Ty.one Sh.bool] Try.prog (45 : Nat)
                                        [Value.agg
                                            #[Value.int IntKind.i64 x_3.fst, Value.int IntKind.i64 x_3.snd.fst,
                                              Value.int IntKind.i64 x_3.snd.snd.fst,
                                              Value.int IntKind.i64 x_3.snd.snd.snd.fst,
                                              Value.int IntKind.i64 x_3.snd.snd.snd.snd.fst,
                                              Value.int IntKind.i64 x_3.snd.snd.snd.snd.snd.fst,
                                              Value.int IntKind.i64 x_3.snd.snd.snd.snd.snd.snd.fst,
                                              Value.int IntKind.i64 x_3.snd.snd.snd.snd.snd.snd.snd.fst,
                                              Value.int IntKind.i64 x_3.snd.snd.snd.snd.snd.snd.snd.snd],
                                          Value.int IntKind.i64 x.fst]
                                        w'_3 fun (x_4 : Int × Bool) (w'_4 : World) =>
                                        cnd (!x_4.snd) (R false w'_4)
                                          (cnd (x_4.fst != n1) (R false w'_4)
                                            (∃ (x_5 : Int × Int × Int × Int × Int × Int × Int × Int × Int),
                                              cellsAt w'_4 (Addr.mk w'.heap.size (0 : Nat) none)
                                                  [Value.int IntKind.i64 x_5.fst, Value.int IntKind.i64 x_5.snd.fst,
                                                    Value.int IntKind.i64 x_5.snd.snd.fst,
                                                    Value.int IntKind.i64 x_5.snd.snd.snd.fst,
                                                    Value.int IntKind.i64 x_5.snd.snd.snd.snd.fst,
                                                    Value.int IntKind.i64 x_5.snd.snd.snd.snd.snd.fst,
                                                    Value.int IntKind.i64 x_5.snd.snd.snd.snd.snd.snd.fst,
                                                    Value.int IntKind.i64 x_5.snd.snd.snd.snd.snd.snd.snd.fst,
                                                    Value.int IntKind.i64 x_5.snd.snd.snd.snd.snd.snd.snd.snd] ∧
                                                CallT [Ty.one (Sh.int IntKind.i64)] Try.prog (38 : Nat)
                                                  [Value.agg
                                                      #[Value.int IntKind.i64 x_5.fst, Value.int IntKind.i64 x_5.snd.fst,
                                                        Value.int IntKind.i64 x_5.snd.snd.fst,
                                                        Value.int IntKind.i64 x_5.snd.snd.snd.fst,
                                                        Value.int IntKind.i64 x_5.snd.snd.snd.snd.fst,
                                                        Value.int IntKind.i64 x_5.snd.snd.snd.snd.snd.fst,
                                                        Value.int IntKind.i64 x_5.snd.snd.snd.snd.snd.snd.fst,
                                                        Value.int IntKind.i64 x_5.snd.snd.snd.snd.snd.snd.snd.fst,
                                                        Value.int IntKind.i64 x_5.snd.snd.snd.snd.snd.snd.snd.snd],
                                                    Value.int IntKind.i64 x.fst]
                                                  w'_4 fun (x_6 : Int) (w' : World) =>
                                                  cnd (x_6 != (7 : Int)) (R false w')
                                                    (cnd (decide (x.fst < (0 : Int))) (R false w')
                                                      (cnd (decide (x.fst ≥ n0)) (R false w') (R_2 () w'))))))
                                  (R_2 () w'_3) ∧
                                ∀ (x_3 : PUnit) (j : Nat → Value) (w'_4 : World),
                                  R_2 x_3 w'_4 →
                                    ∃ (R_3 : PUnit → World → Prop),
                                      cnd x.snd
                                          (cnd x_2.snd
                                            (cnd (!decide (n1 < n2) == decide (x.fst < x_2.fst)) (R false w'_4)
                                              (R_3 () w'_4))
                                            (R_3 () w'_4))
                                          (R_3 () w'_4) ∧
                                        ∀ (x : PUnit) (j : Nat → Value) (w'_5 : World),
                                          R_3 x w'_5 →
                                            ∃ (x : Int × Int × Int × Int × Int × Int × Int × Int × Int),
                                              cellsAt w'_5 (Addr.mk w'.heap.size (0 : Nat) none)
                                                  [Value.int IntKind.i64 x.fst, Value.int IntKind.i64 x.snd.fst,
                                                    Value.int IntKind.i64 x.snd.snd.fst,
                                                    Value.int IntKind.i64 x.snd.snd.snd.fst,
                                                    Value.int IntKind.i64 x.snd.snd.snd.snd.fst,
                                                    Value.int IntKind.i64 x.snd.snd.snd.snd.snd.fst,
                                                    Value.int IntKind.i64 x.snd.snd.snd.snd.snd.snd.fst,
                                                    Value.int IntKind.i64 x.snd.snd.snd.snd.snd.snd.snd.fst,
                                                    Value.int IntKind.i64 x.snd.snd.snd.snd.snd.snd.snd.snd] ∧
                                                CallT [Ty.one (Sh.int IntKind.i64), Ty.one Sh.bool] Try.prog (45 : Nat)
                                                  [Value.agg
                                                      #[Value.int IntKind.i64 x.fst, Value.int IntKind.i64 x.snd.fst,
                                                        Value.int IntKind.i64 x.snd.snd.fst,
                                                        Value.int IntKind.i64 x.snd.snd.snd.fst,
                                                        Value.int IntKind.i64 x.snd.snd.snd.snd.fst,
                                                        Value.int IntKind.i64 x.snd.snd.snd.snd.snd.fst,
                                                        Value.int IntKind.i64 x.snd.snd.snd.snd.snd.snd.fst,
                                                        Value.int IntKind.i64 x.snd.snd.snd.snd.snd.snd.snd.fst,
                                                        Value.int IntKind.i64 x.snd.snd.snd.snd.snd.snd.snd.snd],
                                                    Value.int IntKind.i64 n1]
                                                  w'_5 fun (x : Int × Bool) (w'_6 : World) =>
                                                  cnd (!x.snd) (R true w'_6)
                                                    (∃ (x_4 : Int × Int × Int × Int × Int × Int × Int × Int × Int),
                                                      cellsAt w'_6 (Addr.mk w'.heap.size (0 : Nat) none)
                                                          [Value.int IntKind.i64 x_4.fst, Value.int IntKind.i64 x_4.snd.fst,
                                                            Value.int IntKind.i64 x_4.snd.snd.fst,
                                                            Value.int IntKind.i64 x_4.snd.snd.snd.fst,
                                                            Value.int IntKind.i64 x_4.snd.snd.snd.snd.fst,
                                                            Value.int IntKind.i64 x_4.snd.snd.snd.snd.snd.fst,
                                                            Value.int IntKind.i64 x_4.snd.snd.snd.snd.snd.snd.fst,
                                                            Value.int IntKind.i64 x_4.snd.snd.snd.snd.snd.snd.snd.fst,
                                                            Value.int IntKind.i64 x_4.snd.snd.snd.snd.snd.snd.snd.snd] ∧
                                                        CallT [Ty.one (Sh.int IntKind.i64), Ty.one Sh.bool] Try.prog
                                                          (47 : Nat)
                                                          [Value.agg
                                                              #[Value.int IntKind.i64 x_4.fst,
                                                                Value.int IntKind.i64 x_4.snd.fst,
                                                                Value.int IntKind.i64 x_4.snd.snd.fst,
                                                                Value.int IntKind.i64 x_4.snd.snd.snd.fst,
                                                                Value.int IntKind.i64 x_4.snd.snd.snd.snd.fst,
                                                                Value.int IntKind.i64 x_4.snd.snd.snd.snd.snd.fst,
                                                                Value.int IntKind.i64 x_4.snd.snd.snd.snd.snd.snd.fst,
                                                                Value.int IntKind.i64 x_4.snd.snd.snd.snd.snd.snd.snd.fst,
                                                                Value.int IntKind.i64 x_4.snd.snd.snd.snd.snd.snd.snd.snd],
                                                            Value.int IntKind.i64 x.fst]
                                                          w'_6 fun (x : Int × Bool) (w' : World) =>
                                                          cnd x.snd (R (x.fst == n1) w') (R false w')))
  : CallT [Ty.one Sh.bool] Try.prog 15 [Value.int IntKind.i64 n0, Value.int IntKind.i64 n1, Value.int IntKind.i64 n2] w R :=
  fnV_sound (h := HT.z.sq
  (HT.z.sq
    (HT.jn [] (HT.jn [((29 : Nat), Ty.one Sh.bool)] HT.z HT.z)
      (HT.z.sq (HT.z.sq (HT.jn [] HT.z (HT.jn [] HT.z HT.z))))))) Try.func15 (by kernel_rfl) (by kernel_rfl) (Eq.mp (by kernel_rfl) h)

/-- dunnage/dunnagelaw01.WordPuts -/
theorem dunnagelaw01_WordPuts.vc (s0 : SV) (n1 : Int) (n2 : Int) (n3 : Int) (n4 : Int) (w : World) (R : Bool → World → Prop)
  (h : CallT [Ty.one Sh.slice] Try.prog (25 : Nat) [Value.slice s0.a s0.len s0.cap, Value.int IntKind.u8 (71 : Int)] w
      fun (x : SV) (w' : World) =>
      CallT [Ty.one Sh.slice, Ty.one (Sh.int IntKind.i64)] Try.prog (42 : Nat)
        [Value.slice x.a x.len x.cap, Value.int IntKind.u64 n1, Value.int IntKind.i64 n2] w'
        fun (x_1 : SV × Int) (w' : World) =>
        CallT [Ty.one Sh.slice, Ty.one (Sh.int IntKind.i64)] Try.prog (48 : Nat)
          [Value.slice s0.a s0.len s0.cap, Value.int IntKind.u64 n1, Value.int IntKind.i64 n2] w'
          fun (x_2 : SV × Int) (w' : World) =>
          CallT [Ty.one (Sh.int IntKind.u64), Ty.one (Sh.int IntKind.i64)] Try.prog (49 : Nat)
            [Value.slice x.a x.len x.cap, Value.int IntKind.i64 n3, Value.int IntKind.i64 n4] w'
            fun (x_3 : Int × Int) (w' : World) =>
            CallT [Ty.one (Sh.int IntKind.u64), Ty.one (Sh.int IntKind.i64)] Try.prog (50 : Nat)
              [Value.slice s0.a s0.len s0.cap, Value.int IntKind.i64 n3, Value.int IntKind.i64 n4] w'
              fun (x_4 : Int × Int) (w' : World) =>
              ∃ (R_1 : PUnit → World → Prop),
                (CallT [Ty.one Sh.bool] Try.prog (23 : Nat) [] w' fun (x_5 : Bool) (w' : World) =>
                    cnd (!x_5) (R false w')
                      (CallT [Ty.one Sh.bool] Try.prog (24 : Nat)
                        [Value.slice x_1.fst.a x_1.fst.len x_1.fst.cap, Value.slice x_2.fst.a x_2.fst.len x_2.fst.cap] w'
                        fun (x_6 : Bool) (w' : World) =>
                        cnd (!x_6) (R false w')
                          (cnd (x_1.snd != x_2.snd) (R false w')
                            (cnd (x_3.fst != x_4.fst) (R false w')
                              (cnd (x_3.snd != x_4.snd) (R false w')
                                (CallT [Ty.one Sh.bool] Try.prog (31 : Nat)
                                  [Value.slice x.a x.len x.cap, Value.slice s0.a s0.len s0.cap,
                                    Value.int IntKind.u8 (71 : Int)]
                                  w' fun (x : Bool) (w' : World) => cnd (!x) (R false w') (R_1 () w'))))))) ∧
                  ∀ (x_5 : PUnit) (j : Nat → Value) (w' : World),
                    R_1 x_5 w' →
                      CallT [] Try.prog (51 : Nat) [Value.slice x_1.fst.a x_1.fst.len x_1.fst.cap] w'
                        fun (x_6 : PUnit) (w' : World) =>
                        CallT [Ty.one Sh.bool] Try.prog (31 : Nat)
                          [Value.slice x.a x.len x.cap, Value.slice s0.a s0.len s0.cap, Value.int IntKind.u8 (71 : Int)] w'
                          fun (x : Bool) (w' : World) => R x w')
  : CallT [Ty.one Sh.bool] Try.prog 16 [Value.slice s0.a s0.len s0.cap, Value.int IntKind.u64 n1, Value.int IntKind.i64 n2, Value.int IntKind.i64 n3,
  Value.int IntKind.i64 n4] w R :=
  fnV_sound (h := HT.z.sq (HT.z.sq (HT.z.sq (HT.z.sq (HT.z.sq (HT.z.sq (HT.jn [] HT.z HT.z))))))) Try.func16 (by kernel_rfl) (by kernel_rfl) (Eq.mp (by kernel_rfl) h)

/-- dunnage/dunnagelaw01.WordGets -/
theorem dunnagelaw01_WordGets.vc (s0 : SV) (n1 : Int) (n2 : Int) (n3 : Int) (w : World) (R : Bool → World → Prop)
  (h : CallT [Ty.one Sh.slice, Ty.one (Sh.int IntKind.i64)] Try.prog (42 : Nat)
      [Value.slice s0.a s0.len s0.cap, Value.int IntKind.u64 n1, Value.int IntKind.i64 n2] w
      fun (x : SV × Int) (w' : World) =>
      CallT [Ty.one Sh.bool] Try.prog (23 : Nat) [] w' fun (x_1 : Bool) (w' : World) =>
        cnd (!x_1) (R false w')
          (∃ (R_1 : PUnit → World → Prop),
            cnd (x.snd == (0 : Int))
                (CallT [Ty.one (Sh.int IntKind.u64), Ty.one (Sh.int IntKind.i64)] Try.prog (49 : Nat)
                  [Value.slice x.fst.a x.fst.len x.fst.cap, Value.int IntKind.i64 (↑s0.len : Int), Value.int IntKind.i64 n2]
                  w' fun (x_2 : Int × Int) (w' : World) =>
                  cnd (x_2.snd != (0 : Int)) (R false w')
                    (cnd (x_2.fst != n1) (R false w')
                      (cnd ((↑x.fst.len : Int) != IntKind.i64.wrap ((↑s0.len : Int) + n2)) (R false w') (R_1 () w'))))
                (R_1 () w') ∧
              ∀ (x : PUnit) (j : Nat → Value) (w' : World),
                R_1 x w' →
                  CallT [Ty.one (Sh.int IntKind.u64), Ty.one (Sh.int IntKind.i64)] Try.prog (49 : Nat)
                    [Value.slice s0.a s0.len s0.cap, Value.int IntKind.i64 n3, Value.int IntKind.i64 n2] w'
                    fun (x : Int × Int) (w' : World) =>
                    cnd (x.snd != (0 : Int)) (R true w')
                      (CallT [Ty.one Sh.slice, Ty.one (Sh.int IntKind.i64)] Try.prog (42 : Nat)
                        [Value.slice none (0 : Nat) (0 : Nat), Value.int IntKind.u64 x.fst, Value.int IntKind.i64 n2] w'
                        fun (x : SV × Int) (w' : World) =>
                        cnd (x.snd == (0 : Int))
                          ((0 : Int) ≤ IntKind.i64.wrap (n3 + n2) ∧
                            IntKind.i64.wrap (n3 + n2) ≤ (↑s0.cap : Int) ∧
                              (0 : Int) ≤ n3 ∧
                                n3 ≤ (↑(IntKind.i64.wrap (n3 + n2)).toNat : Int) ∧
                                  CallT [Ty.one Sh.bool] Try.prog (24 : Nat)
                                    [Value.slice x.fst.a x.fst.len x.fst.cap,
                                      Value.slice (subA s0.a n3.toNat (1 : Nat) s0.cap)
                                        ((IntKind.i64.wrap (n3 + n2)).toNat - n3.toNat) (s0.cap - n3.toNat)]
                                    w' fun (x : Bool) (w' : World) => R x w')
                          (R false w'))))
  : CallT [Ty.one Sh.bool] Try.prog 17 [Value.slice s0.a s0.len s0.cap, Value.int IntKind.u64 n1, Value.int IntKind.i64 n2, Value.int IntKind.i64 n3] w R :=
  fnV_sound (h := HT.z.sq (HT.z.sq (HT.z.sq (HT.jn [] HT.z HT.z)))) Try.func17 (by kernel_rfl) (by kernel_rfl) (Eq.mp (by kernel_rfl) h)

/-- dunnage/dunnagelaw01.WordHalves -/
theorem dunnagelaw01_WordHalves.vc (n0 : Int) (n1 : Int) (w : World) (R : Bool → World → Prop)
  (h : let e1 := IntKind.i64.wrap ((1 : Int) + IntKind.i64.wrap ((IntKind.u64.wrap n1).tmod (7 : Int)));
    CallT [Ty.one Sh.slice, Ty.one (Sh.int IntKind.i64)] Try.prog (42 : Nat)
      [Value.slice none (0 : Nat) (0 : Nat), Value.int IntKind.u64 n0, Value.int IntKind.i64 (8 : Int)] w
      fun (x : SV × Int) (w' : World) =>
      CallT [Ty.one (Sh.int IntKind.u64), Ty.one (Sh.int IntKind.i64)] Try.prog (49 : Nat)
        [Value.slice x.fst.a x.fst.len x.fst.cap, Value.int IntKind.i64 (0 : Int), Value.int IntKind.i64 e1] w'
        fun (x_1 : Int × Int) (w' : World) =>
        CallT [Ty.one (Sh.int IntKind.u64), Ty.one (Sh.int IntKind.i64)] Try.prog (49 : Nat)
          [Value.slice x.fst.a x.fst.len x.fst.cap, Value.int IntKind.i64 e1,
            Value.int IntKind.i64 (IntKind.i64.wrap ((8 : Int) - e1))]
          w' fun (x_2 : Int × Int) (w' : World) =>
          CallT [Ty.one Sh.bool] Try.prog (23 : Nat) [] w' fun (x_3 : Bool) (w' : World) =>
            cnd x_3
              (cnd (x.snd == (0 : Int))
                (cnd (x_1.snd == (0 : Int))
                  (cnd (x_2.snd == (0 : Int))
                    ((0 : Int) ≤ IntKind.u64.wrap (IntKind.i64.wrap ((8 : Int) * e1)) ∧
                      R
                        (bor IntKind.u64 x_1.fst
                            (shl IntKind.u64 x_2.fst (IntKind.u64.wrap (IntKind.i64.wrap ((8 : Int) * e1)))) ==
                          n0)
                        w')
                    (R false w'))
                  (R false w'))
                (R false w'))
              (R false w'))
  : CallT [Ty.one Sh.bool] Try.prog 18 [Value.int IntKind.u64 n0, Value.int IntKind.i64 n1] w R :=
  fnV_sound (h := HT.z) Try.func18 (by kernel_rfl) (by kernel_rfl) (Eq.mp (by kernel_rfl) h)

end Go.Proofs
