/- The conditions of the seat's functions, written by a program (VcTool, genvc.py) off 'vc' reduced; each is tied to 'vc' by the kernel. Conditions: none. -/
import Derived.Test.YtbnnpnillppdhaaVcSound5
import Derived.Test.YtbnnpnillppdhaaProg
set_option linter.unusedVariables false
set_option maxRecDepth 100000
namespace Go.Proofs
open Go Go.Vc
/-- dunnage/dunnagelaw05.LayoutPlans -/
theorem dunnagelaw05_LayoutPlans.vc (n0 : Int) (n1 : Int) (n2 : Int) (w : World) (R : Bool → World → Prop)
  (h : CallT
      [Ty.agg
          [Sh.int IntKind.i64, Sh.int IntKind.i64, Sh.int IntKind.i64, Sh.int IntKind.i64, Sh.int IntKind.i64,
            Sh.int IntKind.i64, Sh.int IntKind.i64, Sh.int IntKind.i64, Sh.int IntKind.i64],
        Ty.one (Sh.int IntKind.i64)]
      Try.prog (35 : Nat) [Value.int IntKind.i64 n0] w
      fun (x : (Int × Int × Int × Int × Int × Int × Int × Int × Int) × Int) (w' : World) =>
      let e1 := x.snd;
      let w1 :=
        w'.alloc
          (Obj.cells
            #[Value.int IntKind.i64 (0 : Int), Value.int IntKind.i64 (0 : Int), Value.int IntKind.i64 (0 : Int),
              Value.int IntKind.i64 (0 : Int), Value.int IntKind.i64 (0 : Int), Value.int IntKind.i64 (0 : Int),
              Value.int IntKind.i64 (0 : Int), Value.int IntKind.i64 (0 : Int), Value.int IntKind.i64 (0 : Int)]
            (44 : Nat));
      canSt w1 (Addr.mk w'.heap.size (0 : Nat) none) (9 : Nat) ∧
        CallT
          [Ty.agg
              [Sh.int IntKind.i64, Sh.int IntKind.i64, Sh.int IntKind.i64, Sh.int IntKind.i64, Sh.int IntKind.i64,
                Sh.int IntKind.i64, Sh.int IntKind.i64, Sh.int IntKind.i64, Sh.int IntKind.i64],
            Ty.one (Sh.int IntKind.i64)]
          Try.prog (52 : Nat) [Value.int IntKind.i64 n0]
          (setCells w1 (Addr.mk w'.heap.size (0 : Nat) none) (0 : Nat)
            [Value.int IntKind.i64 x.fst.fst, Value.int IntKind.i64 x.fst.snd.fst, Value.int IntKind.i64 x.fst.snd.snd.fst,
              Value.int IntKind.i64 x.fst.snd.snd.snd.fst, Value.int IntKind.i64 x.fst.snd.snd.snd.snd.fst,
              Value.int IntKind.i64 x.fst.snd.snd.snd.snd.snd.fst, Value.int IntKind.i64 x.fst.snd.snd.snd.snd.snd.snd.fst,
              Value.int IntKind.i64 x.fst.snd.snd.snd.snd.snd.snd.snd.fst,
              Value.int IntKind.i64 x.fst.snd.snd.snd.snd.snd.snd.snd.snd])
          fun (x : (Int × Int × Int × Int × Int × Int × Int × Int × Int) × Int) (w'_1 : World) =>
          let w1 :=
            w'_1.alloc
              (Obj.cells
                #[Value.int IntKind.i64 (0 : Int), Value.int IntKind.i64 (0 : Int), Value.int IntKind.i64 (0 : Int),
                  Value.int IntKind.i64 (0 : Int), Value.int IntKind.i64 (0 : Int), Value.int IntKind.i64 (0 : Int),
                  Value.int IntKind.i64 (0 : Int), Value.int IntKind.i64 (0 : Int), Value.int IntKind.i64 (0 : Int)]
                (44 : Nat));
          canSt w1 (Addr.mk w'_1.heap.size (0 : Nat) none) (9 : Nat) ∧
            ∃ (R_1 : PUnit → World → Prop),
              (CallT [Ty.one Sh.bool] Try.prog (36 : Nat) []
                  (setCells w1 (Addr.mk w'_1.heap.size (0 : Nat) none) (0 : Nat)
                    [Value.int IntKind.i64 x.fst.fst, Value.int IntKind.i64 x.fst.snd.fst,
                      Value.int IntKind.i64 x.fst.snd.snd.fst, Value.int IntKind.i64 x.fst.snd.snd.snd.fst,
                      Value.int IntKind.i64 x.fst.snd.snd.snd.snd.fst, Value.int IntKind.i64 x.fst.snd.snd.snd.snd.snd.fst,
                      Value.int IntKind.i64 x.fst.snd.snd.snd.snd.snd.snd.fst,
                      Value.int IntKind.i64 x.fst.snd.snd.snd.snd.snd.snd.snd.fst,
                      Value.int IntKind.i64 x.fst.snd.snd.snd.snd.snd.snd.snd.snd])
                  fun (x_1 : Bool) (w'_2 : World) =>
                  cnd (!x_1) (R false w'_2)
                    (∃ (x_2 : Int × Int × Int × Int × Int × Int × Int × Int × Int),
                      cellsAt w'_2 (Addr.mk w'.heap.size (0 : Nat) none)
                          [Value.int IntKind.i64 x_2.fst, Value.int IntKind.i64 x_2.snd.fst,
                            Value.int IntKind.i64 x_2.snd.snd.fst, Value.int IntKind.i64 x_2.snd.snd.snd.fst,
                            Value.int IntKind.i64 x_2.snd.snd.snd.snd.fst,
                            Value.int IntKind.i64 x_2.snd.snd.snd.snd.snd.fst,
                            Value.int IntKind.i64 x_2.snd.snd.snd.snd.snd.snd.fst,
                            Value.int IntKind.i64 x_2.snd.snd.snd.snd.snd.snd.snd.fst,
                            Value.int IntKind.i64 x_2.snd.snd.snd.snd.snd.snd.snd.snd] ∧
                        ∃ (x_3 : Int × Int × Int × Int × Int × Int × Int × Int × Int),
                          cellsAt w'_2 (Addr.mk w'_1.heap.size (0 : Nat) none)
                              [Value.int IntKind.i64 x_3.fst, Value.int IntKind.i64 x_3.snd.fst,
                                Value.int IntKind.i64 x_3.snd.snd.fst, Value.int IntKind.i64 x_3.snd.snd.snd.fst,
                                Value.int IntKind.i64 x_3.snd.snd.snd.snd.fst,
                                Value.int IntKind.i64 x_3.snd.snd.snd.snd.snd.fst,
                                Value.int IntKind.i64 x_3.snd.snd.snd.snd.snd.snd.fst,
                                Value.int IntKind.i64 x_3.snd.snd.snd.snd.snd.snd.snd.fst,
                                Value.int IntKind.i64 x_3.snd.snd.snd.snd.snd.snd.snd.snd] ∧
                            cnd
                              (!(x_2.fst == x_3.fst &&
                                  (x_2.snd.fst == x_3.snd.fst &&
                                    (x_2.snd.snd.fst == x_3.snd.snd.fst &&
                                      (x_2.snd.snd.snd.fst == x_3.snd.snd.snd.fst &&
                                        (x_2.snd.snd.snd.snd.fst == x_3.snd.snd.snd.snd.fst &&
                                            (x_2.snd.snd.snd.snd.snd.fst == x_3.snd.snd.snd.snd.snd.fst && true) &&
                                          (x_2.snd.snd.snd.snd.snd.snd.fst == x_3.snd.snd.snd.snd.snd.snd.fst &&
                                            (x_2.snd.snd.snd.snd.snd.snd.snd.fst == x_3.snd.snd.snd.snd.snd.snd.snd.fst &&
                                              (x_2.snd.snd.snd.snd.snd.snd.snd.snd == x_3.snd.snd.snd.snd.snd.snd.snd.snd &&
                                                true)))))))))
                              (R false w'_2) (cnd (e1 != x.snd) (R false w'_2) (R_1 () w'_2)))) ∧
                ∀ (x : PUnit) (j : Nat → Value) (w'_2 : World),
                  R_1 x w'_2 →
                    cnd (e1 != (0 : Int)) (R true w'_2)
                      (∃ (x : Int × Int × Int × Int × Int × Int × Int × Int × Int),
                        cellsAt w'_2 (Addr.mk w'.heap.size (0 : Nat) none)
                            [Value.int IntKind.i64 x.fst, Value.int IntKind.i64 x.snd.fst,
                              Value.int IntKind.i64 x.snd.snd.fst, Value.int IntKind.i64 x.snd.snd.snd.fst,
                              Value.int IntKind.i64 x.snd.snd.snd.snd.fst, Value.int IntKind.i64 x.snd.snd.snd.snd.snd.fst,
                              Value.int IntKind.i64 x.snd.snd.snd.snd.snd.snd.fst,
                              Value.int IntKind.i64 x.snd.snd.snd.snd.snd.snd.snd.fst,
                              Value.int IntKind.i64 x.snd.snd.snd.snd.snd.snd.snd.snd] ∧
                          CallT [Ty.one (Sh.int IntKind.i64), Ty.one Sh.bool] Try.prog (47 : Nat)
                            [Value.agg
                                #[Value.int IntKind.i64 x.fst, Value.int IntKind.i64 x.snd.fst,
                                  Value.int IntKind.i64 x.snd.snd.fst, Value.int IntKind.i64 x.snd.snd.snd.fst,
                                  Value.int IntKind.i64 x.snd.snd.snd.snd.fst,
                                  Value.int IntKind.i64 x.snd.snd.snd.snd.snd.fst,
                                  Value.int IntKind.i64 x.snd.snd.snd.snd.snd.snd.fst,
                                  Value.int IntKind.i64 x.snd.snd.snd.snd.snd.snd.snd.fst,
                                  Value.int IntKind.i64 x.snd.snd.snd.snd.snd.snd.snd.snd],
                              Value.int IntKind.i64 n1]
                            w'_2 fun (x : Int × Bool) (w'_3 : World) =>
                            ∃ (x_1 : Int × Int × Int × Int × Int × Int × Int × Int × Int),
                              cellsAt w'_3 (Addr.mk w'_1.heap.size (0 : Nat) none)
                                  [Value.int IntKind.i64 x_1.fst, Value.int IntKind.i64 x_1.snd.fst,
                                    Value.int IntKind.i64 x_1.snd.snd.fst, Value.int IntKind.i64 x_1.snd.snd.snd.fst,
                                    Value.int IntKind.i64 x_1.snd.snd.snd.snd.fst,
                                    Value.int IntKind.i64 x_1.snd.snd.snd.snd.snd.fst,
                                    Value.int IntKind.i64 x_1.snd.snd.snd.snd.snd.snd.fst,
                                    Value.int IntKind.i64 x_1.snd.snd.snd.snd.snd.snd.snd.fst,
                                    Value.int IntKind.i64 x_1.snd.snd.snd.snd.snd.snd.snd.snd] ∧
                                CallT [Ty.one (Sh.int IntKind.i64), Ty.one Sh.bool] Try.prog (53 : Nat)
                                  [Value.agg
                                      #[Value.int IntKind.i64 x_1.fst, Value.int IntKind.i64 x_1.snd.fst,
                                        Value.int IntKind.i64 x_1.snd.snd.fst, Value.int IntKind.i64 x_1.snd.snd.snd.fst,
                                        Value.int IntKind.i64 x_1.snd.snd.snd.snd.fst,
                                        Value.int IntKind.i64 x_1.snd.snd.snd.snd.snd.fst,
                                        Value.int IntKind.i64 x_1.snd.snd.snd.snd.snd.snd.fst,
                                        Value.int IntKind.i64 x_1.snd.snd.snd.snd.snd.snd.snd.fst,
                                        Value.int IntKind.i64 x_1.snd.snd.snd.snd.snd.snd.snd.snd],
                                    Value.int IntKind.i64 n1]
                                  w'_3 fun (x_2 : Int × Bool) (w'_4 : World) =>
                                  ∃ (x_3 : Int × Int × Int × Int × Int × Int × Int × Int × Int),
                                    cellsAt w'_4 (Addr.mk w'.heap.size (0 : Nat) none)
                                        [Value.int IntKind.i64 x_3.fst, Value.int IntKind.i64 x_3.snd.fst,
                                          Value.int IntKind.i64 x_3.snd.snd.fst, Value.int IntKind.i64 x_3.snd.snd.snd.fst,
                                          Value.int IntKind.i64 x_3.snd.snd.snd.snd.fst,
                                          Value.int IntKind.i64 x_3.snd.snd.snd.snd.snd.fst,
                                          Value.int IntKind.i64 x_3.snd.snd.snd.snd.snd.snd.fst,
                                          Value.int IntKind.i64 x_3.snd.snd.snd.snd.snd.snd.snd.fst,
                                          Value.int IntKind.i64 x_3.snd.snd.snd.snd.snd.snd.snd.snd] ∧
                                      CallT [Ty.one (Sh.int IntKind.i64), Ty.one Sh.bool] Try.prog (45 : Nat)
                                        [Value.agg
                                            #[Value.int IntKind.i64 x_3.fst, Value.int IntKind.i64 x_3.snd.fst,
                                              Value.int IntKind.i64 x_3.snd.snd.fst,
                                              Value.int IntKind.i64 x_3.snd.snd.snd.fst,
                                              Value.int IntKind.i64 x_3.snd.snd.snd.snd.fst,
                                              Value.int IntKind.i64 x_3.snd.snd.snd.snd.snd.fst,
                                              Value.int IntKind.i64 x_3.snd.snd.snd.snd.snd.snd.fst,
                                              Value.int IntKind.i64 x_3.snd.snd.snd.snd.snd.snd.snd.fst,
                                              Value.int IntKind.i64 x_3.snd.snd.snd.snd.snd.snd.snd.snd],
                                          Value.int IntKind.i64 n1]
                                        w'_4 fun (x_4 : Int × Bool) (w'_5 : World) =>
                                        ∃ (x_5 : Int × Int × Int × Int × Int × Int × Int × Int × Int),
                                          cellsAt w'_5 (Addr.mk w'_1.heap.size (0 : Nat) none)
                                              [Value.int IntKind.i64 x_5.fst, Value.int IntKind.i64 x_5.snd.fst,
                                                Value.int IntKind.i64 x_5.snd.snd.fst,
                                                Value.int IntKind.i64 x_5.snd.snd.snd.fst,
                                                Value.int IntKind.i64 x_5.snd.snd.snd.snd.fst,
                                                Value.int IntKind.i64 x_5.snd.snd.snd.snd.snd.fst,
                                                Value.int IntKind.i64 x_5.snd.snd.snd.snd.snd.snd.fst,
                                                Value.int IntKind.i64 x_5.snd.snd.snd.snd.snd.snd.snd.fst,
                                                Value.int IntKind.i64 x_5.snd.snd.snd.snd.snd.snd.snd.snd] ∧
                                            CallT [Ty.one (Sh.int IntKind.i64), Ty.one Sh.bool] Try.prog (54 : Nat)
                                              [Value.agg
                                                  #[Value.int IntKind.i64 x_5.fst, Value.int IntKind.i64 x_5.snd.fst,
                                                    Value.int IntKind.i64 x_5.snd.snd.fst,
                                                    Value.int IntKind.i64 x_5.snd.snd.snd.fst,
                                                    Value.int IntKind.i64 x_5.snd.snd.snd.snd.fst,
                                                    Value.int IntKind.i64 x_5.snd.snd.snd.snd.snd.fst,
                                                    Value.int IntKind.i64 x_5.snd.snd.snd.snd.snd.snd.fst,
                                                    Value.int IntKind.i64 x_5.snd.snd.snd.snd.snd.snd.snd.fst,
                                                    Value.int IntKind.i64 x_5.snd.snd.snd.snd.snd.snd.snd.snd],
                                                Value.int IntKind.i64 n1]
                                              w'_5 fun (x_6 : Int × Bool) (w'_6 : World) =>
                                              ∃ (S : World → Prop),
                                                S w'_6.drew ∧
                                                  ∃ (x_7 : Int × Int × Int × Int × Int × Int × Int × Int × Int),
                                                    (∀ (w : World),
                                                        S w →
                                                          cellsAt w (Addr.mk w'.heap.size (0 : Nat) none)
                                                            [Value.int IntKind.i64 x_7.fst,
                                                              Value.int IntKind.i64 x_7.snd.fst,
                                                              Value.int IntKind.i64 x_7.snd.snd.fst,
                                                              Value.int IntKind.i64 x_7.snd.snd.snd.fst,
                                                              Value.int IntKind.i64 x_7.snd.snd.snd.snd.fst,
                                                              Value.int IntKind.i64 x_7.snd.snd.snd.snd.snd.fst,
                                                              Value.int IntKind.i64 x_7.snd.snd.snd.snd.snd.snd.fst,
                                                              Value.int IntKind.i64 x_7.snd.snd.snd.snd.snd.snd.snd.fst,
                                                              Value.int IntKind.i64 x_7.snd.snd.snd.snd.snd.snd.snd.snd]) ∧
                                                      ∃ (x_8 : Int × Int × Int × Int × Int × Int × Int × Int × Int),
                                                        (∀ (w : World),
                                                            S w →
                                                              cellsAt w (Addr.mk w'_1.heap.size (0 : Nat) none)
                                                                [Value.int IntKind.i64 x_8.fst,
                                                                  Value.int IntKind.i64 x_8.snd.fst,
                                                                  Value.int IntKind.i64 x_8.snd.snd.fst,
                                                                  Value.int IntKind.i64 x_8.snd.snd.snd.fst,
                                                                  Value.int IntKind.i64 x_8.snd.snd.snd.snd.fst,
                                                                  Value.int IntKind.i64 x_8.snd.snd.snd.snd.snd.fst,
                                                                  Value.int IntKind.i64 x_8.snd.snd.snd.snd.snd.snd.fst,
                                                                  Value.int IntKind.i64 x_8.snd.snd.snd.snd.snd.snd.snd.fst,
                                                                  Value.int IntKind.i64
                                                                    x_8.snd.snd.snd.snd.snd.snd.snd.snd]) ∧
                                                          CallT [Ty.one (Sh.int IntKind.i64)] Try.prog (38 : Nat)
                                                            [Value.agg
                                                                #[Value.int IntKind.i64 x_7.fst,
                                                                  Value.int IntKind.i64 x_7.snd.fst,
                                                                  Value.int IntKind.i64 x_7.snd.snd.fst,
                                                                  Value.int IntKind.i64 x_7.snd.snd.snd.fst,
                                                                  Value.int IntKind.i64 x_7.snd.snd.snd.snd.fst,
                                                                  Value.int IntKind.i64 x_7.snd.snd.snd.snd.snd.fst,
                                                                  Value.int IntKind.i64 x_7.snd.snd.snd.snd.snd.snd.fst,
                                                                  Value.int IntKind.i64 x_7.snd.snd.snd.snd.snd.snd.snd.fst,
                                                                  Value.int IntKind.i64
                                                                    x_7.snd.snd.snd.snd.snd.snd.snd.snd],
                                                              Value.int IntKind.i64 n1]
                                                            w'_6.drew fun (x_9 : Int) (w'_7 : World) =>
                                                            S w'_7 ∧
                                                              CallT [Ty.one (Sh.int IntKind.i64)] Try.prog (55 : Nat)
                                                                [Value.agg
                                                                    #[Value.int IntKind.i64 x_8.fst,
                                                                      Value.int IntKind.i64 x_8.snd.fst,
                                                                      Value.int IntKind.i64 x_8.snd.snd.fst,
                                                                      Value.int IntKind.i64 x_8.snd.snd.snd.fst,
                                                                      Value.int IntKind.i64 x_8.snd.snd.snd.snd.fst,
                                                                      Value.int IntKind.i64 x_8.snd.snd.snd.snd.snd.fst,
                                                                      Value.int IntKind.i64 x_8.snd.snd.snd.snd.snd.snd.fst,
                                                                      Value.int IntKind.i64
                                                                        x_8.snd.snd.snd.snd.snd.snd.snd.fst,
                                                                      Value.int IntKind.i64
                                                                        x_8.snd.snd.snd.snd.snd.snd.snd.snd],
                                                                  Value.int IntKind.i64 n1]
                                                                w'_7 fun (x_10 : Int) (w'_8 : World) =>
                                                                S w'_8 ∧
                                                                  cnd (x_9 == x_10)
                                                                    (∃ (x_11 :
                                                                      Int × Int × Int × Int × Int × Int × Int × Int × Int),
                                                                      (∀ (w : World),
                                                                          S w →
                                                                            cellsAt w (Addr.mk w'.heap.size (0 : Nat) none)
                                                                              [Value.int IntKind.i64 x_11.fst,
                                                                                Value.int IntKind.i64 x_11.snd.fst,
                                                                                Value.int IntKind.i64 x_11.snd.snd.fst,
                                                                                Value.int IntKind.i64 x_11.snd.snd.snd.fst,
                                                                                Value.int IntKind.i64
                                                                                  x_11.snd.snd.snd.snd.fst,
                                                                                Value.int IntKind.i64
                                                                                  x_11.snd.snd.snd.snd.snd.fst,
                                                                                Value.int IntKind.i64
                                                                                  x_11.snd.snd.snd.snd.snd.snd.fst,
                                                                                Value.int IntKind.i64
                                                                                  x_11.snd.snd.snd.snd.snd.snd.snd.fst,
                                                                                Value.int IntKind.i64
                                                                                  x_11.snd.snd.snd.snd.snd.snd.snd.snd]) ∧
                                                                        ∃ (x_12 :
                                                                          Int ×
                                                                            Int × Int × Int × Int × Int × Int × Int × Int),
                                                                          (∀ (w : World),
                                                                              S w →
                                                                                cellsAt w
                                                                                  (Addr.mk w'_1.heap.size (0 : Nat) none)
                                                                                  [Value.int IntKind.i64 x_12.fst,
                                                                                    Value.int IntKind.i64 x_12.snd.fst,
                                                                                    Value.int IntKind.i64 x_12.snd.snd.fst,
                                                                                    Value.int IntKind.i64
                                                                                      x_12.snd.snd.snd.fst,
                                                                                    Value.int IntKind.i64
                                                                                      x_12.snd.snd.snd.snd.fst,
                                                                                    Value.int IntKind.i64
                                                                                      x_12.snd.snd.snd.snd.snd.fst,
                                                                                    Value.int IntKind.i64
                                                                                      x_12.snd.snd.snd.snd.snd.snd.fst,
                                                                                    Value.int IntKind.i64
                                                                                      x_12.snd.snd.snd.snd.snd.snd.snd.fst,
                                                                                    Value.int IntKind.i64
                                                                                      x_12.snd.snd.snd.snd.snd.snd.snd.snd]) ∧
                                                                            CallT [Ty.one (Sh.int IntKind.i64)] Try.prog
                                                                              (56 : Nat)
                                                                              [Value.agg
                                                                                  #[Value.int IntKind.i64 x_11.fst,
                                                                                    Value.int IntKind.i64 x_11.snd.fst,
                                                                                    Value.int IntKind.i64 x_11.snd.snd.fst,
                                                                                    Value.int IntKind.i64
                                                                                      x_11.snd.snd.snd.fst,
                                                                                    Value.int IntKind.i64
                                                                                      x_11.snd.snd.snd.snd.fst,
                                                                                    Value.int IntKind.i64
                                                                                      x_11.snd.snd.snd.snd.snd.fst,
                                                                                    Value.int IntKind.i64
                                                                                      x_11.snd.snd.snd.snd.snd.snd.fst,
                                                                                    Value.int IntKind.i64
                                                                                      x_11.snd.snd.snd.snd.snd.snd.snd.fst,
                                                                                    Value.int IntKind.i64
                                                                                      x_11.snd.snd.snd.snd.snd.snd.snd.snd],
                                                                                Value.int IntKind.i64 n1]
                                                                              w'_8 fun (x_13 : Int) (w'_9 : World) =>
                                                                              S w'_9 ∧
                                                                                CallT [Ty.one (Sh.int IntKind.i64)] Try.prog
                                                                                  (57 : Nat)
                                                                                  [Value.agg
                                                                                      #[Value.int IntKind.i64 x_12.fst,
                                                                                        Value.int IntKind.i64 x_12.snd.fst,
                                                                                        Value.int IntKind.i64
                                                                                          x_12.snd.snd.fst,
                                                                                        Value.int IntKind.i64
                                                                                          x_12.snd.snd.snd.fst,
                                                                                        Value.int IntKind.i64
                                                                                          x_12.snd.snd.snd.snd.fst,
                                                                                        Value.int IntKind.i64
                                                                                          x_12.snd.snd.snd.snd.snd.fst,
                                                                                        Value.int IntKind.i64
                                                                                          x_12.snd.snd.snd.snd.snd.snd.fst,
                                                                                        Value.int IntKind.i64
                                                                                          x_12.snd.snd.snd.snd.snd.snd.snd.fst,
                                                                                        Value.int IntKind.i64
                                                                                          x_12.snd.snd.snd.snd.snd.snd.snd.snd],
                                                                                    Value.int IntKind.i64 n1]
                                                                                  w'_9 fun (x_14 : Int) (w'_10 : World) =>
                                                                                  S w'_10 ∧
                                                                                    cnd (x_13 == x_14)
                                                                                      (∃ (x_15 :
                                                                                        Int ×
                                                                                          Int ×
                                                                                            Int ×
                                                                                              Int ×
                                                                                                Int ×
                                                                                                  Int × Int × Int × Int),
                                                                                        (∀ (w : World),
                                                                                            S w →
                                                                                              cellsAt w
                                                                                                (Addr.mk w'.heap.size
                                                                                                  (0 : Nat) none)
                                                                                                [Value.int IntKind.i64
                                                                                                    x_15.fst,
                                                                                                  Value.int IntKind.i64
                                                                                                    x_15.snd.fst,
                                                                                                  Value.int IntKind.i64
                                                                                                    x_15.snd.snd.fst,
                                                                                                  Value.int IntKind.i64
                                                                                                    x_15.snd.snd.snd.fst,
                                                                                                  Value.int IntKind.i64
                                                                                                    x_15.snd.snd.snd.snd.fst,
                                                                                                  Value.int IntKind.i64
                                                                                                    x_15.snd.snd.snd.snd.snd.fst,
                                                                                                  Value.int IntKind.i64
                                                                                                    x_15.snd.snd.snd.snd.snd.snd.fst,
                                                                                                  Value.int IntKind.i64
                                                                                                    x_15.snd.snd.snd.snd.snd.snd.snd.fst,
                                                                                                  Value.int IntKind.i64
                                                                                                    x_15.snd.snd.snd.snd.snd.snd.snd.snd]) ∧
                                                                                          ∃ (x_16 :
                                                                                            Int ×
                                                                                              Int ×
                                                                                                Int ×
                                                                                                  Int ×
                                                                                                    Int ×
                                                                                                      Int ×
                                                                                                        Int × Int × Int),
                                                                                            (∀ (w : World),
                                                                                                S w →
                                                                                                  cellsAt w
                                                                                                    (Addr.mk w'_1.heap.size
                                                                                                      (0 : Nat) none)
                                                                                                    [Value.int IntKind.i64
                                                                                                        x_16.fst,
                                                                                                      Value.int IntKind.i64
                                                                                                        x_16.snd.fst,
                                                                                                      Value.int IntKind.i64
                                                                                                        x_16.snd.snd.fst,
                                                                                                      Value.int IntKind.i64
                                                                                                        x_16.snd.snd.snd.fst,
                                                                                                      Value.int IntKind.i64
                                                                                                        x_16.snd.snd.snd.snd.fst,
                                                                                                      Value.int IntKind.i64
                                                                                                        x_16.snd.snd.snd.snd.snd.fst,
                                                                                                      Value.int IntKind.i64
                                                                                                        x_16.snd.snd.snd.snd.snd.snd.fst,
                                                                                                      Value.int IntKind.i64
                                                                                                        x_16.snd.snd.snd.snd.snd.snd.snd.fst,
                                                                                                      Value.int IntKind.i64
                                                                                                        x_16.snd.snd.snd.snd.snd.snd.snd.snd]) ∧
                                                                                              CallT
                                                                                                [Ty.one
                                                                                                    (Sh.int IntKind.i64)]
                                                                                                Try.prog (46 : Nat)
                                                                                                [Value.agg
                                                                                                    #[Value.int IntKind.i64
                                                                                                        x_15.fst,
                                                                                                      Value.int IntKind.i64
                                                                                                        x_15.snd.fst,
                                                                                                      Value.int IntKind.i64
                                                                                                        x_15.snd.snd.fst,
                                                                                                      Value.int IntKind.i64
                                                                                                        x_15.snd.snd.snd.fst,
                                                                                                      Value.int IntKind.i64
                                                                                                        x_15.snd.snd.snd.snd.fst,
                                                                                                      Value.int IntKind.i64
                                                                                                        x_15.snd.snd.snd.snd.snd.fst,
                                                                                                      Value.int IntKind.i64
                                                                                                        x_15.snd.snd.snd.snd.snd.snd.fst,
                                                                                                      Value.int IntKind.i64
                                                                                                        x_15.snd.snd.snd.snd.snd.snd.snd.fst,
                                                                                                      Value.int IntKind.i64
                                                                                                        x_15.snd.snd.snd.snd.snd.snd.snd.snd]]
                                                                                                w'_10
                                                                                                fun (x_17 : Int)
                                                                                                  (w'_11 : World) =>
                                                                                                S w'_11 ∧
                                                                                                  CallT
                                                                                                    [Ty.one
                                                                                                        (Sh.int
                                                                                                          IntKind.i64)]
                                                                                                    Try.prog (58 : Nat)
                                                                                                    [Value.agg
                                                                                                        #[Value.int
                                                                                                            IntKind.i64
                                                                                                            x_16.fst,
                                                                                                          Value.int
                                                                                                            IntKind.i64
                                                                                                            x_16.snd.fst,
                                                                                                          Value.int
                                                                                                            IntKind.i64
                                                                                                            x_16.snd.snd.fst,
                                                                                                          Value.int
                                                                                                            IntKind.i64
                                                                                                            x_16.snd.snd.snd.fst,
                                                                                                          Value.int
                                                                                                            IntKind.i64
                                                                                                            x_16.snd.snd.snd.snd.fst,
                                                                                                          Value.int
                                                                                                            IntKind.i64
                                                                                                            x_16.snd.snd.snd.snd.snd.fst,
                                                                                                          Value.int
                                                                                                            IntKind.i64
                                                                                                            x_16.snd.snd.snd.snd.snd.snd.fst,
                                                                                                          Value.int
                                                                                                            IntKind.i64
                                                                                                            x_16.snd.snd.snd.snd.snd.snd.snd.fst,
                                                                                                          Value.int
                                                                                                            IntKind.i64
                                                                                                            x_16.snd.snd.snd.snd.snd.snd.snd.snd]]
                                                                                                    w'_11
                                                                                                    fun (x_18 : Int)
                                                                                                      (w'_12 : World) =>
                                                                                                    S w'_12 ∧
                                                                                                      cnd (x_17 == x_18)
                                                                                                        (cnd
                                                                                                          (x.fst == x_2.fst)
                                                                                                          (cnd
                                                                                                            (x.snd ==
                                                                                                              x_2.snd)
                                                                                                            (cnd
                                                                                                              (x_4.fst ==
                                                                                                                x_6.fst)
                                                                                                              (cnd
                                                                                                                (x_4.snd ==
                                                                                                                  x_6.snd)
                                                                                                                (∃ (x :
                                                                                                                  Int ×
                                                                                                                    Int ×
                                                                                                                      Int ×
                                                                                                                        Int ×
                                                                                                                          Int ×
                                                                                                                            Int ×
                                                                                                                              Int ×
                                                                                                                                Int ×
                                                                                                                                  Int),
                                                                                                                  (∀
                                                                                                                      (w :
                                                                                                                        World),
                                                                                                                      S w →
                                                                                                                        cellsAt
                                                                                                                          w
                                                                                                                          (Addr.mk
                                                                                                                            w'.heap.size
                                                                                                                            (0 :
                                                                                                                              Nat)
                                                                                                                            none)
                                                                                                                          [Value.int
                                                                                                                              IntKind.i64
                                                                                                                              x.fst,
                                                                                                                            Value.int
                                                                                                                              IntKind.i64
                                                                                                                              x.snd.fst,
                                                                                                                            Value.int
                                                                                                                              IntKind.i64
                                                                                                                              x.snd.snd.fst,
                                                                                                                            Value.int
                                                                                                                              IntKind.i64
                                                                                                                              x.snd.snd.snd.fst,
                                                                                                                            Value.int
                                                                                                                              IntKind.i64
                                                                                                                              x.snd.snd.snd.snd.fst,
                                                                                                                            Value.int
                                                                                                                              IntKind.i64
                                                                                                                              x.snd.snd.snd.snd.snd.fst,
                                                                                                                            Value.int
                                                                                                                              IntKind.i64
                                                                                                                              x.snd.snd.snd.snd.snd.snd.fst,
                                                                                                                            Value.int
                                                                                                                              IntKind.i64
                                                                                                                              x.snd.snd.snd.snd.snd.snd.snd.fst,
                                                                                                                            Value.int
                                                                                                                              IntKind.i64
                                                                                                                              x.snd.snd.snd.snd.snd.snd.snd.snd]) ∧
                                                                                                                    ∃ (x_19
                                                                                                                      :
                                                                                                                      Int ×
                                                                                                                        Int ×
                                                                                                                          Int ×
                                                                                                                            Int ×
                                                                                                                              Int ×
                                                                                                                                Int ×
                                                                                                                                  Int ×
                                                                                                                                    Int ×
                                                                                                                                      Int),
                                                                                                                      (∀
                                                                                                                          (w :
                                                                                                                            World),
                                                                                                                          S
                                                                                                                              w →
                                                                                                                            cellsAt
                                                                                                                              w
                                                                                                                              (Addr.mk
                                                                                                                                w'_1.heap.size
                                                                                                                                (0 :
                                                                                                                                  Nat)
                                                                                                                                none)
                                                                                                                              [Value.int
                                                                                                                                  IntKind.i64
                                                                                                                                  x_19.fst,
                                                                                                                                Value.int
                                                                                                                                  IntKind.i64
                                                                                                                                  x_19.snd.fst,
                                                                                                                                Value.int
                                                                                                                                  IntKind.i64
                                                                                                                                  x_19.snd.snd.fst,
                                                                                                                                Value.int
                                                                                                                                  IntKind.i64
                                                                                                                                  x_19.snd.snd.snd.fst,
                                                                                                                                Value.int
                                                                                                                                  IntKind.i64
                                                                                                                                  x_19.snd.snd.snd.snd.fst,
                                                                                                                                Value.int
                                                                                                                                  IntKind.i64
                                                                                                                                  x_19.snd.snd.snd.snd.snd.fst,
                                                                                                                                Value.int
                                                                                                                                  IntKind.i64
                                                                                                                                  x_19.snd.snd.snd.snd.snd.snd.fst,
                                                                                                                                Value.int
                                                                                                                                  IntKind.i64
                                                                                                                                  x_19.snd.snd.snd.snd.snd.snd.snd.fst,
                                                                                                                                Value.int
                                                                                                                                  IntKind.i64
                                                                                                                                  x_19.snd.snd.snd.snd.snd.snd.snd.snd]) ∧
                                                                                                                        CallT
                                                                                                                          [Ty.one
                                                                                                                              (Sh.int
                                                                                                                                IntKind.i64)]
                                                                                                                          Try.prog
                                                                                                                          (37 :
                                                                                                                            Nat)
                                                                                                                          [Value.agg
                                                                                                                              #[Value.int
                                                                                                                                  IntKind.i64
                                                                                                                                  x.fst,
                                                                                                                                Value.int
                                                                                                                                  IntKind.i64
                                                                                                                                  x.snd.fst,
                                                                                                                                Value.int
                                                                                                                                  IntKind.i64
                                                                                                                                  x.snd.snd.fst,
                                                                                                                                Value.int
                                                                                                                                  IntKind.i64
                                                                                                                                  x.snd.snd.snd.fst,
                                                                                                                                Value.int
                                                                                                                                  IntKind.i64
                                                                                                                                  x.snd.snd.snd.snd.fst,
                                                                                                                                Value.int
                                                                                                                                  IntKind.i64
                                                                                                                                  x.snd.snd.snd.snd.snd.fst,
                                                                                                                                Value.int
                                                                                                                                  IntKind.i64
                                                                                                                                  x.snd.snd.snd.snd.snd.snd.fst,
                                                                                                                                Value.int
                                                                                                                                  IntKind.i64
                                                                                                                                  x.snd.snd.snd.snd.snd.snd.snd.fst,
                                                                                                                                Value.int
                                                                                                                                  IntKind.i64
                                                                                                                                  x.snd.snd.snd.snd.snd.snd.snd.snd],
                                                                                                                            Value.int
                                                                                                                              IntKind.u64
                                                                                                                              n2]
                                                                                                                          w'_12
                                                                                                                          fun
                                                                                                                            (x :
                                                                                                                              Int)
                                                                                                                            (w' :
                                                                                                                              World) =>
                                                                                                                          S
                                                                                                                              w' ∧
                                                                                                                            CallT
                                                                                                                              [Ty.one
                                                                                                                                  (Sh.int
                                                                                                                                    IntKind.i64)]
                                                                                                                              Try.prog
                                                                                                                              (59 :
                                                                                                                                Nat)
                                                                                                                              [Value.agg
                                                                                                                                  #[Value.int
                                                                                                                                      IntKind.i64
                                                                                                                                      x_19.fst,
                                                                                                                                    Value.int
                                                                                                                                      IntKind.i64
                                                                                                                                      x_19.snd.fst,
                                                                                                                                    Value.int
                                                                                                                                      IntKind.i64
                                                                                                                                      x_19.snd.snd.fst,
                                                                                                                                    Value.int
                                                                                                                                      IntKind.i64
                                                                                                                                      x_19.snd.snd.snd.fst,
                                                                                                                                    Value.int
                                                                                                                                      IntKind.i64
                                                                                                                                      x_19.snd.snd.snd.snd.fst,
                                                                                                                                    Value.int
                                                                                                                                      IntKind.i64
                                                                                                                                      x_19.snd.snd.snd.snd.snd.fst,
                                                                                                                                    Value.int
                                                                                                                                      IntKind.i64
                                                                                                                                      x_19.snd.snd.snd.snd.snd.snd.fst,
                                                                                                                                    Value.int
                                                                                                                                      IntKind.i64
                                                                                                                                      x_19.snd.snd.snd.snd.snd.snd.snd.fst,
                                                                                                                                    Value.int
                                                                                                                                      IntKind.i64
                                                                                                                                      x_19.snd.snd.snd.snd.snd.snd.snd.snd],
                                                                                                                                Value.int
                                                                                                                                  IntKind.u64
                                                                                                                                  n2]
                                                                                                                              w'
                                                                                                                              fun
                                                                                                                                (x_20 :
                                                                                                                                  Int)
                                                                                                                                (w' :
                                                                                                                                  World) =>
                                                                                                                              S
                                                                                                                                  w' ∧
                                                                                                                                R
                                                                                                                                  (x ==
                                                                                                                                    x_20)
                                                                                                                                  w')
                                                                                                                (S w'_12 ∧
                                                                                                                  S w'_12 ∧
                                                                                                                    R false
                                                                                                                      w'_12))
                                                                                                              (S w'_12 ∧
                                                                                                                S w'_12 ∧
                                                                                                                  R false
                                                                                                                    w'_12))
                                                                                                            (S w'_12 ∧
                                                                                                              S w'_12 ∧
                                                                                                                R false
                                                                                                                  w'_12))
                                                                                                          (S w'_12 ∧
                                                                                                            S w'_12 ∧
                                                                                                              R false
                                                                                                                w'_12))
                                                                                                        (S w'_12 ∧
                                                                                                          S w'_12 ∧
                                                                                                            R false w'_12))
                                                                                      (S w'_10 ∧
                                                                                        S w'_10 ∧
                                                                                          S w'_10 ∧
                                                                                            S w'_10 ∧ R false w'_10))
                                                                    (S w'_8 ∧
                                                                      S w'_8 ∧
                                                                        S w'_8 ∧ S w'_8 ∧ S w'_8 ∧ S w'_8 ∧ R false w'_8)))
  : CallT [Ty.one Sh.bool] Try.prog 19 [Value.int IntKind.i64 n0, Value.int IntKind.i64 n1, Value.int IntKind.u64 n2] w R :=
  fnV_sound (h := HT.z.sq
  (HT.z.sq
    (HT.z.sq
      (HT.jn [] HT.z
        (HT.z.sq
          (HT.z.sq
            (HT.z.sq
              (HT.z.sq
                (HT.z.sq
                  ((HT.dr
                        (DT.take (0 : Nat)
                          (DT.take (1 : Nat)
                            (DT.take (3 : Nat)
                              (DT.take (4 : Nat)
                                (DT.alt (2 : Nat)
                                  (DT.alt (5 : Nat)
                                    (DT.take (6 : Nat)
                                      (DT.take (7 : Nat)
                                        (DT.take (8 : Nat)
                                          (DT.take (9 : Nat)
                                            (DT.take (11 : Nat)
                                              (DT.take (12 : Nat)
                                                (DT.alt (10 : Nat)
                                                  (DT.alt (13 : Nat)
                                                    (DT.take (14 : Nat)
                                                      (DT.take (15 : Nat)
                                                        (DT.take (16 : Nat)
                                                          (DT.take (17 : Nat)
                                                            (DT.take (19 : Nat)
                                                              (DT.alt (18 : Nat)
                                                                (DT.alt (20 : Nat)
                                                                  (DT.take (21 : Nat)
                                                                    (DT.take (22 : Nat)
                                                                      (DT.take (23 : Nat)
                                                                        (DT.take (24 : Nat)
                                                                          (DT.take (25 : Nat)
                                                                            (DT.take (26 : Nat)
                                                                              (DT.take (27 : Nat)
                                                                                (DT.take (28 : Nat)
                                                                                  (DT.take (29 : Nat)
                                                                                    (DT.take (30 : Nat)
                                                                                      (DT.take (31 : Nat)
                                                                                        (DT.take (32 : Nat)
                                                                                          (DT.take (33 : Nat)
                                                                                            (DT.take (34 : Nat)
                                                                                              (DT.take (35 : Nat)
                                                                                                (DT.take (36 : Nat)
                                                                                                  (DT.take (37 : Nat)
                                                                                                    (DT.take (38 : Nat)
                                                                                                      (DT.take
                                                                                                        (39 : Nat)
                                                                                                        (DT.take
                                                                                                          (40 : Nat)
                                                                                                          (DT.take
                                                                                                            (41 : Nat)
                                                                                                            (DT.take
                                                                                                              (42 : Nat)
                                                                                                              (DT.take
                                                                                                                (43 :
                                                                                                                  Nat)
                                                                                                                (DT.take
                                                                                                                  (44 :
                                                                                                                    Nat)
                                                                                                                  (DT.take
                                                                                                                    (45 :
                                                                                                                      Nat)
                                                                                                                    (DT.take
                                                                                                                      (47 :
                                                                                                                        Nat)
                                                                                                                      (DT.take
                                                                                                                        (48 :
                                                                                                                          Nat)
                                                                                                                        (DT.alt
                                                                                                                          (46 :
                                                                                                                            Nat)
                                                                                                                          (DT.alt
                                                                                                                            (49 :
                                                                                                                              Nat)
                                                                                                                            (DT.take
                                                                                                                              (50 :
                                                                                                                                Nat)
                                                                                                                              (DT.take
                                                                                                                                (51 :
                                                                                                                                  Nat)
                                                                                                                                (DT.take
                                                                                                                                  (52 :
                                                                                                                                    Nat)
                                                                                                                                  DT.fin)))
                                                                                                                            DT.fin)
                                                                                                                          DT.fin))))))))))))))))))))))))))))
                                                                  DT.fin)
                                                                DT.fin))))))
                                                    DT.fin)
                                                  DT.fin)))))))
                                    DT.fin)
                                  DT.fin)))))).sq
                    HT.z)))))))))) Try.func19 (by kernel_rfl) (by kernel_rfl) (Eq.mp (by kernel_rfl) h)

/-- dunnage/dunnagelaw01.WordTexts -/
theorem dunnagelaw01_WordTexts.vc (s0 : SV) (s1 : SV) (n2 : Int) (n3 : Int) (w : World) (R : Bool → World → Prop)
  (h : CallT [Ty.one Sh.slice] Try.prog (25 : Nat) [Value.slice s1.a s1.len s1.cap, Value.int IntKind.u8 (71 : Int)] w
      fun (x : SV) (w' : World) =>
      CallT [Ty.one Sh.slice] Try.prog (25 : Nat) [Value.slice s0.a s0.len s0.cap, Value.int IntKind.u8 (71 : Int)] w'
        fun (x_1 : SV) (w' : World) =>
        CallT [Ty.one Sh.slice] Try.prog (60 : Nat) [Value.slice x_1.a x_1.len x_1.cap] w' fun (x_2 : SV) (w' : World) =>
          CallT [Ty.one Sh.slice, Ty.one (Sh.int IntKind.i64), Ty.one (Sh.int IntKind.i64)] Try.prog (61 : Nat)
            [Value.slice x.a x.len x.cap, Value.int IntKind.i64 n2, Value.int IntKind.i64 n3] w'
            fun (x_3 : SV × Int × Int) (w' : World) =>
            CallT [Ty.one Sh.slice, Ty.one (Sh.int IntKind.i64), Ty.one (Sh.int IntKind.i64)] Try.prog (62 : Nat)
              [Value.slice s1.a s1.len s1.cap, Value.int IntKind.i64 n2, Value.int IntKind.i64 n3] w'
              fun (x_4 : SV × Int × Int) (w' : World) =>
              ∃ (R_1 : PUnit → World → Prop),
                (CallT [Ty.one Sh.bool] Try.prog (23 : Nat) [] w' fun (x_5 : Bool) (w' : World) =>
                    cnd (!x_5) (R false w')
                      (CallT [Ty.one Sh.slice] Try.prog (63 : Nat) [Value.slice s0.a s0.len s0.cap] w'
                        fun (x_6 : SV) (w' : World) =>
                        CallT [Ty.one Sh.bool] Try.prog (24 : Nat)
                          [Value.slice x_2.a x_2.len x_2.cap, Value.slice x_6.a x_6.len x_6.cap] w'
                          fun (x_7 : Bool) (w' : World) =>
                          cnd (!x_7) (R false w')
                            (CallT [Ty.one Sh.bool] Try.prog (24 : Nat)
                              [Value.slice x_3.fst.a x_3.fst.len x_3.fst.cap, Value.slice x_4.fst.a x_4.fst.len x_4.fst.cap]
                              w' fun (x_8 : Bool) (w' : World) =>
                              cnd (!x_8) (R false w')
                                (cnd (x_3.snd.fst != x_4.snd.fst) (R false w')
                                  (cnd (x_3.snd.snd != x_4.snd.snd) (R false w')
                                    (CallT [Ty.one Sh.bool] Try.prog (64 : Nat) [Value.slice x.a x.len x.cap] w'
                                      fun (x : Bool) (w' : World) =>
                                      CallT [Ty.one Sh.bool] Try.prog (65 : Nat) [Value.slice s1.a s1.len s1.cap] w'
                                        fun (x_9 : Bool) (w' : World) => cnd (!x == x_9) (R false w') (R_1 () w'))))))) ∧
                  ∀ (x_5 : PUnit) (j : Nat → Value) (w' : World),
                    R_1 x_5 w' →
                      CallT [] Try.prog (51 : Nat) [Value.slice x_3.fst.a x_3.fst.len x_3.fst.cap] w'
                        fun (x_6 : PUnit) (w' : World) =>
                        CallT [] Try.prog (51 : Nat) [Value.slice x_2.a x_2.len x_2.cap] w'
                          fun (x_7 : PUnit) (w' : World) =>
                          CallT [Ty.one Sh.bool] Try.prog (31 : Nat)
                            [Value.slice x.a x.len x.cap, Value.slice s1.a s1.len s1.cap, Value.int IntKind.u8 (71 : Int)]
                            w' fun (x : Bool) (w' : World) =>
                            cnd x
                              (CallT [Ty.one Sh.bool] Try.prog (31 : Nat)
                                [Value.slice x_1.a x_1.len x_1.cap, Value.slice s0.a s0.len s0.cap,
                                  Value.int IntKind.u8 (71 : Int)]
                                w' fun (x : Bool) (w' : World) => R x w')
                              (R false w'))
  : CallT [Ty.one Sh.bool] Try.prog 20 [Value.slice s0.a s0.len s0.cap, Value.slice s1.a s1.len s1.cap, Value.int IntKind.i64 n2, Value.int IntKind.i64 n3] w R :=
  fnV_sound (h := HT.z.sq (HT.z.sq (HT.z.sq (HT.z.sq (HT.z.sq (HT.jn [] HT.z HT.z)))))) Try.func20 (by kernel_rfl) (by kernel_rfl) (Eq.mp (by kernel_rfl) h)

/-- dunnage/dunnagelaw01.WordRows -/
theorem dunnagelaw01_WordRows.vc (s0 : SV) (n1 : Int) (w : World) (R : Bool → World → Prop)
  (h : ∃ (I : Nat → SV × Int → World → Prop),
      (∃ (n : Nat), I n (SV.mk none (0 : Nat) (0 : Nat), (0 : Int)) w) ∧
        ∀ (n : Nat) (x : SV × Int) (j : Nat → Value) (w' : World),
          I n x w' →
            let e1 := x.snd;
            cnd (decide (e1 < (↑s0.len : Int)))
              (let e1 := x.snd;
              (0 : Int) ≤ e1 ∧
                e1 < (↑s0.len : Int) ∧
                  onP s0.a fun (A : Addr) =>
                    ∃ (x_1 : SV),
                      w'.cell? (A.add (e1.toNat * (1 : Nat))) = some (Value.slice x_1.a x_1.len x_1.cap) ∧
                        CallT [Ty.one Sh.slice] Try.prog (60 : Nat) [Value.slice x_1.a x_1.len x_1.cap] w'
                          fun (x_2 : SV) (w' : World) =>
                          appV Try.prog [(23 : Nat), (23 : Nat)] (23 : Nat)
                            [Value.slice x.fst.a x.fst.len x.fst.cap, Value.slice x_2.a x_2.len x_2.cap] w'
                            fun (s : SV) (w' : World) =>
                            ∃ (m : Nat), m < n ∧ I m (s, IntKind.i64.wrap (x.snd + (1 : Int))) w')
              (CallT [Ty.one Sh.bool] Try.prog (23 : Nat) [] w' fun (x_1 : Bool) (w' : World) =>
                cnd (!x_1) (R false w')
                  (∃ (I : Nat → Int × Int → World → Prop),
                    (∃ (n : Nat), I n ((0 : Int), (0 : Int)) w') ∧
                      ∀ (n : Nat) (x_2 : Int × Int) (j : Nat → Value) (w' : World),
                        I n x_2 w' →
                          let e1 := x_2.snd;
                          cnd (decide (e1 < (↑s0.len : Int)))
                            (CallT [Ty.one Sh.slice, Ty.one (Sh.int IntKind.i64), Ty.one (Sh.int IntKind.i64)] Try.prog
                              (61 : Nat)
                              [Value.slice x.fst.a x.fst.len x.fst.cap, Value.int IntKind.i64 x_2.fst,
                                Value.int IntKind.i64 (↑x.fst.len : Int)]
                              w' fun (x : SV × Int × Int) (w' : World) =>
                              let e1 := x.snd.fst;
                              cnd (x.snd.snd != (0 : Int)) (R false w')
                                (let e1_1 := x_2.fst;
                                cnd (decide (e1 ≤ e1_1)) (R false w')
                                  (let e1_2 := x_2.snd;
                                  (0 : Int) ≤ e1_2 ∧
                                    e1_2 < (↑s0.len : Int) ∧
                                      onP s0.a fun (A : Addr) =>
                                        ∃ (x_3 : SV),
                                          w'.cell? (A.add (e1_2.toNat * (1 : Nat))) =
                                              some (Value.slice x_3.a x_3.len x_3.cap) ∧
                                            CallT [Ty.one Sh.bool] Try.prog (24 : Nat)
                                              [Value.slice x.fst.a x.fst.len x.fst.cap, Value.slice x_3.a x_3.len x_3.cap]
                                              w' fun (x : Bool) (w' : World) =>
                                              cnd (!x) (R false w')
                                                (∃ (m : Nat),
                                                  m < n ∧ I m (e1, IntKind.i64.wrap (x_2.snd + (1 : Int))) w'))))
                            (∃ (R_1 : PUnit → World → Prop),
                              cnd (x_2.fst != (↑x.fst.len : Int)) (R (x_2.fst == (↑x.fst.len : Int)) w')
                                  (cnd ((↑s0.len : Int) == (0 : Int)) (R (x_2.fst == (↑x.fst.len : Int)) w') (R_1 () w')) ∧
                                ∀ (x_3 : PUnit) (j : Nat → Value) (w' : World),
                                  R_1 x_3 w' →
                                    (0 : Int) ≤ IntKind.i64.wrap ((↑s0.len : Int) - (1 : Int)) ∧
                                      IntKind.i64.wrap ((↑s0.len : Int) - (1 : Int)) < (↑s0.len : Int) ∧
                                        onP s0.a fun (A : Addr) =>
                                          ∃ (x_4 : SV),
                                            w'.cell?
                                                  (A.add
                                                    ((IntKind.i64.wrap ((↑s0.len : Int) - (1 : Int))).toNat * (1 : Nat))) =
                                                some (Value.slice x_4.a x_4.len x_4.cap) ∧
                                              CallT [Ty.one Sh.slice] Try.prog (60 : Nat)
                                                [Value.slice x_4.a x_4.len x_4.cap] w' fun (x_5 : SV) (w' : World) =>
                                                IntKind.u64.wrap (↑x_5.len : Int) ≠ (0 : Int) ∧
                                                  let e1 :=
                                                    IntKind.i64.wrap
                                                      (IntKind.i64.wrap ((↑x.fst.len : Int) - (1 : Int)) -
                                                        IntKind.i64.wrap
                                                          ((IntKind.u64.wrap n1).tmod (IntKind.u64.wrap (↑x_5.len : Int))));
                                                  (0 : Int) ≤ e1 ∧
                                                    e1 ≤ (↑x.fst.cap : Int) ∧
                                                      CallT
                                                        [Ty.one Sh.slice, Ty.one (Sh.int IntKind.i64),
                                                          Ty.one (Sh.int IntKind.i64)]
                                                        Try.prog (61 : Nat)
                                                        [Value.slice (subA x.fst.a (0 : Nat) (1 : Nat) x.fst.cap)
                                                            (e1.toNat - (0 : Nat)) (x.fst.cap - (0 : Nat)),
                                                          Value.int IntKind.i64
                                                            (IntKind.i64.wrap ((↑x.fst.len : Int) - (↑x_5.len : Int))),
                                                          Value.int IntKind.i64 (↑x.fst.len : Int)]
                                                        w' fun (x : SV × Int × Int) (w' : World) =>
                                                        R (x.snd.snd == (10 : Int)) w'))))
  : CallT [Ty.one Sh.bool] Try.prog 21 [Value.slice s0.a s0.len s0.cap, Value.int IntKind.i64 n1] w R :=
  fnV_sound (h := HT.z.sq
  (HT.z.sq
    ((HT.z.sq (HT.lp [((5 : Nat), Ty.one Sh.slice), ((6 : Nat), Ty.one (Sh.int IntKind.i64))] HT.z).bl).sq
      (HT.z.sq
        (HT.z.sq
          ((HT.z.sq
                (HT.lp [((7 : Nat), Ty.one (Sh.int IntKind.i64)), ((8 : Nat), Ty.one (Sh.int IntKind.i64))] HT.z).bl).sq
            (HT.jn [] HT.z HT.z))))))) Try.func21 (by kernel_rfl) (by kernel_rfl) (Eq.mp (by kernel_rfl) h)

/-- dunnage/word.Var -/
theorem word_Var.vc (n0 : Int) (w : World) (R : SV → World → Prop)
  (h : ∃ (I : Nat → Int × SV → World → Prop),
      (∃ (n : Nat), I n (n0, SV.mk none (0 : Nat) (0 : Nat)) w) ∧
        ∀ (n : Nat) (x : Int × SV) (j : Nat → Value) (w' : World),
          I n x w' →
            let e1 := x.fst;
            cnd (decide (e1 ≥ (128 : Int)))
              (appV Try.prog [(23 : Nat), (23 : Nat)] (23 : Nat)
                [Value.slice x.snd.a x.snd.len x.snd.cap,
                  Value.slice (some (Addr.mk w'.heap.size (0 : Nat) none)) (1 : Nat) (1 : Nat)]
                (w'.alloc
                  (Obj.cells #[Value.int IntKind.u8 (bor IntKind.u8 (IntKind.u8.wrap x.fst) (128 : Int))] (5 : Nat)))
                fun (s : SV) (w' : World) => ∃ (m : Nat), m < n ∧ I m (shr IntKind.u64 x.fst (7 : Int), s) w')
              (appV Try.prog [(23 : Nat), (23 : Nat)] (23 : Nat)
                [Value.slice x.snd.a x.snd.len x.snd.cap,
                  Value.slice (some (Addr.mk w'.heap.size (0 : Nat) none)) (1 : Nat) (1 : Nat)]
                (w'.alloc (Obj.cells #[Value.int IntKind.u8 (IntKind.u8.wrap x.fst)] (5 : Nat)))
                fun (s : SV) (w' : World) => R s w'))
  : CallT [Ty.one Sh.slice] Try.prog 22 [Value.int IntKind.u64 n0] w R :=
  fnV_sound (h := HT.z.sq (HT.z.sq ((HT.lp [((0 : Nat), Ty.one (Sh.int IntKind.u64)), ((3 : Nat), Ty.one Sh.slice)] HT.z).bl.sq HT.z))) Try.func22 (by kernel_rfl) (by kernel_rfl) (Eq.mp (by kernel_rfl) h)

/-- dunnage/dunnagelaw01.awake -/
theorem dunnagelaw01_awake.vc (w : World) (R : Bool → World → Prop)
  (h : CallT [Ty.one Sh.slice] Try.prog (22 : Nat) [Value.int IntKind.u64 (300 : Int)] w fun (x : SV) (w' : World) =>
      cnd ((↑x.len : Int) == (2 : Int))
        ((0 : Int) ≤ (0 : Int) ∧
          (0 : Int) < (↑x.len : Int) ∧
            onP x.a fun (A : Addr) =>
              ∃ (x : Int),
                w'.cell? (A.add (Int.toNat (0 : Int) * (1 : Nat))) = some (Value.int IntKind.u8 x) ∧
                  cnd (x == (172 : Int))
                    (CallT [Ty.one Sh.bool] Try.prog (64 : Nat) [Value.slice none (0 : Nat) (0 : Nat)] w'
                      fun (x : Bool) (w' : World) =>
                      cnd x
                        (CallT [Ty.one Sh.bool] Try.prog (64 : Nat)
                          [Value.slice (some (Addr.mk w'.heap.size (0 : Nat) none)) (1 : Nat) (1 : Nat)]
                          (w'.alloc (Obj.cells #[Value.int IntKind.u8 (1 : Int)] (5 : Nat))) fun (x : Bool) (w' : World) =>
                          R (!x) w')
                        (R false w'))
                    (R false w'))
        (R false w'))
  : CallT [Ty.one Sh.bool] Try.prog 23 [] w R :=
  fnV_sound (h := HT.z) Try.func23 (by kernel_rfl) (by kernel_rfl) (Eq.mp (by kernel_rfl) h)

/-- dunnage/dunnagehelp.Bytes -/
theorem dunnagehelp_Bytes.vc (s0 : SV) (s1 : SV) (w : World) (R : Bool → World → Prop)
  (h : ∃ (bs : List UInt8),
      bs.length = s0.len ∧
        (∀ (A : Addr),
            s0.a = some A →
              ∀ (i : Nat),
                i < s0.len → w.cell? (A.add i) = some (Value.int IntKind.u8 (↑(bs.getD i (0 : UInt8)).toNat : Int))) ∧
          (s0.a = none → bs = []) ∧
            ∃ (bs_1 : List UInt8),
              bs_1.length = s1.len ∧
                (∀ (A : Addr),
                    s1.a = some A →
                      ∀ (i : Nat),
                        i < s1.len →
                          w.cell? (A.add i) = some (Value.int IntKind.u8 (↑(bs_1.getD i (0 : UInt8)).toNat : Int))) ∧
                  (s1.a = none → bs_1 = []) ∧ R ((ByteArray.mk bs.toArray).toList == (ByteArray.mk bs_1.toArray).toList) w)
  : CallT [Ty.one Sh.bool] Try.prog 24 [Value.slice s0.a s0.len s0.cap, Value.slice s1.a s1.len s1.cap] w R :=
  fnV_sound (h := HT.z) Try.func24 (by kernel_rfl) (by kernel_rfl) (Eq.mp (by kernel_rfl) h)

/-- dunnage/dunnagehelp.Own[byte] -/
theorem dunnagehelp_Own_byte.vc (s0 : SV) (n1 : Int) (w : World) (R : SV → World → Prop)
  (h : mkSV Try.prog (23 : Nat) (Value.int IntKind.i64 (0 : Int))
      (Value.int IntKind.i64 (IntKind.i64.wrap ((↑s0.len : Int) + (3 : Int)))) w fun (s : SV) (w' : World) =>
      appV Try.prog [(23 : Nat), (23 : Nat)] (23 : Nat) [Value.slice s.a s.len s.cap, Value.slice s0.a s0.len s0.cap] w'
        fun (s : SV) (w' : World) =>
        (0 : Int) ≤ IntKind.i64.wrap ((↑s0.len : Int) + (3 : Int)) ∧
          IntKind.i64.wrap ((↑s0.len : Int) + (3 : Int)) ≤ (↑s.cap : Int) ∧
            ∃ (I : Nat → Int → World → Prop),
              (∃ (n : Nat), I n (↑s0.len : Int) w') ∧
                ∀ (n : Nat) (x : Int) (j : Nat → Value) (w' : World),
                  I n x w' →
                    let e1 := (↑((IntKind.i64.wrap ((↑s0.len : Int) + (3 : Int))).toNat - (0 : Nat)) : Int);
                    cnd (decide (x < e1))
                      ((0 : Int) ≤ x ∧
                        x < (↑((IntKind.i64.wrap ((↑s0.len : Int) + (3 : Int))).toNat - (0 : Nat)) : Int) ∧
                          onP (subA s.a (0 : Nat) (1 : Nat) s.cap) fun (A : Addr) =>
                            (w'.cell? (A.add (x.toNat * (1 : Nat)))).isSome = true ∧
                              w'.frozen? (A.add (x.toNat * (1 : Nat))) = false ∧
                                ∃ (m : Nat),
                                  m < n ∧
                                    I m (IntKind.i64.wrap (x + (1 : Int)))
                                      (w'.setCell (A.add (x.toNat * (1 : Nat))) (Value.int IntKind.u8 n1)))
                      (R s w'))
  : CallT [Ty.one Sh.slice] Try.prog 25 [Value.slice s0.a s0.len s0.cap, Value.int IntKind.u8 n1] w R :=
  fnV_sound (h := HT.z.sq (HT.z.sq (HT.z.sq (HT.z.sq ((HT.z.sq (HT.lp [((7 : Nat), Ty.one (Sh.int IntKind.i64))] HT.z).bl).sq HT.z))))) Try.func25 (by kernel_rfl) (by kernel_rfl) (Eq.mp (by kernel_rfl) h)

/-- dunnage/dunnagelaw02.awake -/
theorem dunnagelaw02_awake.vc (w : World) (R : Bool → World → Prop)
  (h : b2bV Try.prog (23 : Nat) (Value.slice (some (Addr.mk w.heap.size (0 : Nat) none)) (9 : Nat) (9 : Nat))
      (w.alloc
        (Obj.cells
          #[Value.int IntKind.u8 (49 : Int), Value.int IntKind.u8 (50 : Int), Value.int IntKind.u8 (51 : Int),
            Value.int IntKind.u8 (52 : Int), Value.int IntKind.u8 (53 : Int), Value.int IntKind.u8 (54 : Int),
            Value.int IntKind.u8 (55 : Int), Value.int IntKind.u8 (56 : Int), Value.int IntKind.u8 (57 : Int)]
          (5 : Nat)))
      fun (s : SV) (w' : World) =>
      CallT [Ty.one (Sh.int IntKind.u32)] Try.prog (27 : Nat) [Value.slice s.a s.len s.cap] w' fun (x : Int) (w' : World) =>
        cnd (x == (3808858755 : Int))
          (CallT [Ty.one (Sh.int IntKind.u32)] Try.prog (27 : Nat) [Value.slice none (0 : Nat) (0 : Nat)] w'
            fun (x : Int) (w' : World) => R (x == (0 : Int)) w')
          (R false w'))
  : CallT [Ty.one Sh.bool] Try.prog 26 [] w R :=
  fnV_sound (h := HT.z) Try.func26 (by kernel_rfl) (by kernel_rfl) (Eq.mp (by kernel_rfl) h)

/-- dunnage/crc.Sum -/
theorem crc_Sum.vc (s0 : SV) (w : World) (R : Int → World → Prop)
  (h : CallT [Ty.one (Sh.int IntKind.u32)] Try.prog (29 : Nat)
      [Value.int IntKind.u32 (0 : Int), Value.slice s0.a s0.len s0.cap] w fun (x : Int) (w' : World) => R x w')
  : CallT [Ty.one (Sh.int IntKind.u32)] Try.prog 27 [Value.slice s0.a s0.len s0.cap] w R :=
  fnV_sound (h := HT.z) Try.func27 (by kernel_rfl) (by kernel_rfl) (Eq.mp (by kernel_rfl) h)

/-- dunnage/dunnageref02.Sum -/
theorem dunnageref02_Sum.vc (s0 : SV) (w : World) (R : Int → World → Prop)
  (h : CallT [Ty.one (Sh.int IntKind.u32)] Try.prog (30 : Nat)
      [Value.int IntKind.u32 (0 : Int), Value.slice s0.a s0.len s0.cap] w fun (x : Int) (w' : World) => R x w')
  : CallT [Ty.one (Sh.int IntKind.u32)] Try.prog 28 [Value.slice s0.a s0.len s0.cap] w R :=
  fnV_sound (h := HT.z) Try.func28 (by kernel_rfl) (by kernel_rfl) (Eq.mp (by kernel_rfl) h)

/-- dunnage/crc.More -/
theorem crc_More.vc (n0 : Int) (s1 : SV) (w : World) (R : Int → World → Prop)
  (h : ∃ (I : Nat → Int → World → Prop),
      (∃ (n : Nat),
          I n (0 : Int)
            (w.alloc
              (Obj.cells
                #[Value.int IntKind.u32 (0 : Int), Value.int IntKind.u32 (0 : Int), Value.int IntKind.u32 (0 : Int),
                  Value.int IntKind.u32 (0 : Int), Value.int IntKind.u32 (0 : Int), Value.int IntKind.u32 (0 : Int),
                  Value.int IntKind.u32 (0 : Int), Value.int IntKind.u32 (0 : Int), Value.int IntKind.u32 (0 : Int),
                  Value.int IntKind.u32 (0 : Int), Value.int IntKind.u32 (0 : Int), Value.int IntKind.u32 (0 : Int),
                  Value.int IntKind.u32 (0 : Int), Value.int IntKind.u32 (0 : Int), Value.int IntKind.u32 (0 : Int),
                  Value.int IntKind.u32 (0 : Int)]
                (77 : Nat)))) ∧
        ∀ (n : Nat) (x : Int) (j : Nat → Value) (w' : World),
          I n x w' →
            cnd (decide (x < (16 : Int)))
              (∃ (I_1 : Nat → Int × Int → World → Prop),
                (∃ (n : Nat), I_1 n (IntKind.u32.wrap x, (0 : Int)) w') ∧
                  ∀ (n_1 : Nat) (x_1 : Int × Int) (j : Nat → Value) (w' : World),
                    I_1 n_1 x_1 w' →
                      cnd (decide (x_1.snd < (4 : Int)))
                        (CallT [Ty.one (Sh.int IntKind.u32)] Try.prog (66 : Nat) [Value.int IntKind.u32 x_1.fst] w'
                          fun (x : Int) (w' : World) =>
                          ∃ (m : Nat), m < n_1 ∧ I_1 m (x, IntKind.i64.wrap (x_1.snd + (1 : Int))) w')
                        ((0 : Int) ≤ x ∧
                          x < (↑(16 : Nat) : Int) ∧
                            (w'.cell? ((Addr.mk w.heap.size (0 : Nat) none).add (x.toNat * (1 : Nat)))).isSome = true ∧
                              w'.frozen? ((Addr.mk w.heap.size (0 : Nat) none).add (x.toNat * (1 : Nat))) = false ∧
                                ∃ (m : Nat),
                                  m < n ∧
                                    I m (IntKind.i64.wrap (x + (1 : Int)))
                                      (w'.setCell ((Addr.mk w.heap.size (0 : Nat) none).add (x.toNat * (1 : Nat)))
                                        (Value.int IntKind.u32 x_1.fst))))
              (∃ (I : Nat → Int × Int → World → Prop),
                (∃ (n : Nat),
                    I n (bxor IntKind.u32 (if IntKind.u32.signed = true then (-1 : Int) else IntKind.u32.max) n0, (0 : Int))
                      w') ∧
                  ∀ (n : Nat) (x : Int × Int) (j : Nat → Value) (w' : World),
                    I n x w' →
                      cnd (decide (x.snd < (↑s1.len : Int)))
                        ((0 : Int) ≤ x.snd ∧
                          x.snd < (↑s1.len : Int) ∧
                            onP s1.a fun (A : Addr) =>
                              ∃ (x_1 : Int),
                                w'.cell? (A.add (Int.toNat x.snd * (1 : Nat))) = some (Value.int IntKind.u8 x_1) ∧
                                  let e1 := x.fst;
                                  (0 : Int) ≤ band IntKind.u32 (bxor IntKind.u32 e1 (IntKind.u32.wrap x_1)) (15 : Int) ∧
                                    band IntKind.u32 (bxor IntKind.u32 e1 (IntKind.u32.wrap x_1)) (15 : Int) <
                                        (↑(16 : Nat) : Int) ∧
                                      ∃ (x_2 : Int),
                                        w'.cell?
                                              ((Addr.mk w.heap.size (0 : Nat) none).add
                                                ((band IntKind.u32 (bxor IntKind.u32 e1 (IntKind.u32.wrap x_1))
                                                      (15 : Int)).toNat *
                                                  (1 : Nat))) =
                                            some (Value.int IntKind.u32 x_2) ∧
                                          (0 : Int) ≤
                                              band IntKind.u32
                                                (bxor IntKind.u32
                                                  (shr IntKind.u32 (bxor IntKind.u32 e1 (IntKind.u32.wrap x_1)) (4 : Int))
                                                  x_2)
                                                (15 : Int) ∧
                                            band IntKind.u32
                                                  (bxor IntKind.u32
                                                    (shr IntKind.u32 (bxor IntKind.u32 e1 (IntKind.u32.wrap x_1)) (4 : Int))
                                                    x_2)
                                                  (15 : Int) <
                                                (↑(16 : Nat) : Int) ∧
                                              ∃ (x_3 : Int),
                                                w'.cell?
                                                      ((Addr.mk w.heap.size (0 : Nat) none).add
                                                        ((band IntKind.u32
                                                              (bxor IntKind.u32
                                                                (shr IntKind.u32
                                                                  (bxor IntKind.u32 e1 (IntKind.u32.wrap x_1)) (4 : Int))
                                                                x_2)
                                                              (15 : Int)).toNat *
                                                          (1 : Nat))) =
                                                    some (Value.int IntKind.u32 x_3) ∧
                                                  ∃ (m : Nat),
                                                    m < n ∧
                                                      I m
                                                        (bxor IntKind.u32
                                                            (shr IntKind.u32
                                                              (bxor IntKind.u32
                                                                (shr IntKind.u32
                                                                  (bxor IntKind.u32 e1 (IntKind.u32.wrap x_1)) (4 : Int))
                                                                x_2)
                                                              (4 : Int))
                                                            x_3,
                                                          IntKind.i64.wrap (x.snd + (1 : Int)))
                                                        w')
                        (R (bxor IntKind.u32 (if IntKind.u32.signed = true then (-1 : Int) else IntKind.u32.max) x.fst) w')))
  : CallT [Ty.one (Sh.int IntKind.u32)] Try.prog 29 [Value.int IntKind.u32 n0, Value.slice s1.a s1.len s1.cap] w R :=
  fnV_sound (h := HT.z.sq
  (HT.z.sq
    ((HT.z.sq
          (HT.lp [((10 : Nat), Ty.one (Sh.int IntKind.i64))]
              (HT.z.sq
                (HT.z.sq
                  ((HT.z.sq
                          (HT.z.sq
                            ((HT.z.sq
                                  (HT.lp
                                      [((7 : Nat), Ty.one (Sh.int IntKind.u32)),
                                        ((15 : Nat), Ty.one (Sh.int IntKind.i64))]
                                      HT.z).bl).sq
                              HT.z))).bl.sq
                    HT.z)))).bl).sq
      (HT.z.sq
        ((HT.z.sq
              (HT.lp [((0 : Nat), Ty.one (Sh.int IntKind.u32)), ((28 : Nat), Ty.one (Sh.int IntKind.i64))] HT.z).bl).sq
          HT.z))))) Try.func29 (by kernel_rfl) (by kernel_rfl) (Eq.mp (by kernel_rfl) h)

/-- dunnage/dunnageref02.More -/
theorem dunnageref02_More.vc (n0 : Int) (s1 : SV) (w : World) (R : Int → World → Prop)
  (h : ∃ (I : Nat → Int × Int → World → Prop),
      (∃ (n : Nat), I n (bxor IntKind.u32 n0 (4294967295 : Int), (0 : Int)) w) ∧
        ∀ (n : Nat) (x : Int × Int) (j : Nat → Value) (w' : World),
          I n x w' →
            let e1 := x.snd;
            cnd (decide (e1 < (↑s1.len : Int)))
              (let e1 := x.snd;
              (0 : Int) ≤ e1 ∧
                e1 < (↑s1.len : Int) ∧
                  onP s1.a fun (A : Addr) =>
                    ∃ (x_1 : Int),
                      w'.cell? (A.add (e1.toNat * (1 : Nat))) = some (Value.int IntKind.u8 x_1) ∧
                        ∃ (I_1 : Nat → Int × Int → World → Prop),
                          (∃ (n : Nat), I_1 n (bxor IntKind.u32 x.fst (IntKind.u32.wrap x_1), (0 : Int)) w') ∧
                            ∀ (n_1 : Nat) (x_2 : Int × Int) (j : Nat → Value) (w' : World),
                              I_1 n_1 x_2 w' →
                                let e1 := x_2.snd;
                                cnd (decide (e1 < (8 : Int)))
                                  (CallT [Ty.one (Sh.int IntKind.u32)] Try.prog (67 : Nat) [Value.int IntKind.u32 x_2.fst]
                                    w' fun (x : Int) (w' : World) =>
                                    ∃ (m : Nat), m < n_1 ∧ I_1 m (x, IntKind.i64.wrap (x_2.snd + (1 : Int))) w')
                                  (∃ (m : Nat), m < n ∧ I m (x_2.fst, IntKind.i64.wrap (x.snd + (1 : Int))) w'))
              (R (bxor IntKind.u32 x.fst (4294967295 : Int)) w'))
  : CallT [Ty.one (Sh.int IntKind.u32)] Try.prog 30 [Value.int IntKind.u32 n0, Value.slice s1.a s1.len s1.cap] w R :=
  fnV_sound (h := HT.z.sq
  (HT.z.sq
    ((HT.z.sq
          (HT.lp [((5 : Nat), Ty.one (Sh.int IntKind.u32)), ((6 : Nat), Ty.one (Sh.int IntKind.i64))]
              (HT.z.sq
                ((HT.z.sq
                        (HT.z.sq
                          (HT.lp [((5 : Nat), Ty.one (Sh.int IntKind.u32)), ((7 : Nat), Ty.one (Sh.int IntKind.i64))]
                              HT.z).bl)).bl.sq
                  HT.z))).bl).sq
      HT.z))) Try.func30 (by kernel_rfl) (by kernel_rfl) (Eq.mp (by kernel_rfl) h)

/-- dunnage/dunnagehelp.Kept[byte] -/
theorem dunnagehelp_Kept_byte.vc (s0 : SV) (s1 : SV) (n2 : Int) (w : World) (R : Bool → World → Prop)
  (h : ∃ (R_1 : PUnit → World → Prop),
      (CallT [Ty.one Sh.bool] Try.prog (68 : Nat) [Value.slice s0.a s0.len s0.cap, Value.slice s1.a s1.len s1.cap] w
          fun (x : Bool) (w' : World) =>
          cnd (!x) (R false w')
            (cnd (decide ((↑s0.cap : Int) < IntKind.i64.wrap ((↑s1.len : Int) + (3 : Int)))) (R false w') (R_1 () w'))) ∧
        ∀ (x : PUnit) (j : Nat → Value) (w' : World),
          R_1 x w' →
            (0 : Int) ≤ IntKind.i64.wrap ((↑s1.len : Int) + (3 : Int)) ∧
              IntKind.i64.wrap ((↑s1.len : Int) + (3 : Int)) ≤ (↑s0.cap : Int) ∧
                ∃ (I : Nat → Int → World → Prop),
                  (∃ (n : Nat), I n (↑s1.len : Int) w') ∧
                    ∀ (n : Nat) (x : Int) (j : Nat → Value) (w' : World),
                      I n x w' →
                        let e1 := (↑((IntKind.i64.wrap ((↑s1.len : Int) + (3 : Int))).toNat - (0 : Nat)) : Int);
                        cnd (decide (x < e1))
                          ((0 : Int) ≤ x ∧
                            x < (↑((IntKind.i64.wrap ((↑s1.len : Int) + (3 : Int))).toNat - (0 : Nat)) : Int) ∧
                              onP (subA s0.a (0 : Nat) (1 : Nat) s0.cap) fun (A : Addr) =>
                                ∃ (x_1 : Int),
                                  w'.cell? (A.add (x.toNat * (1 : Nat))) = some (Value.int IntKind.u8 x_1) ∧
                                    cnd (x_1 != n2) (R false w')
                                      (∃ (m : Nat), m < n ∧ I m (IntKind.i64.wrap (x + (1 : Int))) w'))
                          (R true w'))
  : CallT [Ty.one Sh.bool] Try.prog 31 [Value.slice s0.a s0.len s0.cap, Value.slice s1.a s1.len s1.cap, Value.int IntKind.u8 n2] w R :=
  fnV_sound (h := HT.z.sq (HT.jn [] HT.z (HT.z.sq ((HT.z.sq (HT.lp [((8 : Nat), Ty.one (Sh.int IntKind.i64))] HT.z).bl).sq HT.z)))) Try.func31 (by kernel_rfl) (by kernel_rfl) (Eq.mp (by kernel_rfl) h)

/-- dunnage/dunnagelaw02.behind -/
theorem dunnagelaw02_behind.vc (s0 : SV) (w : World) (R : SV → World → Prop)
  (h : CallT [Ty.one (Sh.int IntKind.u32)] Try.prog (27 : Nat) [Value.slice s0.a s0.len s0.cap] w fun (x : Int) (w' : World) =>
      appV Try.prog [(23 : Nat), (23 : Nat)] (23 : Nat)
        [Value.slice none (0 : Nat) (0 : Nat), Value.slice s0.a s0.len s0.cap] w' fun (s : SV) (w' : World) =>
        appV Try.prog [(23 : Nat), (23 : Nat)] (23 : Nat)
          [Value.slice s.a s.len s.cap, Value.slice (some (Addr.mk w'.heap.size (0 : Nat) none)) (4 : Nat) (4 : Nat)]
          (w'.alloc
            (Obj.cells
              #[Value.int IntKind.u8 (IntKind.u8.wrap x),
                Value.int IntKind.u8 (IntKind.u8.wrap (shr IntKind.u32 x (8 : Int))),
                Value.int IntKind.u8 (IntKind.u8.wrap (shr IntKind.u32 x (16 : Int))),
                Value.int IntKind.u8 (IntKind.u8.wrap (shr IntKind.u32 x (24 : Int)))]
              (5 : Nat)))
          fun (s : SV) (w' : World) => R s w')
  : CallT [Ty.one Sh.slice] Try.prog 32 [Value.slice s0.a s0.len s0.cap] w R :=
  fnV_sound (h := HT.z) Try.func32 (by kernel_rfl) (by kernel_rfl) (Eq.mp (by kernel_rfl) h)

/-- dunnage/dunnagelaw02.right -/
theorem dunnagelaw02_right.vc (s0 : SV) (w : World) (R : Bool → World → Prop)
  (h : cnd (decide ((↑s0.len : Int) < (4 : Int))) (R false w)
      ((0 : Int) ≤ IntKind.i64.wrap ((↑s0.len : Int) - (4 : Int)) ∧
        IntKind.i64.wrap ((↑s0.len : Int) - (4 : Int)) ≤ (↑s0.cap : Int) ∧
          CallT [Ty.one Sh.slice] Try.prog (32 : Nat)
            [Value.slice (subA s0.a (0 : Nat) (1 : Nat) s0.cap)
                ((IntKind.i64.wrap ((↑s0.len : Int) - (4 : Int))).toNat - (0 : Nat)) (s0.cap - (0 : Nat))]
            w fun (x : SV) (w' : World) =>
            CallT [Ty.one Sh.bool] Try.prog (24 : Nat) [Value.slice x.a x.len x.cap, Value.slice s0.a s0.len s0.cap] w'
              fun (x : Bool) (w' : World) => R x w'))
  : CallT [Ty.one Sh.bool] Try.prog 33 [Value.slice s0.a s0.len s0.cap] w R :=
  fnV_sound (h := HT.z) Try.func33 (by kernel_rfl) (by kernel_rfl) (Eq.mp (by kernel_rfl) h)

end Go.Proofs
