/- Texts that the claim leans on, one behind the other: each begins with a sentence of its own. Conditions: those that each names. -/
import Derived.Below
import Derived.ChangeOld
import Derived.Deep.Quiet
import Derived.KernelRfl
import Derived.Laws.Cells
import Derived.Laws.Entries
import Derived.Laws.Sem
import Derived.Laws.Strings
import Derived.Laws.World
import Derived.Lib.SlBytesConst
import Derived.OpenShut
import Derived.Orders
import Derived.OrdersHeld
import Derived.ProofKit
import Derived.ShutString
import Derived.SizedLaws
import Derived.StillTail
import Derived.Tactics
import Derived.Test.YtinolellciikoaaProg
import Derived.Test.YtinolellciikoaaRows
import Derived.Test.YtinolellciikoaaPkM6
/- The conditions of the seat's functions, written by a program (VcTool, genvc.py) off 'vc' reduced; each is tied to 'vc' by the kernel. Conditions: none. -/
set_option linter.unusedVariables false
set_option maxRecDepth 100000
namespace Go.Proofs
open Go Go.Vc
/-- dunnage/dunnagelaw27.ManifestTurns -/
theorem dunnagelaw27_ManifestTurns.vc (x0 : Int × Int × Int × Int × Int × Int × Int × Int × Int) (x1 : Int × Int × Int × Int × Int × Int × Int × Int × Int) (b2 : Bool) (w : World) (R : Bool → World → Prop)
  (h : let w1 :=
      w.alloc
        (Obj.cells
          #[Value.int IntKind.u64 x0.fst, Value.int IntKind.u64 x0.snd.fst, Value.int IntKind.i64 x0.snd.snd.fst,
            Value.int IntKind.i64 x0.snd.snd.snd.fst, Value.int IntKind.u64 x0.snd.snd.snd.snd.fst,
            Value.int IntKind.u64 x0.snd.snd.snd.snd.snd.fst, Value.int IntKind.u64 x0.snd.snd.snd.snd.snd.snd.fst,
            Value.int IntKind.u64 x0.snd.snd.snd.snd.snd.snd.snd.fst,
            Value.int IntKind.u64 x0.snd.snd.snd.snd.snd.snd.snd.snd]
          (92 : Nat));
    let w1_1 :=
      w1.alloc
        (Obj.cells
          #[Value.int IntKind.u64 x1.fst, Value.int IntKind.u64 x1.snd.fst, Value.int IntKind.i64 x1.snd.snd.fst,
            Value.int IntKind.i64 x1.snd.snd.snd.fst, Value.int IntKind.u64 x1.snd.snd.snd.snd.fst,
            Value.int IntKind.u64 x1.snd.snd.snd.snd.snd.fst, Value.int IntKind.u64 x1.snd.snd.snd.snd.snd.snd.fst,
            Value.int IntKind.u64 x1.snd.snd.snd.snd.snd.snd.snd.fst,
            Value.int IntKind.u64 x1.snd.snd.snd.snd.snd.snd.snd.snd]
          (92 : Nat));
    ∃ (x : Int × Int × Int × Int × Int × Int × Int × Int × Int),
      cellsAt w1_1 (Addr.mk w.heap.size (0 : Nat) none)
          [Value.int IntKind.u64 x.fst, Value.int IntKind.u64 x.snd.fst, Value.int IntKind.i64 x.snd.snd.fst,
            Value.int IntKind.i64 x.snd.snd.snd.fst, Value.int IntKind.u64 x.snd.snd.snd.snd.fst,
            Value.int IntKind.u64 x.snd.snd.snd.snd.snd.fst, Value.int IntKind.u64 x.snd.snd.snd.snd.snd.snd.fst,
            Value.int IntKind.u64 x.snd.snd.snd.snd.snd.snd.snd.fst,
            Value.int IntKind.u64 x.snd.snd.snd.snd.snd.snd.snd.snd] ∧
        CallT [Ty.one Sh.slice, Ty.one (Sh.int IntKind.i64)] Try.prog (68 : Nat)
          [Value.agg
              #[Value.int IntKind.u64 x.fst, Value.int IntKind.u64 x.snd.fst, Value.int IntKind.i64 x.snd.snd.fst,
                Value.int IntKind.i64 x.snd.snd.snd.fst, Value.int IntKind.u64 x.snd.snd.snd.snd.fst,
                Value.int IntKind.u64 x.snd.snd.snd.snd.snd.fst, Value.int IntKind.u64 x.snd.snd.snd.snd.snd.snd.fst,
                Value.int IntKind.u64 x.snd.snd.snd.snd.snd.snd.snd.fst,
                Value.int IntKind.u64 x.snd.snd.snd.snd.snd.snd.snd.snd]]
          w1_1 fun (x : SV × Int) (w' : World) =>
          ∃ (x_1 : Int × Int × Int × Int × Int × Int × Int × Int × Int),
            cellsAt w' (Addr.mk w1.heap.size (0 : Nat) none)
                [Value.int IntKind.u64 x_1.fst, Value.int IntKind.u64 x_1.snd.fst, Value.int IntKind.i64 x_1.snd.snd.fst,
                  Value.int IntKind.i64 x_1.snd.snd.snd.fst, Value.int IntKind.u64 x_1.snd.snd.snd.snd.fst,
                  Value.int IntKind.u64 x_1.snd.snd.snd.snd.snd.fst, Value.int IntKind.u64 x_1.snd.snd.snd.snd.snd.snd.fst,
                  Value.int IntKind.u64 x_1.snd.snd.snd.snd.snd.snd.snd.fst,
                  Value.int IntKind.u64 x_1.snd.snd.snd.snd.snd.snd.snd.snd] ∧
              CallT [Ty.one Sh.slice, Ty.one (Sh.int IntKind.i64)] Try.prog (68 : Nat)
                [Value.agg
                    #[Value.int IntKind.u64 x_1.fst, Value.int IntKind.u64 x_1.snd.fst,
                      Value.int IntKind.i64 x_1.snd.snd.fst, Value.int IntKind.i64 x_1.snd.snd.snd.fst,
                      Value.int IntKind.u64 x_1.snd.snd.snd.snd.fst, Value.int IntKind.u64 x_1.snd.snd.snd.snd.snd.fst,
                      Value.int IntKind.u64 x_1.snd.snd.snd.snd.snd.snd.fst,
                      Value.int IntKind.u64 x_1.snd.snd.snd.snd.snd.snd.snd.fst,
                      Value.int IntKind.u64 x_1.snd.snd.snd.snd.snd.snd.snd.snd]]
                w' fun (x_2 : SV × Int) (w' : World) =>
                mkSV Try.prog (23 : Nat) (Value.int IntKind.i64 (512 : Int)) (Value.int IntKind.i64 (512 : Int)) w'
                  fun (s : SV) (w' : World) =>
                  ∃ (R_1 : PUnit → World → Prop),
                    (∃ (R_2 : Bool → World → Prop),
                        (CallT [Ty.one Sh.bool] Try.prog (69 : Nat) [] w' fun (x_3 : Bool) (w' : World) =>
                            cnd (!x_3) (R_2 true w')
                              (cnd (x.snd != (0 : Int)) (R_2 true w') (R_2 (x_2.snd != (0 : Int)) w'))) ∧
                          ∀ (x : Bool) (j : Nat → Value) (w' : World),
                            R_2 x w' →
                              cnd x (CallT [Ty.one Sh.bool] Try.prog (69 : Nat) [] w' fun (x : Bool) (w' : World) => R x w')
                                (R_1 () w')) ∧
                      ∀ (x_3 : PUnit) (j : Nat → Value) (w' : World),
                        R_1 x_3 w' →
                          CallT
                            [Ty.agg
                                [Sh.int IntKind.u64, Sh.int IntKind.u64, Sh.int IntKind.i64, Sh.int IntKind.i64,
                                  Sh.int IntKind.u64, Sh.int IntKind.u64, Sh.int IntKind.u64, Sh.int IntKind.u64,
                                  Sh.int IntKind.u64],
                              Ty.one (Sh.int IntKind.i64), Ty.one (Sh.int IntKind.i64)]
                            Try.prog (73 : Nat) [Value.slice x.fst.a x.fst.len x.fst.cap, Value.slice s.a s.len s.cap] w'
                            fun (x_4 : (Int × Int × Int × Int × Int × Int × Int × Int × Int) × Int × Int) (w' : World) =>
                            let w1_2 :=
                              w'.alloc
                                (Obj.cells
                                  #[Value.int IntKind.u64 (0 : Int), Value.int IntKind.u64 (0 : Int),
                                    Value.int IntKind.i64 (0 : Int), Value.int IntKind.i64 (0 : Int),
                                    Value.int IntKind.u64 (0 : Int), Value.int IntKind.u64 (0 : Int),
                                    Value.int IntKind.u64 (0 : Int), Value.int IntKind.u64 (0 : Int),
                                    Value.int IntKind.u64 (0 : Int)]
                                  (92 : Nat));
                            canSt w1_2 (Addr.mk w'.heap.size (0 : Nat) none) (9 : Nat) ∧
                              CallT
                                [Ty.agg
                                    [Sh.int IntKind.u64, Sh.int IntKind.u64, Sh.int IntKind.i64, Sh.int IntKind.i64,
                                      Sh.int IntKind.u64, Sh.int IntKind.u64, Sh.int IntKind.u64, Sh.int IntKind.u64,
                                      Sh.int IntKind.u64],
                                  Ty.one (Sh.int IntKind.i64), Ty.one (Sh.int IntKind.i64)]
                                Try.prog (73 : Nat) [Value.slice s.a s.len s.cap, Value.slice x.fst.a x.fst.len x.fst.cap]
                                (setCells w1_2 (Addr.mk w'.heap.size (0 : Nat) none) (0 : Nat)
                                  [Value.int IntKind.u64 x_4.fst.fst, Value.int IntKind.u64 x_4.fst.snd.fst,
                                    Value.int IntKind.i64 x_4.fst.snd.snd.fst,
                                    Value.int IntKind.i64 x_4.fst.snd.snd.snd.fst,
                                    Value.int IntKind.u64 x_4.fst.snd.snd.snd.snd.fst,
                                    Value.int IntKind.u64 x_4.fst.snd.snd.snd.snd.snd.fst,
                                    Value.int IntKind.u64 x_4.fst.snd.snd.snd.snd.snd.snd.fst,
                                    Value.int IntKind.u64 x_4.fst.snd.snd.snd.snd.snd.snd.snd.fst,
                                    Value.int IntKind.u64 x_4.fst.snd.snd.snd.snd.snd.snd.snd.snd])
                                fun (x_5 : (Int × Int × Int × Int × Int × Int × Int × Int × Int) × Int × Int)
                                  (w'_1 : World) =>
                                let w1_3 :=
                                  w'_1.alloc
                                    (Obj.cells
                                      #[Value.int IntKind.u64 (0 : Int), Value.int IntKind.u64 (0 : Int),
                                        Value.int IntKind.i64 (0 : Int), Value.int IntKind.i64 (0 : Int),
                                        Value.int IntKind.u64 (0 : Int), Value.int IntKind.u64 (0 : Int),
                                        Value.int IntKind.u64 (0 : Int), Value.int IntKind.u64 (0 : Int),
                                        Value.int IntKind.u64 (0 : Int)]
                                      (92 : Nat));
                                canSt w1_3 (Addr.mk w'_1.heap.size (0 : Nat) none) (9 : Nat) ∧
                                  let w1_4 :=
                                    setCells w1_3 (Addr.mk w'_1.heap.size (0 : Nat) none) (0 : Nat)
                                      [Value.int IntKind.u64 x_5.fst.fst, Value.int IntKind.u64 x_5.fst.snd.fst,
                                        Value.int IntKind.i64 x_5.fst.snd.snd.fst,
                                        Value.int IntKind.i64 x_5.fst.snd.snd.snd.fst,
                                        Value.int IntKind.u64 x_5.fst.snd.snd.snd.snd.fst,
                                        Value.int IntKind.u64 x_5.fst.snd.snd.snd.snd.snd.fst,
                                        Value.int IntKind.u64 x_5.fst.snd.snd.snd.snd.snd.snd.fst,
                                        Value.int IntKind.u64 x_5.fst.snd.snd.snd.snd.snd.snd.snd.fst,
                                        Value.int IntKind.u64 x_5.fst.snd.snd.snd.snd.snd.snd.snd.snd];
                                  ∃ (R_2 : PUnit → World → Prop),
                                    cnd (x_4.snd.snd != (0 : Int)) (R false w1_4)
                                        (cnd (x_5.snd.snd != (0 : Int)) (R false w1_4)
                                          (∃ (x : Int × Int × Int × Int × Int × Int × Int × Int × Int),
                                            cellsAt w1_4 (Addr.mk w'.heap.size (0 : Nat) none)
                                                [Value.int IntKind.u64 x.fst, Value.int IntKind.u64 x.snd.fst,
                                                  Value.int IntKind.i64 x.snd.snd.fst,
                                                  Value.int IntKind.i64 x.snd.snd.snd.fst,
                                                  Value.int IntKind.u64 x.snd.snd.snd.snd.fst,
                                                  Value.int IntKind.u64 x.snd.snd.snd.snd.snd.fst,
                                                  Value.int IntKind.u64 x.snd.snd.snd.snd.snd.snd.fst,
                                                  Value.int IntKind.u64 x.snd.snd.snd.snd.snd.snd.snd.fst,
                                                  Value.int IntKind.u64 x.snd.snd.snd.snd.snd.snd.snd.snd] ∧
                                              ∃ (x_6 : Int × Int × Int × Int × Int × Int × Int × Int × Int),
                                                cellsAt w1_4 (Addr.mk w.heap.size (0 : Nat) none)
                                                    [Value.int IntKind.u64 x_6.fst, Value.int IntKind.u64 x_6.snd.fst,
                                                      Value.int IntKind.i64 x_6.snd.snd.fst,
                                                      Value.int IntKind.i64 x_6.snd.snd.snd.fst,
                                                      Value.int IntKind.u64 x_6.snd.snd.snd.snd.fst,
                                                      Value.int IntKind.u64 x_6.snd.snd.snd.snd.snd.fst,
                                                      Value.int IntKind.u64 x_6.snd.snd.snd.snd.snd.snd.fst,
                                                      Value.int IntKind.u64 x_6.snd.snd.snd.snd.snd.snd.snd.fst,
                                                      Value.int IntKind.u64 x_6.snd.snd.snd.snd.snd.snd.snd.snd] ∧
                                                  cnd
                                                    (!(x.fst == x_6.fst &&
                                                        (x.snd.fst == x_6.snd.fst &&
                                                          (x.snd.snd.fst == x_6.snd.snd.fst &&
                                                            (x.snd.snd.snd.fst == x_6.snd.snd.snd.fst &&
                                                              (x.snd.snd.snd.snd.fst == x_6.snd.snd.snd.snd.fst &&
                                                                (x.snd.snd.snd.snd.snd.fst == x_6.snd.snd.snd.snd.snd.fst &&
                                                                  (x.snd.snd.snd.snd.snd.snd.fst ==
                                                                      x_6.snd.snd.snd.snd.snd.snd.fst &&
                                                                    (x.snd.snd.snd.snd.snd.snd.snd.fst ==
                                                                        x_6.snd.snd.snd.snd.snd.snd.snd.fst &&
                                                                      (x.snd.snd.snd.snd.snd.snd.snd.snd ==
                                                                          x_6.snd.snd.snd.snd.snd.snd.snd.snd &&
                                                                        true))))))))))
                                                    (R false w1_4)
                                                    (∃ (x : Int × Int × Int × Int × Int × Int × Int × Int × Int),
                                                      cellsAt w1_4 (Addr.mk w'_1.heap.size (0 : Nat) none)
                                                          [Value.int IntKind.u64 x.fst, Value.int IntKind.u64 x.snd.fst,
                                                            Value.int IntKind.i64 x.snd.snd.fst,
                                                            Value.int IntKind.i64 x.snd.snd.snd.fst,
                                                            Value.int IntKind.u64 x.snd.snd.snd.snd.fst,
                                                            Value.int IntKind.u64 x.snd.snd.snd.snd.snd.fst,
                                                            Value.int IntKind.u64 x.snd.snd.snd.snd.snd.snd.fst,
                                                            Value.int IntKind.u64 x.snd.snd.snd.snd.snd.snd.snd.fst,
                                                            Value.int IntKind.u64 x.snd.snd.snd.snd.snd.snd.snd.snd] ∧
                                                        ∃ (x_7 : Int × Int × Int × Int × Int × Int × Int × Int × Int),
                                                          cellsAt w1_4 (Addr.mk w.heap.size (0 : Nat) none)
                                                              [Value.int IntKind.u64 x_7.fst,
                                                                Value.int IntKind.u64 x_7.snd.fst,
                                                                Value.int IntKind.i64 x_7.snd.snd.fst,
                                                                Value.int IntKind.i64 x_7.snd.snd.snd.fst,
                                                                Value.int IntKind.u64 x_7.snd.snd.snd.snd.fst,
                                                                Value.int IntKind.u64 x_7.snd.snd.snd.snd.snd.fst,
                                                                Value.int IntKind.u64 x_7.snd.snd.snd.snd.snd.snd.fst,
                                                                Value.int IntKind.u64 x_7.snd.snd.snd.snd.snd.snd.snd.fst,
                                                                Value.int IntKind.u64 x_7.snd.snd.snd.snd.snd.snd.snd.snd] ∧
                                                            cnd
                                                              (!(x.fst == x_7.fst &&
                                                                  (x.snd.fst == x_7.snd.fst &&
                                                                    (x.snd.snd.fst == x_7.snd.snd.fst &&
                                                                      (x.snd.snd.snd.fst == x_7.snd.snd.snd.fst &&
                                                                        (x.snd.snd.snd.snd.fst == x_7.snd.snd.snd.snd.fst &&
                                                                          (x.snd.snd.snd.snd.snd.fst ==
                                                                              x_7.snd.snd.snd.snd.snd.fst &&
                                                                            (x.snd.snd.snd.snd.snd.snd.fst ==
                                                                                x_7.snd.snd.snd.snd.snd.snd.fst &&
                                                                              (x.snd.snd.snd.snd.snd.snd.snd.fst ==
                                                                                  x_7.snd.snd.snd.snd.snd.snd.snd.fst &&
                                                                                (x.snd.snd.snd.snd.snd.snd.snd.snd ==
                                                                                    x_7.snd.snd.snd.snd.snd.snd.snd.snd &&
                                                                                  true))))))))))
                                                              (R false w1_4)
                                                              (cnd (x_4.snd.fst != (0 : Int)) (R false w1_4)
                                                                (cnd (x_5.snd.fst != (1 : Int)) (R false w1_4)
                                                                  (R_2 () w1_4)))))) ∧
                                      ∀ (x_6 : PUnit) (j : Nat → Value) (w' : World),
                                        R_2 x_6 w' →
                                          ∃ (R_3 : SV × SV → World → Prop),
                                            cnd b2
                                                (∃ (x_7 : Int × Int × Int × Int × Int × Int × Int × Int × Int),
                                                  cellsAt w'.drew (Addr.mk w1.heap.size (0 : Nat) none)
                                                      [Value.int IntKind.u64 x_7.fst, Value.int IntKind.u64 x_7.snd.fst,
                                                        Value.int IntKind.i64 x_7.snd.snd.fst,
                                                        Value.int IntKind.i64 x_7.snd.snd.snd.fst,
                                                        Value.int IntKind.u64 x_7.snd.snd.snd.snd.fst,
                                                        Value.int IntKind.u64 x_7.snd.snd.snd.snd.snd.fst,
                                                        Value.int IntKind.u64 x_7.snd.snd.snd.snd.snd.snd.fst,
                                                        Value.int IntKind.u64 x_7.snd.snd.snd.snd.snd.snd.snd.fst,
                                                        Value.int IntKind.u64 x_7.snd.snd.snd.snd.snd.snd.snd.snd] ∧
                                                    ∃ (x_8 : Int × Int × Int × Int × Int × Int × Int × Int × Int),
                                                      cellsAt w'.drew (Addr.mk w.heap.size (0 : Nat) none)
                                                          [Value.int IntKind.u64 x_8.fst, Value.int IntKind.u64 x_8.snd.fst,
                                                            Value.int IntKind.i64 x_8.snd.snd.fst,
                                                            Value.int IntKind.i64 x_8.snd.snd.snd.fst,
                                                            Value.int IntKind.u64 x_8.snd.snd.snd.snd.fst,
                                                            Value.int IntKind.u64 x_8.snd.snd.snd.snd.snd.fst,
                                                            Value.int IntKind.u64 x_8.snd.snd.snd.snd.snd.snd.fst,
                                                            Value.int IntKind.u64 x_8.snd.snd.snd.snd.snd.snd.snd.fst,
                                                            Value.int IntKind.u64 x_8.snd.snd.snd.snd.snd.snd.snd.snd] ∧
                                                        canSt w'.drew (Addr.mk w.heap.size (0 : Nat) none) (9 : Nat) ∧
                                                          let w1_5 :=
                                                            setCells w'.drew (Addr.mk w.heap.size (0 : Nat) none) (0 : Nat)
                                                              [Value.int IntKind.u64 x_7.fst,
                                                                Value.int IntKind.u64 x_7.snd.fst,
                                                                Value.int IntKind.i64 x_7.snd.snd.fst,
                                                                Value.int IntKind.i64 x_7.snd.snd.snd.fst,
                                                                Value.int IntKind.u64 x_7.snd.snd.snd.snd.fst,
                                                                Value.int IntKind.u64 x_7.snd.snd.snd.snd.snd.fst,
                                                                Value.int IntKind.u64 x_7.snd.snd.snd.snd.snd.snd.fst,
                                                                Value.int IntKind.u64 x_7.snd.snd.snd.snd.snd.snd.snd.fst,
                                                                Value.int IntKind.u64 x_7.snd.snd.snd.snd.snd.snd.snd.snd];
                                                          canSt w1_5 (Addr.mk w1.heap.size (0 : Nat) none) (9 : Nat) ∧
                                                            R_3 (x_2.fst, x.fst)
                                                              (setCells w1_5 (Addr.mk w1.heap.size (0 : Nat) none) (0 : Nat)
                                                                [Value.int IntKind.u64 x_8.fst,
                                                                  Value.int IntKind.u64 x_8.snd.fst,
                                                                  Value.int IntKind.i64 x_8.snd.snd.fst,
                                                                  Value.int IntKind.i64 x_8.snd.snd.snd.fst,
                                                                  Value.int IntKind.u64 x_8.snd.snd.snd.snd.fst,
                                                                  Value.int IntKind.u64 x_8.snd.snd.snd.snd.snd.fst,
                                                                  Value.int IntKind.u64 x_8.snd.snd.snd.snd.snd.snd.fst,
                                                                  Value.int IntKind.u64 x_8.snd.snd.snd.snd.snd.snd.snd.fst,
                                                                  Value.int IntKind.u64
                                                                    x_8.snd.snd.snd.snd.snd.snd.snd.snd]))
                                                (R_3 (x.fst, x_2.fst) w') ∧
                                              ∀ (x : SV × SV) (j : Nat → Value) (w' : World),
                                                R_3 x w' →
                                                  CallT
                                                    [Ty.agg
                                                        [Sh.int IntKind.u64, Sh.int IntKind.u64, Sh.int IntKind.i64,
                                                          Sh.int IntKind.i64, Sh.int IntKind.u64, Sh.int IntKind.u64,
                                                          Sh.int IntKind.u64, Sh.int IntKind.u64, Sh.int IntKind.u64],
                                                      Ty.one (Sh.int IntKind.i64), Ty.one (Sh.int IntKind.i64)]
                                                    Try.prog (73 : Nat)
                                                    [Value.slice x.fst.a x.fst.len x.fst.cap,
                                                      Value.slice x.snd.a x.snd.len x.snd.cap]
                                                    w'
                                                    fun
                                                      (x :
                                                        (Int × Int × Int × Int × Int × Int × Int × Int × Int) × Int × Int)
                                                      (w' : World) =>
                                                    let e1 := x.snd.fst;
                                                    let e1_1 := x.snd.snd;
                                                    let w1_5 :=
                                                      w'.alloc
                                                        (Obj.cells
                                                          #[Value.int IntKind.u64 (0 : Int),
                                                            Value.int IntKind.u64 (0 : Int),
                                                            Value.int IntKind.i64 (0 : Int),
                                                            Value.int IntKind.i64 (0 : Int),
                                                            Value.int IntKind.u64 (0 : Int),
                                                            Value.int IntKind.u64 (0 : Int),
                                                            Value.int IntKind.u64 (0 : Int),
                                                            Value.int IntKind.u64 (0 : Int),
                                                            Value.int IntKind.u64 (0 : Int)]
                                                          (92 : Nat));
                                                    canSt w1_5 (Addr.mk w'.heap.size (0 : Nat) none) (9 : Nat) ∧
                                                      let w1_6 :=
                                                        setCells w1_5 (Addr.mk w'.heap.size (0 : Nat) none) (0 : Nat)
                                                          [Value.int IntKind.u64 x.fst.fst,
                                                            Value.int IntKind.u64 x.fst.snd.fst,
                                                            Value.int IntKind.i64 x.fst.snd.snd.fst,
                                                            Value.int IntKind.i64 x.fst.snd.snd.snd.fst,
                                                            Value.int IntKind.u64 x.fst.snd.snd.snd.snd.fst,
                                                            Value.int IntKind.u64 x.fst.snd.snd.snd.snd.snd.fst,
                                                            Value.int IntKind.u64 x.fst.snd.snd.snd.snd.snd.snd.fst,
                                                            Value.int IntKind.u64 x.fst.snd.snd.snd.snd.snd.snd.snd.fst,
                                                            Value.int IntKind.u64 x.fst.snd.snd.snd.snd.snd.snd.snd.snd];
                                                      ∃ (x : Int),
                                                        w1_6.cell? ((Addr.mk w.heap.size (0 : Nat) none).add (0 : Nat)) =
                                                            some (Value.int IntKind.u64 x) ∧
                                                          ∃ (x_7 : Int),
                                                            w1_6.cell?
                                                                  ((Addr.mk w1.heap.size (0 : Nat) none).add (0 : Nat)) =
                                                                some (Value.int IntKind.u64 x_7) ∧
                                                              cnd (x == x_7)
                                                                (cnd (e1_1 == (11 : Int))
                                                                  (∃ (x :
                                                                    Int × Int × Int × Int × Int × Int × Int × Int × Int),
                                                                    cellsAt w1_6 (Addr.mk w'.heap.size (0 : Nat) none)
                                                                        [Value.int IntKind.u64 x.fst,
                                                                          Value.int IntKind.u64 x.snd.fst,
                                                                          Value.int IntKind.i64 x.snd.snd.fst,
                                                                          Value.int IntKind.i64 x.snd.snd.snd.fst,
                                                                          Value.int IntKind.u64 x.snd.snd.snd.snd.fst,
                                                                          Value.int IntKind.u64 x.snd.snd.snd.snd.snd.fst,
                                                                          Value.int IntKind.u64
                                                                            x.snd.snd.snd.snd.snd.snd.fst,
                                                                          Value.int IntKind.u64
                                                                            x.snd.snd.snd.snd.snd.snd.snd.fst,
                                                                          Value.int IntKind.u64
                                                                            x.snd.snd.snd.snd.snd.snd.snd.snd] ∧
                                                                      cnd
                                                                        (x.fst == (0 : Int) &&
                                                                          (x.snd.fst == (0 : Int) &&
                                                                            (x.snd.snd.fst == (0 : Int) &&
                                                                              (x.snd.snd.snd.fst == (0 : Int) &&
                                                                                (x.snd.snd.snd.snd.fst == (0 : Int) &&
                                                                                  (x.snd.snd.snd.snd.snd.fst == (0 : Int) &&
                                                                                    (x.snd.snd.snd.snd.snd.snd.fst ==
                                                                                        (0 : Int) &&
                                                                                      (x.snd.snd.snd.snd.snd.snd.snd.fst ==
                                                                                          (0 : Int) &&
                                                                                        (x.snd.snd.snd.snd.snd.snd.snd.snd ==
                                                                                            (0 : Int) &&
                                                                                          true)))))))))
                                                                        (R (e1 == (0 : Int)) w1_6) (R false w1_6))
                                                                  (R false w1_6))
                                                                (∃ (x :
                                                                  Int × Int × Int × Int × Int × Int × Int × Int × Int),
                                                                  cellsAt w1_6 (Addr.mk w.heap.size (0 : Nat) none)
                                                                      [Value.int IntKind.u64 x.fst,
                                                                        Value.int IntKind.u64 x.snd.fst,
                                                                        Value.int IntKind.i64 x.snd.snd.fst,
                                                                        Value.int IntKind.i64 x.snd.snd.snd.fst,
                                                                        Value.int IntKind.u64 x.snd.snd.snd.snd.fst,
                                                                        Value.int IntKind.u64 x.snd.snd.snd.snd.snd.fst,
                                                                        Value.int IntKind.u64 x.snd.snd.snd.snd.snd.snd.fst,
                                                                        Value.int IntKind.u64
                                                                          x.snd.snd.snd.snd.snd.snd.snd.fst,
                                                                        Value.int IntKind.u64
                                                                          x.snd.snd.snd.snd.snd.snd.snd.snd] ∧
                                                                    let w1_7 :=
                                                                      w1_6.alloc
                                                                        (Obj.cells
                                                                          #[Value.int IntKind.u64 (0 : Int),
                                                                            Value.int IntKind.u64 (0 : Int),
                                                                            Value.int IntKind.i64 (0 : Int),
                                                                            Value.int IntKind.i64 (0 : Int),
                                                                            Value.int IntKind.u64 (0 : Int),
                                                                            Value.int IntKind.u64 (0 : Int),
                                                                            Value.int IntKind.u64 (0 : Int),
                                                                            Value.int IntKind.u64 (0 : Int),
                                                                            Value.int IntKind.u64 (0 : Int)]
                                                                          (92 : Nat));
                                                                    canSt w1_7 (Addr.mk w1_6.heap.size (0 : Nat) none)
                                                                        (9 : Nat) ∧
                                                                      let w1_8 :=
                                                                        setCells w1_7
                                                                          (Addr.mk w1_6.heap.size (0 : Nat) none) (0 : Nat)
                                                                          [Value.int IntKind.u64 x.fst,
                                                                            Value.int IntKind.u64 x.snd.fst,
                                                                            Value.int IntKind.i64 x.snd.snd.fst,
                                                                            Value.int IntKind.i64 x.snd.snd.snd.fst,
                                                                            Value.int IntKind.u64 x.snd.snd.snd.snd.fst,
                                                                            Value.int IntKind.u64 x.snd.snd.snd.snd.snd.fst,
                                                                            Value.int IntKind.u64
                                                                              x.snd.snd.snd.snd.snd.snd.fst,
                                                                            Value.int IntKind.u64
                                                                              x.snd.snd.snd.snd.snd.snd.snd.fst,
                                                                            Value.int IntKind.u64
                                                                              x.snd.snd.snd.snd.snd.snd.snd.snd];
                                                                      ∃ (R_4 : Int → World → Prop),
                                                                        (∃ (x : Int),
                                                                            w1_8.cell?
                                                                                  ((Addr.mk w1.heap.size (0 : Nat) none).add
                                                                                    (0 : Nat)) =
                                                                                some (Value.int IntKind.u64 x) ∧
                                                                              ∃ (x_8 : Int),
                                                                                w1_8.cell?
                                                                                      ((Addr.mk w.heap.size (0 : Nat)
                                                                                            none).add
                                                                                        (0 : Nat)) =
                                                                                    some (Value.int IntKind.u64 x_8) ∧
                                                                                  cnd (decide (x > x_8))
                                                                                    (∃ (x :
                                                                                      Int ×
                                                                                        Int ×
                                                                                          Int ×
                                                                                            Int ×
                                                                                              Int × Int × Int × Int × Int),
                                                                                      cellsAt w1_8
                                                                                          (Addr.mk w1.heap.size (0 : Nat)
                                                                                            none)
                                                                                          [Value.int IntKind.u64 x.fst,
                                                                                            Value.int IntKind.u64 x.snd.fst,
                                                                                            Value.int IntKind.i64
                                                                                              x.snd.snd.fst,
                                                                                            Value.int IntKind.i64
                                                                                              x.snd.snd.snd.fst,
                                                                                            Value.int IntKind.u64
                                                                                              x.snd.snd.snd.snd.fst,
                                                                                            Value.int IntKind.u64
                                                                                              x.snd.snd.snd.snd.snd.fst,
                                                                                            Value.int IntKind.u64
                                                                                              x.snd.snd.snd.snd.snd.snd.fst,
                                                                                            Value.int IntKind.u64
                                                                                              x.snd.snd.snd.snd.snd.snd.snd.fst,
                                                                                            Value.int IntKind.u64
                                                                                              x.snd.snd.snd.snd.snd.snd.snd.snd] ∧
                                                                                        canSt w1_8
                                                                                            (Addr.mk w1_6.heap.size
                                                                                              (0 : Nat) none)
                                                                                            (9 : Nat) ∧
                                                                                          R_4 (1 : Int)
                                                                                            (setCells w1_8
                                                                                              (Addr.mk w1_6.heap.size
                                                                                                (0 : Nat) none)
                                                                                              (0 : Nat)
                                                                                              [Value.int IntKind.u64 x.fst,
                                                                                                Value.int IntKind.u64
                                                                                                  x.snd.fst,
                                                                                                Value.int IntKind.i64
                                                                                                  x.snd.snd.fst,
                                                                                                Value.int IntKind.i64
                                                                                                  x.snd.snd.snd.fst,
                                                                                                Value.int IntKind.u64
                                                                                                  x.snd.snd.snd.snd.fst,
                                                                                                Value.int IntKind.u64
                                                                                                  x.snd.snd.snd.snd.snd.fst,
                                                                                                Value.int IntKind.u64
                                                                                                  x.snd.snd.snd.snd.snd.snd.fst,
                                                                                                Value.int IntKind.u64
                                                                                                  x.snd.snd.snd.snd.snd.snd.snd.fst,
                                                                                                Value.int IntKind.u64
                                                                                                  x.snd.snd.snd.snd.snd.snd.snd.snd]))
                                                                                    (R_4 (0 : Int) w1_8)) ∧
                                                                          ∀ (x : Int) (j : Nat → Value) (w'_2 : World),
                                                                            R_4 x w'_2 →
                                                                              ∃ (x_8 :
                                                                                Int ×
                                                                                  Int ×
                                                                                    Int ×
                                                                                      Int × Int × Int × Int × Int × Int),
                                                                                cellsAt w'_2
                                                                                    (Addr.mk w'.heap.size (0 : Nat) none)
                                                                                    [Value.int IntKind.u64 x_8.fst,
                                                                                      Value.int IntKind.u64 x_8.snd.fst,
                                                                                      Value.int IntKind.i64 x_8.snd.snd.fst,
                                                                                      Value.int IntKind.i64
                                                                                        x_8.snd.snd.snd.fst,
                                                                                      Value.int IntKind.u64
                                                                                        x_8.snd.snd.snd.snd.fst,
                                                                                      Value.int IntKind.u64
                                                                                        x_8.snd.snd.snd.snd.snd.fst,
                                                                                      Value.int IntKind.u64
                                                                                        x_8.snd.snd.snd.snd.snd.snd.fst,
                                                                                      Value.int IntKind.u64
                                                                                        x_8.snd.snd.snd.snd.snd.snd.snd.fst,
                                                                                      Value.int IntKind.u64
                                                                                        x_8.snd.snd.snd.snd.snd.snd.snd.snd] ∧
                                                                                  CallT
                                                                                    [Ty.agg
                                                                                        [Sh.int IntKind.u64,
                                                                                          Sh.int IntKind.u64,
                                                                                          Sh.int IntKind.i64,
                                                                                          Sh.int IntKind.i64,
                                                                                          Sh.int IntKind.u64,
                                                                                          Sh.int IntKind.u64,
                                                                                          Sh.int IntKind.u64,
                                                                                          Sh.int IntKind.u64,
                                                                                          Sh.int IntKind.u64],
                                                                                      Ty.one (Sh.int IntKind.i64)]
                                                                                    Try.prog (77 : Nat)
                                                                                    [Value.agg
                                                                                        #[Value.int IntKind.u64 x_8.fst,
                                                                                          Value.int IntKind.u64 x_8.snd.fst,
                                                                                          Value.int IntKind.i64
                                                                                            x_8.snd.snd.fst,
                                                                                          Value.int IntKind.i64
                                                                                            x_8.snd.snd.snd.fst,
                                                                                          Value.int IntKind.u64
                                                                                            x_8.snd.snd.snd.snd.fst,
                                                                                          Value.int IntKind.u64
                                                                                            x_8.snd.snd.snd.snd.snd.fst,
                                                                                          Value.int IntKind.u64
                                                                                            x_8.snd.snd.snd.snd.snd.snd.fst,
                                                                                          Value.int IntKind.u64
                                                                                            x_8.snd.snd.snd.snd.snd.snd.snd.fst,
                                                                                          Value.int IntKind.u64
                                                                                            x_8.snd.snd.snd.snd.snd.snd.snd.snd],
                                                                                      Value.int IntKind.i64 e1]
                                                                                    w'_2
                                                                                    fun
                                                                                      (x_9 :
                                                                                        (Int ×
                                                                                            Int ×
                                                                                              Int ×
                                                                                                Int ×
                                                                                                  Int ×
                                                                                                    Int × Int × Int × Int) ×
                                                                                          Int)
                                                                                      (w'_3 : World) =>
                                                                                    let w1 :=
                                                                                      w'_3.alloc
                                                                                        (Obj.cells
                                                                                          #[Value.int IntKind.u64 (0 : Int),
                                                                                            Value.int IntKind.u64 (0 : Int),
                                                                                            Value.int IntKind.i64 (0 : Int),
                                                                                            Value.int IntKind.i64 (0 : Int),
                                                                                            Value.int IntKind.u64 (0 : Int),
                                                                                            Value.int IntKind.u64 (0 : Int),
                                                                                            Value.int IntKind.u64 (0 : Int),
                                                                                            Value.int IntKind.u64 (0 : Int),
                                                                                            Value.int IntKind.u64 (0 : Int)]
                                                                                          (92 : Nat));
                                                                                    canSt w1
                                                                                        (Addr.mk w'_3.heap.size (0 : Nat)
                                                                                          none)
                                                                                        (9 : Nat) ∧
                                                                                      let w1 :=
                                                                                        setCells w1
                                                                                          (Addr.mk w'_3.heap.size (0 : Nat)
                                                                                            none)
                                                                                          (0 : Nat)
                                                                                          [Value.int IntKind.u64
                                                                                              x_9.fst.fst,
                                                                                            Value.int IntKind.u64
                                                                                              x_9.fst.snd.fst,
                                                                                            Value.int IntKind.i64
                                                                                              x_9.fst.snd.snd.fst,
                                                                                            Value.int IntKind.i64
                                                                                              x_9.fst.snd.snd.snd.fst,
                                                                                            Value.int IntKind.u64
                                                                                              x_9.fst.snd.snd.snd.snd.fst,
                                                                                            Value.int IntKind.u64
                                                                                              x_9.fst.snd.snd.snd.snd.snd.fst,
                                                                                            Value.int IntKind.u64
                                                                                              x_9.fst.snd.snd.snd.snd.snd.snd.fst,
                                                                                            Value.int IntKind.u64
                                                                                              x_9.fst.snd.snd.snd.snd.snd.snd.snd.fst,
                                                                                            Value.int IntKind.u64
                                                                                              x_9.fst.snd.snd.snd.snd.snd.snd.snd.snd];
                                                                                      cnd (e1_1 == (0 : Int))
                                                                                        (∃ (x_10 :
                                                                                          Int ×
                                                                                            Int ×
                                                                                              Int ×
                                                                                                Int ×
                                                                                                  Int ×
                                                                                                    Int × Int × Int × Int),
                                                                                          cellsAt w1
                                                                                              (Addr.mk w'.heap.size
                                                                                                (0 : Nat) none)
                                                                                              [Value.int IntKind.u64
                                                                                                  x_10.fst,
                                                                                                Value.int IntKind.u64
                                                                                                  x_10.snd.fst,
                                                                                                Value.int IntKind.i64
                                                                                                  x_10.snd.snd.fst,
                                                                                                Value.int IntKind.i64
                                                                                                  x_10.snd.snd.snd.fst,
                                                                                                Value.int IntKind.u64
                                                                                                  x_10.snd.snd.snd.snd.fst,
                                                                                                Value.int IntKind.u64
                                                                                                  x_10.snd.snd.snd.snd.snd.fst,
                                                                                                Value.int IntKind.u64
                                                                                                  x_10.snd.snd.snd.snd.snd.snd.fst,
                                                                                                Value.int IntKind.u64
                                                                                                  x_10.snd.snd.snd.snd.snd.snd.snd.fst,
                                                                                                Value.int IntKind.u64
                                                                                                  x_10.snd.snd.snd.snd.snd.snd.snd.snd] ∧
                                                                                            ∃ (x_11 :
                                                                                              Int ×
                                                                                                Int ×
                                                                                                  Int ×
                                                                                                    Int ×
                                                                                                      Int ×
                                                                                                        Int ×
                                                                                                          Int × Int × Int),
                                                                                              cellsAt w1
                                                                                                  (Addr.mk w1_6.heap.size
                                                                                                    (0 : Nat) none)
                                                                                                  [Value.int IntKind.u64
                                                                                                      x_11.fst,
                                                                                                    Value.int IntKind.u64
                                                                                                      x_11.snd.fst,
                                                                                                    Value.int IntKind.i64
                                                                                                      x_11.snd.snd.fst,
                                                                                                    Value.int IntKind.i64
                                                                                                      x_11.snd.snd.snd.fst,
                                                                                                    Value.int IntKind.u64
                                                                                                      x_11.snd.snd.snd.snd.fst,
                                                                                                    Value.int IntKind.u64
                                                                                                      x_11.snd.snd.snd.snd.snd.fst,
                                                                                                    Value.int IntKind.u64
                                                                                                      x_11.snd.snd.snd.snd.snd.snd.fst,
                                                                                                    Value.int IntKind.u64
                                                                                                      x_11.snd.snd.snd.snd.snd.snd.snd.fst,
                                                                                                    Value.int IntKind.u64
                                                                                                      x_11.snd.snd.snd.snd.snd.snd.snd.snd] ∧
                                                                                                cnd
                                                                                                  (x_10.fst == x_11.fst &&
                                                                                                    (x_10.snd.fst ==
                                                                                                        x_11.snd.fst &&
                                                                                                      (x_10.snd.snd.fst ==
                                                                                                          x_11.snd.snd.fst &&
                                                                                                        (x_10.snd.snd.snd.fst ==
                                                                                                            x_11.snd.snd.snd.fst &&
                                                                                                          (x_10.snd.snd.snd.snd.fst ==
                                                                                                              x_11.snd.snd.snd.snd.fst &&
                                                                                                            (x_10.snd.snd.snd.snd.snd.fst ==
                                                                                                                x_11.snd.snd.snd.snd.snd.fst &&
                                                                                                              (x_10.snd.snd.snd.snd.snd.snd.fst ==
                                                                                                                  x_11.snd.snd.snd.snd.snd.snd.fst &&
                                                                                                                (x_10.snd.snd.snd.snd.snd.snd.snd.fst ==
                                                                                                                    x_11.snd.snd.snd.snd.snd.snd.snd.fst &&
                                                                                                                  (x_10.snd.snd.snd.snd.snd.snd.snd.snd ==
                                                                                                                      x_11.snd.snd.snd.snd.snd.snd.snd.snd &&
                                                                                                                    true)))))))))
                                                                                                  (cnd (e1 == x)
                                                                                                    (∃ (x_12 : Int),
                                                                                                      w1.cell?
                                                                                                            ((Addr.mk
                                                                                                                  w'_3.heap.size
                                                                                                                  (0 : Nat)
                                                                                                                  none).add
                                                                                                              (0 : Nat)) =
                                                                                                          some
                                                                                                            (Value.int
                                                                                                              IntKind.u64
                                                                                                              x_12) ∧
                                                                                                        ∃ (x_13 : Int),
                                                                                                          w1.cell?
                                                                                                                ((Addr.mk
                                                                                                                      w1_6.heap.size
                                                                                                                      (0 :
                                                                                                                        Nat)
                                                                                                                      none).add
                                                                                                                  (0 :
                                                                                                                    Nat)) =
                                                                                                              some
                                                                                                                (Value.int
                                                                                                                  IntKind.u64
                                                                                                                  x_13) ∧
                                                                                                            cnd
                                                                                                              (x_12 ==
                                                                                                                IntKind.u64.wrap
                                                                                                                  (x_13 +
                                                                                                                    (1 :
                                                                                                                      Int)))
                                                                                                              (cnd
                                                                                                                (x_9.snd ==
                                                                                                                  IntKind.i64.wrap
                                                                                                                    ((1 :
                                                                                                                        Int) -
                                                                                                                      x))
                                                                                                                (∃ (x :
                                                                                                                  Int),
                                                                                                                  w1.cell?
                                                                                                                        ((Addr.mk
                                                                                                                              w'_3.heap.size
                                                                                                                              (0 :
                                                                                                                                Nat)
                                                                                                                              none).add
                                                                                                                          (5 :
                                                                                                                            Nat)) =
                                                                                                                      some
                                                                                                                        (Value.int
                                                                                                                          IntKind.u64
                                                                                                                          x) ∧
                                                                                                                    ∃ (x_14
                                                                                                                      :
                                                                                                                      Int),
                                                                                                                      w1.cell?
                                                                                                                            ((Addr.mk
                                                                                                                                  w'.heap.size
                                                                                                                                  (0 :
                                                                                                                                    Nat)
                                                                                                                                  none).add
                                                                                                                              (5 :
                                                                                                                                Nat)) =
                                                                                                                          some
                                                                                                                            (Value.int
                                                                                                                              IntKind.u64
                                                                                                                              x_14) ∧
                                                                                                                        R
                                                                                                                          (x ==
                                                                                                                            x_14)
                                                                                                                          w1)
                                                                                                                (R false
                                                                                                                  w1))
                                                                                                              (R false w1))
                                                                                                    (R false w1))
                                                                                                  (R false w1))
                                                                                        (R false w1)))
  : CallT [Ty.one Sh.bool] Try.prog 18 [Value.agg
    #[Value.int IntKind.u64 x0.fst, Value.int IntKind.u64 x0.snd.fst, Value.int IntKind.i64 x0.snd.snd.fst,
      Value.int IntKind.i64 x0.snd.snd.snd.fst, Value.int IntKind.u64 x0.snd.snd.snd.snd.fst,
      Value.int IntKind.u64 x0.snd.snd.snd.snd.snd.fst, Value.int IntKind.u64 x0.snd.snd.snd.snd.snd.snd.fst,
      Value.int IntKind.u64 x0.snd.snd.snd.snd.snd.snd.snd.fst,
      Value.int IntKind.u64 x0.snd.snd.snd.snd.snd.snd.snd.snd],
  Value.agg
    #[Value.int IntKind.u64 x1.fst, Value.int IntKind.u64 x1.snd.fst, Value.int IntKind.i64 x1.snd.snd.fst,
      Value.int IntKind.i64 x1.snd.snd.snd.fst, Value.int IntKind.u64 x1.snd.snd.snd.snd.fst,
      Value.int IntKind.u64 x1.snd.snd.snd.snd.snd.fst, Value.int IntKind.u64 x1.snd.snd.snd.snd.snd.snd.fst,
      Value.int IntKind.u64 x1.snd.snd.snd.snd.snd.snd.snd.fst,
      Value.int IntKind.u64 x1.snd.snd.snd.snd.snd.snd.snd.snd],
  Value.bool b2] w R :=
  fnV_sound (h := HT.z.sq
  (HT.z.sq
    (HT.z.sq
      (HT.z.sq
        (HT.jn [] (HT.jn [((45 : Nat), Ty.one Sh.bool)] HT.z HT.z)
          (HT.z.sq
            (HT.z.sq
              (HT.jn [] HT.z
                (HT.jn [((7 : Nat), Ty.one Sh.slice), ((9 : Nat), Ty.one Sh.slice)]
                  (HT.z.sq ((HT.rg (6 : Nat)).cd HT.z))
                  (HT.z.sq (HT.z.sq (HT.z.sq (HT.jn [((22 : Nat), Ty.one (Sh.int IntKind.i64))] HT.z HT.z))))))))))))) Try.func18 (by kernel_rfl) (by kernel_rfl) (Eq.mp (by kernel_rfl) h)

end Go.Proofs
/- dunnagelaw27.ManifestTurns: of two manifests in two slots the later one counts. Conditions: what came in is of the sizes that the form allows. -/
namespace Go.Proofs
open Go Go.Vc Go.Crc
theorem allZ_rep (n : Nat) : allZ (List.replicate n 0) = true := by simp [allZ]
theorem B8_rep (n : Nat) : B8 (List.replicate n 0) = List.replicate n (Value.int .u8 0) := by simp [B8]
theorem zeros_blank : readM (List.replicate 512 0) = (Man.z, 270) := by
  have h : openR (List.replicate 512 (0 : UInt8)) = ((0, 0, []), 0) := openR_zero List.length_replicate (allZ_rep 512)
  exact readM_blank (by rw [h]) (by rw [h])
theorem ok5 {m : Man} (h : May m) : ¬ ((readM (wrM m)).2 = 5 ∨ (readM (wrM m)).2 = 11) := by rw [readM_wr h]; simp
theorem ok270 {m : Man} (h : May m) : ¬ (readM (wrM m)).2 = 270 := by rw [readM_wr h]; simp
theorem ch_one {m : Man} (h : May m) : chooseM (wrM m) (List.replicate 512 0) = (m, 0, 0) := by
  rw [ch5 (ok5 h) (by rw [zeros_blank]; decide) (ok270 h) (by rw [zeros_blank]), readM_wr h]
theorem ch_two {m : Man} (h : May m) : chooseM (List.replicate 512 0) (wrM m) = (m, 1, 0) := by
  rw [ch4 (by rw [zeros_blank]; decide) (ok5 h) (fun g => ok270 h g.2) (by rw [zeros_blank]), readM_wr h]
theorem ch_same {m k : Man} (h : May m) (g : May k) (ht : m.turn = k.turn) : chooseM (wrM m) (wrM k) = (Man.z, 0, 11) :=
  ch6 (by rw [readM_wr h]; simp) (by rw [readM_wr g]; simp) (by rw [readM_wr h]; simp) (by rw [readM_wr g]; simp) (by rw [readM_wr h, readM_wr g]; exact ht)
theorem ch_first {m k : Man} (h : May m) (g : May k) (ht : k.turn < m.turn) : chooseM (wrM m) (wrM k) = (m, 0, 0) := by
  rw [ch7 (by rw [readM_wr h]; simp) (by rw [readM_wr g]; simp) (by rw [readM_wr h]; simp) (by rw [readM_wr g]; simp) (by rw [readM_wr h, readM_wr g]; simp only; omega) (by rw [readM_wr h, readM_wr g]; exact ht), readM_wr h]
theorem ch_second {m k : Man} (h : May m) (g : May k) (ht : m.turn < k.turn) : chooseM (wrM m) (wrM k) = (k, 1, 0) := by
  rw [ch8 (by rw [readM_wr h]; simp) (by rw [readM_wr g]; simp) (by rw [readM_wr h]; simp) (by rw [readM_wr g]; simp) (by rw [readM_wr h, readM_wr g]; simp only; omega) (by rw [readM_wr h, readM_wr g]; simp only; omega), readM_wr g]
set_option maxRecDepth 100000 in
set_option maxHeartbeats 2000000 in
theorem dunnagelaw27_ManifestTurns.spec {w : World} {m k : Man} (hu : U9 m) (hv : U9 k) (flip : Bool) :
    CallT [.one .bool] Try.prog F.dunnagelaw27_ManifestTurns [.agg (m9v m.t).toArray, .agg (m9v k.t).toArray, .bool flip] w fun r w' => r = true ∧ Ext w w' := by
  refine dunnagelaw27_ManifestTurns.vc m.t k.t flip w _ ?_
  generalize hc1 : w.alloc _ = w1
  obtain ⟨b1, e1, z1⟩ := bk_new (T := T.api_Manifest) (vs := m9v m.t) hc1
  dsimp only
  generalize hc2 : w1.alloc _ = w2
  obtain ⟨d2, e2, z2⟩ := bk_new (T := T.api_Manifest) (vs := m9v k.t) hc2
  have b2 := b1.ext e2
  have f2 := e1.tr e2
  refine ⟨m.t, b2.all, CallT.mono (manifest_Write.spec hu w2) ?_⟩
  rintro ⟨x, ex⟩ w3 ⟨hx, hex, e3⟩
  refine ⟨k.t, (d2.ext e3).all, CallT.mono (manifest_Write.spec hv w3) ?_⟩
  rintro ⟨y, ey⟩ w4 ⟨hy, hey, e4⟩
  dsimp only at hx hex hy hey ⊢
  refine mkSV_own (bt := 1) (sz := 1) sl_u8 (by kernel_rfl) (by kernel_rfl) u8_z rfl (by decide) (by decide) (by decide) (by decide) ?_
  rw [show Int.toNat 512 = 512 from rfl, reps_eq]
  have hz0 : OwnB (w4.alloc (.cells (List.replicate 512 (Value.int .u8 0)).toArray T.uint8)) w4.heap.size ⟨some ⟨w4.heap.size, 0, none⟩, 512, 512⟩ (List.replicate 512 0) := by
    have h := Own.new w4 T.uint8 1 512 (List.replicate 512 (Value.int .u8 0)) (by rw [List.length_replicate])
    rw [OwnB, B8_rep]
    exact h
  have e5 := ext_alloc w4 (.cells (List.replicate 512 (Value.int .u8 0)).toArray T.uint8)
  generalize w4.alloc (.cells (List.replicate 512 (Value.int .u8 0)).toArray T.uint8) = w5 at *
  have e25 := (e3.tr e4).tr e5
  have f5 := f2.tr e25
  refine ⟨fun _ v => Ext w5 v ∧ May m ∧ May k, ⟨fun b v => Ext w5 v ∧ (b = false → May m ∧ May k), CallT.mono (awake27.spec w5) ?_, ?_⟩, ?_⟩
  · rintro _ w6 ⟨rfl, e6⟩
    refine cnd_neg rfl (cnd_bne (fun h => ⟨e6, by simp⟩) fun h => ⟨e6, fun hq => ⟨?_, ?_⟩⟩)
    · by_cases hm : May m
      · exact hm
      · rw [hex, writeM, if_neg hm] at h; exact absurd h (by decide)
    · by_cases hm : May k
      · exact hm
      · rw [hey, writeM, if_neg hm] at hq; exact absurd hq (by decide)
  · rintro b _ w6 ⟨e6, hb⟩
    cases b with
    | false => exact cnd_neg rfl ⟨e6, hb rfl⟩
    | true =>
      refine cnd_pos rfl (CallT.mono (awake27.spec w6) ?_)
      rintro _ w7 ⟨rfl, e7⟩
      exact ⟨rfl, (f5.tr e6).tr e7⟩
  rintro _ _ w6 ⟨e6, hm, hk⟩
  rw [writeM, if_pos hm] at hx
  rw [writeM, if_pos hk] at hy
  dsimp only at hx hy
  have lm := wrM_len hm
  have lk := wrM_len hk
  have lz : (List.replicate 512 (0 : UInt8)).length = 512 := List.length_replicate
  have hx6 := ((hx.rd.ext e4).ext e5).ext e6
  have hy6 := (hy.rd.ext e5).ext e6
  have hz6 := hz0.rd.ext e6
  have f6 := f5.tr e6
  refine CallT.mono (manifest_Choose.spec hx6 hx.cap (by omega) hz6 (Nat.le_refl _) (by omega)) ?_
  rintro ⟨c1, i1, r1⟩ w7 ⟨hc1', hi1, hr1, e7⟩
  rw [ch_one hm] at hc1' hi1 hr1
  dsimp only at hc1' hi1 hr1 ⊢
  subst hc1' hi1 hr1
  generalize ha8 : w7.alloc _ = w8
  generalize hd8 : setCells w8 _ 0 _ = w9
  obtain ⟨c9, b9, e9, z9⟩ := bk_mk (T := T.api_Manifest) (z := zMan) (vs := m9v m.t) ha8 hd8 rfl
  have e69 := e7.tr e9
  refine ⟨c9, CallT.mono (manifest_Choose.spec (hz6.ext e69) (Nat.le_refl _) (by omega) (hx6.ext e69) hx.cap (by omega)) ?_⟩
  rintro ⟨c2, i2, r2⟩ w10 ⟨hc2', hi2, hr2, e10⟩
  rw [ch_two hm] at hc2' hi2 hr2
  dsimp only at hc2' hi2 hr2 ⊢
  subst hc2' hi2 hr2
  generalize ha11 : w10.alloc _ = w11
  generalize hd11 : setCells w11 _ 0 _ = w12
  obtain ⟨c12, b12, e12, z12⟩ := bk_mk (T := T.api_Manifest) (z := zMan) (vs := m9v m.t) ha11 hd11 rfl
  have e612 := (e69.tr e10).tr e12
  have e212 := (e25.tr e6).tr e612
  have hA := b2.ext e212
  have hB := d2.ext e212
  have f12 := f6.tr e612
  have hx12 := hx6.ext e612
  have hy12 := hy6.ext e612
  have lA := b1.lt
  have lB := d2.lt
  have s3 := e3.size
  have hxA : ∀ c, x.blk c → c ≠ w.heap.size ∧ c ≠ w1.heap.size := fun c hc => by have := (hx.new c hc).1; omega
  have hyA : ∀ c, y.blk c → c ≠ w.heap.size ∧ c ≠ w1.heap.size := fun c hc => by have := (hy.new c hc).1; omega
  refine ⟨c12, fun _ v => w12 = v, cnd_neg rfl (cnd_neg rfl ⟨m.t, ((b9.ext e10).ext e12).all, m.t, hA.all, cnd_neg (by rw [meq_self]; rfl) ⟨m.t, b12.all, m.t, hA.all, cnd_neg (by rw [meq_self]; rfl) (cnd_neg rfl (cnd_neg rfl rfl))⟩⟩), ?_⟩
  rintro _ _ _ rfl
  refine ⟨fun t v => ∃ m1 k1 : Man, May m1 ∧ May k1 ∧ BK v w.heap.size T.api_Manifest (m9v m1.t) ∧ BK v w1.heap.size T.api_Manifest (m9v k1.t) ∧ RdB v t.1 (wrM m1) ∧ t.1.len ≤ t.1.cap ∧ RdB v t.2 (wrM k1) ∧ t.2.len ≤ t.2.cap ∧ Ext w v, cnd_intro (fun _ => ?_) (fun _ => ⟨m, k, hm, hk, hA, hB, hx12, hx.cap, hy12, hy.cap, f12⟩), ?_⟩
  · have ed := ext_drew w12
    have hAd := hA.ext ed
    have hBd := hB.ext ed
    have hxd := hx12.ext ed
    have hyd := hy12.ext ed
    have fd := f12.tr ed
    generalize w12.drew = w13 at *
    refine ⟨k.t, hBd.all, m.t, hAd.all, hAd.can (by simp), ?_⟩
    have g1 : BK (setCells w13 ⟨w.heap.size, 0, none⟩ 0 (m9v k.t)) w.heap.size T.api_Manifest (m9v k.t) := hAd.set (by simp)
    have g2 : BK (setCells w13 ⟨w.heap.size, 0, none⟩ 0 (m9v k.t)) w1.heap.size T.api_Manifest (m9v k.t) := hBd.sets_ne (A := ⟨w.heap.size, 0, none⟩) (by show w1.heap.size ≠ w.heap.size; omega) 0 _
    have u1 : Upd (fun x => x = w.heap.size) w13 (setCells w13 ⟨w.heap.size, 0, none⟩ 0 (m9v k.t)) := (Upd.refl (fun x => x = w.heap.size) w13).setCells (p := ⟨w.heap.size, 0, none⟩) (fun _ => rfl) 0 _
    generalize setCells w13 ⟨w.heap.size, 0, none⟩ 0 _ = w14 at *
    refine ⟨g2.can (by simp), k, m, hk, hm, g1.sets_ne (A := ⟨w1.heap.size, 0, none⟩) (by show w.heap.size ≠ w1.heap.size; omega) 0 _, g2.set (by simp), ?_⟩
    have u2 : Upd (fun x => x = w1.heap.size) w14 (setCells w14 ⟨w1.heap.size, 0, none⟩ 0 (m9v m.t)) := (Upd.refl (fun x => x = w1.heap.size) w14).setCells (p := ⟨w1.heap.size, 0, none⟩) (fun _ => rfl) 0 _
    refine ⟨(hyd.upd u1 fun c hc h => (hyA c hc).1 h).upd u2 fun c hc h => (hyA c hc).2 h, hy.cap, (hxd.upd u1 fun c hc h => (hxA c hc).1 h).upd u2 fun c hc h => (hxA c hc).2 h, hx.cap, ?_⟩
    exact (fd.trans u1 fun c hc h => by omega).trans u2 fun c hc h => by omega
  rintro ⟨p, q⟩ _ w13 ⟨m1, k1, hm1, hk1, gA, gB, gp, gpc, gq, gqc, f13⟩
  have l1 := wrM_len hm1
  have l2 := wrM_len hk1
  have hw1 := hm1.u9
  refine CallT.mono (manifest_Choose.spec gp gpc (by omega) gq gqc (by omega)) ?_
  rintro ⟨c3, i3, r3⟩ w14 ⟨hc3, hi3, hr3, e14⟩
  dsimp only at hc3 hi3 hr3 ⊢
  subst hc3 hi3 hr3
  generalize ha15 : w14.alloc _ = w15
  generalize hd15 : setCells w15 _ 0 _ = w16
  obtain ⟨c16, b16, e16, z16⟩ := bk_mk (T := T.api_Manifest) (z := zMan) (vs := m9v (chooseM (wrM m1) (wrM k1)).1.t) ha15 hd15 rfl
  have gA16 := (gA.ext e14).ext e16
  have gB16 := (gB.ext e14).ext e16
  have f16 := (f13.tr e14).tr e16
  refine ⟨c16, (m1.turn : Int), gA16.get 0 rfl, (k1.turn : Int), gB16.get 0 rfl, cnd_beq (fun ht => ?_) (fun ht => ?_)⟩
  · rw [ch_same hm1 hk1 (by omega)] at b16 ⊢
    exact cnd_pos rfl ⟨Man.z.t, b16.all, cnd_pos (by decide) ⟨rfl, f16⟩⟩
  refine ⟨m1.t, gA16.all, ?_⟩
  generalize ha17 : w16.alloc _ = w17
  generalize hd17 : setCells w17 _ 0 _ = w18
  obtain ⟨c18, b18, e18, z18⟩ := bk_mk (T := T.api_Manifest) (z := zMan) (vs := m9v m1.t) ha17 hd17 rfl
  have gA18 := gA16.ext e18
  have gB18 := gB16.ext e18
  have b1618 := b16.ext e18
  have f18 := f16.tr e18
  have hlt16 := b16.lt
  have lw16 : w.heap.size < w16.heap.size := gA16.lt
  refine ⟨c18, fun at_ v => ∃ c : Man, May c ∧ (at_ = 0 ∨ at_ = 1) ∧ chooseM (wrM m1) (wrM k1) = (c, at_, 0) ∧ BK v w14.heap.size T.api_Manifest (m9v c.t) ∧ BK v w16.heap.size T.api_Manifest (m9v c.t) ∧ Ext w v, ⟨(k1.turn : Int), gB18.get 0 rfl, (m1.turn : Int), gA18.get 0 rfl, cnd_dec (fun hgt => ?_) (fun hle => ?_)⟩, ?_⟩
  · have hch := ch_second hm1 hk1 (by omega)
    rw [hch] at b1618
    refine ⟨k1.t, gB18.all, b18.can (by simp), k1, hk1, .inr rfl, hch, ?_, b18.set (by simp), ?_⟩
    · exact b1618.sets_ne (A := ⟨w16.heap.size, 0, none⟩) (by show w14.heap.size ≠ w16.heap.size; omega) 0 _
    · exact f18.setCells (p := ⟨w16.heap.size, 0, none⟩) (fun h => by have h' : w16.heap.size < w.heap.size := h; omega) 0 _
  · have hch := ch_first hm1 hk1 (by omega)
    rw [hch] at b1618
    exact ⟨m1, hm1, .inl rfl, hch, b1618, b18, f18⟩
  rintro at_ _ w19 ⟨c, hc, hat, hch, g14, g16, f19⟩
  rw [hch]
  dsimp only
  refine ⟨c.t, g14.all, CallT.mono (manifest_Next.spec c at_ w19) ?_⟩
  rintro ⟨n, ni⟩ w20 ⟨hn, hni, e20⟩
  rw [nextM_yes hc] at hn hni
  dsimp only at hn hni ⊢
  subst hn hni
  generalize ha21 : w20.alloc _ = w21
  generalize hd21 : setCells w21 _ 0 _ = w22
  obtain ⟨c22, b22, e22, z22⟩ := bk_mk (T := T.api_Manifest) (z := zMan) (vs := m9v ({ c with turn := c.turn + 1 } : Man).t) ha21 hd21 rfl
  have g14' := (g14.ext e20).ext e22
  have g16' := (g16.ext e20).ext e22
  have f22 := (f19.tr e20).tr e22
  have hcw := hc
  unfold May at hcw
  have hw : IntKind.u64.wrap ((c.turn : Int) + 1) = ((c.turn + 1 : Nat) : Int) := by rw [u64_mod]; omega
  refine ⟨c22, cnd_pos rfl ⟨c.t, g14'.all, c.t, g16'.all, cnd_pos (meq_self _) (cnd_pos (by simp) ⟨((c.turn + 1 : Nat) : Int), b22.get 0 rfl, (c.turn : Int), g16'.get 0 rfl, cnd_pos (by rw [hw]; simp) (cnd_pos ?_ ⟨(c.log : Int), b22.get 5 rfl, (c.log : Int), g14'.get 5 rfl, by simp, f22⟩)⟩)⟩⟩
  rcases hat with rfl | rfl <;> decide
theorem dunnagelaw27_ManifestTurns.row {w : World} {bd : TypeId → Nat → Prop} {bs : Nat → Prop} {a0 a1 : Array Value} (flip : Bool)
    (h : DS.rel w bd bs (.struct (.cons 0 1 (.int .u64) (.cons 1 1 (.int .u64) (.cons 2 1 (.int .i64) (.cons 3 1 (.int .i64) (.cons 4 1 (.int .u64) (.cons 5 1 (.int .u64) (.cons 6 1 (.int .u64) (.cons 7 1 (.int .u64) (.cons 8 1 (.int .u64) .nil)))))))))) a0.toList) (g : a0.size = 9)
    (h' : DS.rel w bd bs (.struct (.cons 0 1 (.int .u64) (.cons 1 1 (.int .u64) (.cons 2 1 (.int .i64) (.cons 3 1 (.int .i64) (.cons 4 1 (.int .u64) (.cons 5 1 (.int .u64) (.cons 6 1 (.int .u64) (.cons 7 1 (.int .u64) (.cons 8 1 (.int .u64) .nil)))))))))) a1.toList) (g' : a1.size = 9) :
    CallT [.one .bool] Try.prog F.dunnagelaw27_ManifestTurns [.agg a0, .agg a1, .bool flip] w fun r w' => r = true ∧ Ext w w' := by
  obtain ⟨m, rfl, hu⟩ := man_rel h g
  obtain ⟨k, rfl, hv⟩ := man_rel h' g'
  exact dunnagelaw27_ManifestTurns.spec hu hv flip
end Go.Proofs
/- The conditions of the seat's functions, written by a program (VcTool, genvc.py) off 'vc' reduced; each is tied to 'vc' by the kernel. Conditions: none. -/
set_option linter.unusedVariables false
set_option maxRecDepth 100000
namespace Go.Proofs
open Go Go.Vc
/-- dunnage/dunnagelaw27.ManifestStands -/
theorem dunnagelaw27_ManifestStands.vc (x0 : Int × Int × Int × Int × Int × Int × Int × Int × Int) (n1 : Int) (n2 : Int) (s3 : SV) (w : World) (R : Bool → World → Prop)
  (h : CallT [Ty.one Sh.ptr, Ty.one (Sh.int IntKind.i64)] Try.prog (37 : Nat) [Value.int IntKind.i64 (2 : Int)]
      (w.alloc
        (Obj.cells
          #[Value.int IntKind.u64 x0.fst, Value.int IntKind.u64 x0.snd.fst, Value.int IntKind.i64 x0.snd.snd.fst,
            Value.int IntKind.i64 x0.snd.snd.snd.fst, Value.int IntKind.u64 x0.snd.snd.snd.snd.fst,
            Value.int IntKind.u64 x0.snd.snd.snd.snd.snd.fst, Value.int IntKind.u64 x0.snd.snd.snd.snd.snd.snd.fst,
            Value.int IntKind.u64 x0.snd.snd.snd.snd.snd.snd.snd.fst,
            Value.int IntKind.u64 x0.snd.snd.snd.snd.snd.snd.snd.snd]
          (92 : Nat)))
      fun (x : Option Addr × Int) (w' : World) =>
      ∃ (R_1 : PUnit → World → Prop),
        (∃ (R_2 : Bool → World → Prop),
            (CallT [Ty.one Sh.bool] Try.prog (69 : Nat) [] w' fun (x_1 : Bool) (w' : World) =>
                cnd (!x_1) (R_2 true w')
                  (cnd (Option.isNone x.fst) (R_2 true w')
                    (∃ (x : Int × Int × Int × Int × Int × Int × Int × Int × Int),
                      cellsAt w' (Addr.mk w.heap.size (0 : Nat) none)
                          [Value.int IntKind.u64 x.fst, Value.int IntKind.u64 x.snd.fst,
                            Value.int IntKind.i64 x.snd.snd.fst, Value.int IntKind.i64 x.snd.snd.snd.fst,
                            Value.int IntKind.u64 x.snd.snd.snd.snd.fst, Value.int IntKind.u64 x.snd.snd.snd.snd.snd.fst,
                            Value.int IntKind.u64 x.snd.snd.snd.snd.snd.snd.fst,
                            Value.int IntKind.u64 x.snd.snd.snd.snd.snd.snd.snd.fst,
                            Value.int IntKind.u64 x.snd.snd.snd.snd.snd.snd.snd.snd] ∧
                        CallT [Ty.one Sh.bool] Try.prog (70 : Nat)
                          [Value.agg
                              #[Value.int IntKind.u64 x.fst, Value.int IntKind.u64 x.snd.fst,
                                Value.int IntKind.i64 x.snd.snd.fst, Value.int IntKind.i64 x.snd.snd.snd.fst,
                                Value.int IntKind.u64 x.snd.snd.snd.snd.fst,
                                Value.int IntKind.u64 x.snd.snd.snd.snd.snd.fst,
                                Value.int IntKind.u64 x.snd.snd.snd.snd.snd.snd.fst,
                                Value.int IntKind.u64 x.snd.snd.snd.snd.snd.snd.snd.fst,
                                Value.int IntKind.u64 x.snd.snd.snd.snd.snd.snd.snd.snd]]
                          w' fun (x : Bool) (w' : World) =>
                          cnd (!x) (R_2 true w')
                            (∃ (x : Int),
                              w'.cell? ((Addr.mk w.heap.size (0 : Nat) none).add (0 : Nat)) =
                                  some (Value.int IntKind.u64 x) ∧
                                R_2 (decide (x > (2305843009213693952 : Int))) w')))) ∧
              ∀ (x : Bool) (j : Nat → Value) (w' : World),
                R_2 x w' →
                  cnd x (CallT [Ty.one Sh.bool] Try.prog (69 : Nat) [] w' fun (x : Bool) (w' : World) => R x w')
                    (R_1 () w')) ∧
          ∀ (x_1 : PUnit) (j : Nat → Value) (w' : World),
            R_1 x_1 w' →
              ∃ (I : Nat → Int × Int → World → Prop),
                (∃ (n : Nat),
                    I n ((1 : Int), (0 : Int))
                      (w'.alloc
                        (Obj.cells
                          #[Value.int IntKind.u64 (0 : Int), Value.int IntKind.u64 (0 : Int),
                            Value.int IntKind.i64 (0 : Int), Value.int IntKind.i64 (0 : Int),
                            Value.int IntKind.u64 (0 : Int), Value.int IntKind.u64 (0 : Int),
                            Value.int IntKind.u64 (0 : Int), Value.int IntKind.u64 (0 : Int),
                            Value.int IntKind.u64 (0 : Int)]
                          (92 : Nat)))) ∧
                  ∀ (n : Nat) (x_2 : Int × Int) (j : Nat → Value) (w'_1 : World),
                    I n x_2 w'_1 →
                      let e1 := x_2.snd;
                      cnd (decide (e1 ≤ IntKind.i64.wrap ((IntKind.u64.wrap n1).tmod (6 : Int))))
                        (∃ (x_3 : Int × Int × Int × Int × Int × Int × Int × Int × Int),
                          cellsAt w'_1 (Addr.mk w.heap.size (0 : Nat) none)
                              [Value.int IntKind.u64 x_3.fst, Value.int IntKind.u64 x_3.snd.fst,
                                Value.int IntKind.i64 x_3.snd.snd.fst, Value.int IntKind.i64 x_3.snd.snd.snd.fst,
                                Value.int IntKind.u64 x_3.snd.snd.snd.snd.fst,
                                Value.int IntKind.u64 x_3.snd.snd.snd.snd.snd.fst,
                                Value.int IntKind.u64 x_3.snd.snd.snd.snd.snd.snd.fst,
                                Value.int IntKind.u64 x_3.snd.snd.snd.snd.snd.snd.snd.fst,
                                Value.int IntKind.u64 x_3.snd.snd.snd.snd.snd.snd.snd.snd] ∧
                            CallT
                              [Ty.agg
                                  [Sh.int IntKind.u64, Sh.int IntKind.u64, Sh.int IntKind.i64, Sh.int IntKind.i64,
                                    Sh.int IntKind.u64, Sh.int IntKind.u64, Sh.int IntKind.u64, Sh.int IntKind.u64,
                                    Sh.int IntKind.u64],
                                Ty.one (Sh.int IntKind.i64)]
                              Try.prog (77 : Nat)
                              [Value.agg
                                  #[Value.int IntKind.u64 x_3.fst, Value.int IntKind.u64 x_3.snd.fst,
                                    Value.int IntKind.i64 x_3.snd.snd.fst, Value.int IntKind.i64 x_3.snd.snd.snd.fst,
                                    Value.int IntKind.u64 x_3.snd.snd.snd.snd.fst,
                                    Value.int IntKind.u64 x_3.snd.snd.snd.snd.snd.fst,
                                    Value.int IntKind.u64 x_3.snd.snd.snd.snd.snd.snd.fst,
                                    Value.int IntKind.u64 x_3.snd.snd.snd.snd.snd.snd.snd.fst,
                                    Value.int IntKind.u64 x_3.snd.snd.snd.snd.snd.snd.snd.snd],
                                Value.int IntKind.i64 x_2.fst]
                              w'_1 fun (x_4 : (Int × Int × Int × Int × Int × Int × Int × Int × Int) × Int) (w'_2 : World) =>
                              let e1 := x_4.snd;
                              canSt w'_2 (Addr.mk w.heap.size (0 : Nat) none) (9 : Nat) ∧
                                let w1 :=
                                  setCells w'_2 (Addr.mk w.heap.size (0 : Nat) none) (0 : Nat)
                                    [Value.int IntKind.u64 x_4.fst.fst, Value.int IntKind.u64 x_4.fst.snd.fst,
                                      Value.int IntKind.i64 x_4.fst.snd.snd.fst,
                                      Value.int IntKind.i64 x_4.fst.snd.snd.snd.fst,
                                      Value.int IntKind.u64 x_4.fst.snd.snd.snd.snd.fst,
                                      Value.int IntKind.u64 x_4.fst.snd.snd.snd.snd.snd.fst,
                                      Value.int IntKind.u64 x_4.fst.snd.snd.snd.snd.snd.snd.fst,
                                      Value.int IntKind.u64 x_4.fst.snd.snd.snd.snd.snd.snd.snd.fst,
                                      Value.int IntKind.u64 x_4.fst.snd.snd.snd.snd.snd.snd.snd.snd];
                                (w1.cell? ((Addr.mk w.heap.size (0 : Nat) none).add (7 : Nat))).isSome = true ∧
                                  w1.frozen? ((Addr.mk w.heap.size (0 : Nat) none).add (7 : Nat)) = false ∧
                                    let w1 :=
                                      w1.setCell ((Addr.mk w.heap.size (0 : Nat) none).add (7 : Nat))
                                        (Value.int IntKind.u64 (IntKind.u64.wrap x_2.snd));
                                    ∃ (x_5 : Int × Int × Int × Int × Int × Int × Int × Int × Int),
                                      cellsAt w1 (Addr.mk w.heap.size (0 : Nat) none)
                                          [Value.int IntKind.u64 x_5.fst, Value.int IntKind.u64 x_5.snd.fst,
                                            Value.int IntKind.i64 x_5.snd.snd.fst,
                                            Value.int IntKind.i64 x_5.snd.snd.snd.fst,
                                            Value.int IntKind.u64 x_5.snd.snd.snd.snd.fst,
                                            Value.int IntKind.u64 x_5.snd.snd.snd.snd.snd.fst,
                                            Value.int IntKind.u64 x_5.snd.snd.snd.snd.snd.snd.fst,
                                            Value.int IntKind.u64 x_5.snd.snd.snd.snd.snd.snd.snd.fst,
                                            Value.int IntKind.u64 x_5.snd.snd.snd.snd.snd.snd.snd.snd] ∧
                                        CallT [Ty.one Sh.slice, Ty.one (Sh.int IntKind.i64)] Try.prog (68 : Nat)
                                          [Value.agg
                                              #[Value.int IntKind.u64 x_5.fst, Value.int IntKind.u64 x_5.snd.fst,
                                                Value.int IntKind.i64 x_5.snd.snd.fst,
                                                Value.int IntKind.i64 x_5.snd.snd.snd.fst,
                                                Value.int IntKind.u64 x_5.snd.snd.snd.snd.fst,
                                                Value.int IntKind.u64 x_5.snd.snd.snd.snd.snd.fst,
                                                Value.int IntKind.u64 x_5.snd.snd.snd.snd.snd.snd.fst,
                                                Value.int IntKind.u64 x_5.snd.snd.snd.snd.snd.snd.snd.fst,
                                                Value.int IntKind.u64 x_5.snd.snd.snd.snd.snd.snd.snd.snd]]
                                          w1 fun (x_6 : SV × Int) (w'_3 : World) =>
                                          cnd (x_6.snd != (0 : Int)) (R false w'_3)
                                            (CallT [Ty.one (Sh.int IntKind.i64)] Try.prog (41 : Nat)
                                              [Value.pointer x.fst, Value.int IntKind.i64 e1,
                                                Value.slice x_6.fst.a x_6.fst.len x_6.fst.cap]
                                              w'_3 fun (x_7 : Int) (w'_4 : World) =>
                                              cnd (x_7 != (0 : Int)) (R false w'_4)
                                                (CallT [Ty.one (Sh.int IntKind.i64)] Try.prog (40 : Nat)
                                                  [Value.pointer x.fst] w'_4 fun (x : Int) (w'_5 : World) =>
                                                  cnd (x != (0 : Int)) (R false w'_5)
                                                    (∃ (x : Int × Int × Int × Int × Int × Int × Int × Int × Int),
                                                      cellsAt w'_5 (Addr.mk w.heap.size (0 : Nat) none)
                                                          [Value.int IntKind.u64 x.fst, Value.int IntKind.u64 x.snd.fst,
                                                            Value.int IntKind.i64 x.snd.snd.fst,
                                                            Value.int IntKind.i64 x.snd.snd.snd.fst,
                                                            Value.int IntKind.u64 x.snd.snd.snd.snd.fst,
                                                            Value.int IntKind.u64 x.snd.snd.snd.snd.snd.fst,
                                                            Value.int IntKind.u64 x.snd.snd.snd.snd.snd.snd.fst,
                                                            Value.int IntKind.u64 x.snd.snd.snd.snd.snd.snd.snd.fst,
                                                            Value.int IntKind.u64 x.snd.snd.snd.snd.snd.snd.snd.snd] ∧
                                                        canSt w'_5 (Addr.mk w'.heap.size (0 : Nat) none) (9 : Nat) ∧
                                                          ∃ (m : Nat),
                                                            m < n ∧
                                                              I m (e1, IntKind.i64.wrap (x_2.snd + (1 : Int)))
                                                                (setCells w'_5 (Addr.mk w'.heap.size (0 : Nat) none)
                                                                  (0 : Nat)
                                                                  [Value.int IntKind.u64 x.fst,
                                                                    Value.int IntKind.u64 x.snd.fst,
                                                                    Value.int IntKind.i64 x.snd.snd.fst,
                                                                    Value.int IntKind.i64 x.snd.snd.snd.fst,
                                                                    Value.int IntKind.u64 x.snd.snd.snd.snd.fst,
                                                                    Value.int IntKind.u64 x.snd.snd.snd.snd.snd.fst,
                                                                    Value.int IntKind.u64 x.snd.snd.snd.snd.snd.snd.fst,
                                                                    Value.int IntKind.u64 x.snd.snd.snd.snd.snd.snd.snd.fst,
                                                                    Value.int IntKind.u64
                                                                      x.snd.snd.snd.snd.snd.snd.snd.snd])))))
                        (∃ (x_3 : Int × Int × Int × Int × Int × Int × Int × Int × Int),
                          cellsAt w'_1 (Addr.mk w.heap.size (0 : Nat) none)
                              [Value.int IntKind.u64 x_3.fst, Value.int IntKind.u64 x_3.snd.fst,
                                Value.int IntKind.i64 x_3.snd.snd.fst, Value.int IntKind.i64 x_3.snd.snd.snd.fst,
                                Value.int IntKind.u64 x_3.snd.snd.snd.snd.fst,
                                Value.int IntKind.u64 x_3.snd.snd.snd.snd.snd.fst,
                                Value.int IntKind.u64 x_3.snd.snd.snd.snd.snd.snd.fst,
                                Value.int IntKind.u64 x_3.snd.snd.snd.snd.snd.snd.snd.fst,
                                Value.int IntKind.u64 x_3.snd.snd.snd.snd.snd.snd.snd.snd] ∧
                            CallT
                              [Ty.agg
                                  [Sh.int IntKind.u64, Sh.int IntKind.u64, Sh.int IntKind.i64, Sh.int IntKind.i64,
                                    Sh.int IntKind.u64, Sh.int IntKind.u64, Sh.int IntKind.u64, Sh.int IntKind.u64,
                                    Sh.int IntKind.u64],
                                Ty.one (Sh.int IntKind.i64)]
                              Try.prog (77 : Nat)
                              [Value.agg
                                  #[Value.int IntKind.u64 x_3.fst, Value.int IntKind.u64 x_3.snd.fst,
                                    Value.int IntKind.i64 x_3.snd.snd.fst, Value.int IntKind.i64 x_3.snd.snd.snd.fst,
                                    Value.int IntKind.u64 x_3.snd.snd.snd.snd.fst,
                                    Value.int IntKind.u64 x_3.snd.snd.snd.snd.snd.fst,
                                    Value.int IntKind.u64 x_3.snd.snd.snd.snd.snd.snd.fst,
                                    Value.int IntKind.u64 x_3.snd.snd.snd.snd.snd.snd.snd.fst,
                                    Value.int IntKind.u64 x_3.snd.snd.snd.snd.snd.snd.snd.snd],
                                Value.int IntKind.i64 x_2.fst]
                              w'_1 fun (x_4 : (Int × Int × Int × Int × Int × Int × Int × Int × Int) × Int) (w'_2 : World) =>
                              let e1 := x_4.snd;
                              let w1 :=
                                w'_2.alloc
                                  (Obj.cells
                                    #[Value.int IntKind.u64 (0 : Int), Value.int IntKind.u64 (0 : Int),
                                      Value.int IntKind.i64 (0 : Int), Value.int IntKind.i64 (0 : Int),
                                      Value.int IntKind.u64 (0 : Int), Value.int IntKind.u64 (0 : Int),
                                      Value.int IntKind.u64 (0 : Int), Value.int IntKind.u64 (0 : Int),
                                      Value.int IntKind.u64 (0 : Int)]
                                    (92 : Nat));
                              canSt w1 (Addr.mk w'_2.heap.size (0 : Nat) none) (9 : Nat) ∧
                                let w1 :=
                                  setCells w1 (Addr.mk w'_2.heap.size (0 : Nat) none) (0 : Nat)
                                    [Value.int IntKind.u64 x_4.fst.fst, Value.int IntKind.u64 x_4.fst.snd.fst,
                                      Value.int IntKind.i64 x_4.fst.snd.snd.fst,
                                      Value.int IntKind.i64 x_4.fst.snd.snd.snd.fst,
                                      Value.int IntKind.u64 x_4.fst.snd.snd.snd.snd.fst,
                                      Value.int IntKind.u64 x_4.fst.snd.snd.snd.snd.snd.fst,
                                      Value.int IntKind.u64 x_4.fst.snd.snd.snd.snd.snd.snd.fst,
                                      Value.int IntKind.u64 x_4.fst.snd.snd.snd.snd.snd.snd.snd.fst,
                                      Value.int IntKind.u64 x_4.fst.snd.snd.snd.snd.snd.snd.snd.snd];
                                ∃ (x_5 : Int × Int × Int × Int × Int × Int × Int × Int × Int),
                                  cellsAt w1 (Addr.mk w'_2.heap.size (0 : Nat) none)
                                      [Value.int IntKind.u64 x_5.fst, Value.int IntKind.u64 x_5.snd.fst,
                                        Value.int IntKind.i64 x_5.snd.snd.fst, Value.int IntKind.i64 x_5.snd.snd.snd.fst,
                                        Value.int IntKind.u64 x_5.snd.snd.snd.snd.fst,
                                        Value.int IntKind.u64 x_5.snd.snd.snd.snd.snd.fst,
                                        Value.int IntKind.u64 x_5.snd.snd.snd.snd.snd.snd.fst,
                                        Value.int IntKind.u64 x_5.snd.snd.snd.snd.snd.snd.snd.fst,
                                        Value.int IntKind.u64 x_5.snd.snd.snd.snd.snd.snd.snd.snd] ∧
                                    CallT [Ty.one Sh.slice, Ty.one (Sh.int IntKind.i64)] Try.prog (68 : Nat)
                                      [Value.agg
                                          #[Value.int IntKind.u64 x_5.fst, Value.int IntKind.u64 x_5.snd.fst,
                                            Value.int IntKind.i64 x_5.snd.snd.fst,
                                            Value.int IntKind.i64 x_5.snd.snd.snd.fst,
                                            Value.int IntKind.u64 x_5.snd.snd.snd.snd.fst,
                                            Value.int IntKind.u64 x_5.snd.snd.snd.snd.snd.fst,
                                            Value.int IntKind.u64 x_5.snd.snd.snd.snd.snd.snd.fst,
                                            Value.int IntKind.u64 x_5.snd.snd.snd.snd.snd.snd.snd.fst,
                                            Value.int IntKind.u64 x_5.snd.snd.snd.snd.snd.snd.snd.snd]]
                                      w1 fun (x_6 : SV × Int) (w'_3 : World) =>
                                      cnd (x_6.snd != (0 : Int)) (R false w'_3)
                                        (CallT [Ty.one (Sh.int IntKind.i64)] Try.prog (39 : Nat)
                                          [Value.pointer x.fst,
                                            Value.int IntKind.i64 (IntKind.i64.wrap ((IntKind.u64.wrap n2).tmod (3 : Int)))]
                                          w'_3 fun (x_7 : Int) (w'_4 : World) =>
                                          CallT [Ty.one (Sh.int IntKind.i64)] Try.prog (41 : Nat)
                                            [Value.pointer x.fst, Value.int IntKind.i64 e1,
                                              Value.slice x_6.fst.a x_6.fst.len x_6.fst.cap]
                                            w'_4 fun (x_8 : Int) (w'_5 : World) =>
                                            CallT [Ty.one (Sh.int IntKind.i64)] Try.prog (40 : Nat) [Value.pointer x.fst]
                                              w'_5 fun (x_9 : Int) (w'_6 : World) =>
                                              CallT [Ty.one (Sh.int IntKind.i64)] Try.prog (54 : Nat)
                                                [Value.pointer x.fst, Value.slice s3.a s3.len s3.cap] w'_6
                                                fun (x_10 : Int) (w'_7 : World) =>
                                                CallT [Ty.one (Sh.int IntKind.i64)] Try.prog (45 : Nat)
                                                  [Value.pointer x.fst] w'_7 fun (x_11 : Int) (w'_8 : World) =>
                                                  CallT [Ty.one Sh.slice, Ty.one (Sh.int IntKind.i64)] Try.prog (44 : Nat)
                                                    [Value.pointer x.fst, Value.int IntKind.i64 (0 : Int)] w'_8
                                                    fun (x_12 : SV × Int) (w'_9 : World) =>
                                                    CallT [Ty.one Sh.slice, Ty.one (Sh.int IntKind.i64)] Try.prog (44 : Nat)
                                                      [Value.pointer x.fst, Value.int IntKind.i64 (1 : Int)] w'_9
                                                      fun (x : SV × Int) (w'_10 : World) =>
                                                      CallT
                                                        [Ty.agg
                                                            [Sh.int IntKind.u64, Sh.int IntKind.u64, Sh.int IntKind.i64,
                                                              Sh.int IntKind.i64, Sh.int IntKind.u64, Sh.int IntKind.u64,
                                                              Sh.int IntKind.u64, Sh.int IntKind.u64, Sh.int IntKind.u64],
                                                          Ty.one (Sh.int IntKind.i64), Ty.one (Sh.int IntKind.i64)]
                                                        Try.prog (73 : Nat)
                                                        [Value.slice x_12.fst.a x_12.fst.len x_12.fst.cap,
                                                          Value.slice x.fst.a x.fst.len x.fst.cap]
                                                        w'_10
                                                        fun
                                                          (x :
                                                            (Int × Int × Int × Int × Int × Int × Int × Int × Int) ×
                                                              Int × Int)
                                                          (w'_11 : World) =>
                                                        let e1_1 := x.snd.fst;
                                                        let w1 :=
                                                          w'_11.alloc
                                                            (Obj.cells
                                                              #[Value.int IntKind.u64 (0 : Int),
                                                                Value.int IntKind.u64 (0 : Int),
                                                                Value.int IntKind.i64 (0 : Int),
                                                                Value.int IntKind.i64 (0 : Int),
                                                                Value.int IntKind.u64 (0 : Int),
                                                                Value.int IntKind.u64 (0 : Int),
                                                                Value.int IntKind.u64 (0 : Int),
                                                                Value.int IntKind.u64 (0 : Int),
                                                                Value.int IntKind.u64 (0 : Int)]
                                                              (92 : Nat));
                                                        canSt w1 (Addr.mk w'_11.heap.size (0 : Nat) none) (9 : Nat) ∧
                                                          let w1 :=
                                                            setCells w1 (Addr.mk w'_11.heap.size (0 : Nat) none) (0 : Nat)
                                                              [Value.int IntKind.u64 x.fst.fst,
                                                                Value.int IntKind.u64 x.fst.snd.fst,
                                                                Value.int IntKind.i64 x.fst.snd.snd.fst,
                                                                Value.int IntKind.i64 x.fst.snd.snd.snd.fst,
                                                                Value.int IntKind.u64 x.fst.snd.snd.snd.snd.fst,
                                                                Value.int IntKind.u64 x.fst.snd.snd.snd.snd.snd.fst,
                                                                Value.int IntKind.u64 x.fst.snd.snd.snd.snd.snd.snd.fst,
                                                                Value.int IntKind.u64 x.fst.snd.snd.snd.snd.snd.snd.snd.fst,
                                                                Value.int IntKind.u64
                                                                  x.fst.snd.snd.snd.snd.snd.snd.snd.snd];
                                                          cnd (x.snd.snd == (0 : Int))
                                                            (∃ (x : Int × Int × Int × Int × Int × Int × Int × Int × Int),
                                                              cellsAt w1 (Addr.mk w'_11.heap.size (0 : Nat) none)
                                                                  [Value.int IntKind.u64 x.fst,
                                                                    Value.int IntKind.u64 x.snd.fst,
                                                                    Value.int IntKind.i64 x.snd.snd.fst,
                                                                    Value.int IntKind.i64 x.snd.snd.snd.fst,
                                                                    Value.int IntKind.u64 x.snd.snd.snd.snd.fst,
                                                                    Value.int IntKind.u64 x.snd.snd.snd.snd.snd.fst,
                                                                    Value.int IntKind.u64 x.snd.snd.snd.snd.snd.snd.fst,
                                                                    Value.int IntKind.u64 x.snd.snd.snd.snd.snd.snd.snd.fst,
                                                                    Value.int IntKind.u64
                                                                      x.snd.snd.snd.snd.snd.snd.snd.snd] ∧
                                                                ∃ (x_13 :
                                                                  Int × Int × Int × Int × Int × Int × Int × Int × Int),
                                                                  cellsAt w1 (Addr.mk w'.heap.size (0 : Nat) none)
                                                                      [Value.int IntKind.u64 x_13.fst,
                                                                        Value.int IntKind.u64 x_13.snd.fst,
                                                                        Value.int IntKind.i64 x_13.snd.snd.fst,
                                                                        Value.int IntKind.i64 x_13.snd.snd.snd.fst,
                                                                        Value.int IntKind.u64 x_13.snd.snd.snd.snd.fst,
                                                                        Value.int IntKind.u64 x_13.snd.snd.snd.snd.snd.fst,
                                                                        Value.int IntKind.u64
                                                                          x_13.snd.snd.snd.snd.snd.snd.fst,
                                                                        Value.int IntKind.u64
                                                                          x_13.snd.snd.snd.snd.snd.snd.snd.fst,
                                                                        Value.int IntKind.u64
                                                                          x_13.snd.snd.snd.snd.snd.snd.snd.snd] ∧
                                                                    cnd
                                                                      (x.fst == x_13.fst &&
                                                                        (x.snd.fst == x_13.snd.fst &&
                                                                          (x.snd.snd.fst == x_13.snd.snd.fst &&
                                                                            (x.snd.snd.snd.fst == x_13.snd.snd.snd.fst &&
                                                                              (x.snd.snd.snd.snd.fst ==
                                                                                  x_13.snd.snd.snd.snd.fst &&
                                                                                (x.snd.snd.snd.snd.snd.fst ==
                                                                                    x_13.snd.snd.snd.snd.snd.fst &&
                                                                                  (x.snd.snd.snd.snd.snd.snd.fst ==
                                                                                      x_13.snd.snd.snd.snd.snd.snd.fst &&
                                                                                    (x.snd.snd.snd.snd.snd.snd.snd.fst ==
                                                                                        x_13.snd.snd.snd.snd.snd.snd.snd.fst &&
                                                                                      (x.snd.snd.snd.snd.snd.snd.snd.snd ==
                                                                                          x_13.snd.snd.snd.snd.snd.snd.snd.snd &&
                                                                                        true)))))))))
                                                                      (cnd (e1_1 == x_2.fst) (R true w1)
                                                                        (∃ (x :
                                                                          Int ×
                                                                            Int × Int × Int × Int × Int × Int × Int × Int),
                                                                          cellsAt w1
                                                                              (Addr.mk w'_11.heap.size (0 : Nat) none)
                                                                              [Value.int IntKind.u64 x.fst,
                                                                                Value.int IntKind.u64 x.snd.fst,
                                                                                Value.int IntKind.i64 x.snd.snd.fst,
                                                                                Value.int IntKind.i64 x.snd.snd.snd.fst,
                                                                                Value.int IntKind.u64 x.snd.snd.snd.snd.fst,
                                                                                Value.int IntKind.u64
                                                                                  x.snd.snd.snd.snd.snd.fst,
                                                                                Value.int IntKind.u64
                                                                                  x.snd.snd.snd.snd.snd.snd.fst,
                                                                                Value.int IntKind.u64
                                                                                  x.snd.snd.snd.snd.snd.snd.snd.fst,
                                                                                Value.int IntKind.u64
                                                                                  x.snd.snd.snd.snd.snd.snd.snd.snd] ∧
                                                                            ∃ (x_14 :
                                                                              Int ×
                                                                                Int ×
                                                                                  Int × Int × Int × Int × Int × Int × Int),
                                                                              cellsAt w1
                                                                                  (Addr.mk w'_2.heap.size (0 : Nat) none)
                                                                                  [Value.int IntKind.u64 x_14.fst,
                                                                                    Value.int IntKind.u64 x_14.snd.fst,
                                                                                    Value.int IntKind.i64 x_14.snd.snd.fst,
                                                                                    Value.int IntKind.i64
                                                                                      x_14.snd.snd.snd.fst,
                                                                                    Value.int IntKind.u64
                                                                                      x_14.snd.snd.snd.snd.fst,
                                                                                    Value.int IntKind.u64
                                                                                      x_14.snd.snd.snd.snd.snd.fst,
                                                                                    Value.int IntKind.u64
                                                                                      x_14.snd.snd.snd.snd.snd.snd.fst,
                                                                                    Value.int IntKind.u64
                                                                                      x_14.snd.snd.snd.snd.snd.snd.snd.fst,
                                                                                    Value.int IntKind.u64
                                                                                      x_14.snd.snd.snd.snd.snd.snd.snd.snd] ∧
                                                                                cnd
                                                                                  (x.fst == x_14.fst &&
                                                                                    (x.snd.fst == x_14.snd.fst &&
                                                                                      (x.snd.snd.fst == x_14.snd.snd.fst &&
                                                                                        (x.snd.snd.snd.fst ==
                                                                                            x_14.snd.snd.snd.fst &&
                                                                                          (x.snd.snd.snd.snd.fst ==
                                                                                              x_14.snd.snd.snd.snd.fst &&
                                                                                            (x.snd.snd.snd.snd.snd.fst ==
                                                                                                x_14.snd.snd.snd.snd.snd.fst &&
                                                                                              (x.snd.snd.snd.snd.snd.snd.fst ==
                                                                                                  x_14.snd.snd.snd.snd.snd.snd.fst &&
                                                                                                (x.snd.snd.snd.snd.snd.snd.snd.fst ==
                                                                                                    x_14.snd.snd.snd.snd.snd.snd.snd.fst &&
                                                                                                  (x.snd.snd.snd.snd.snd.snd.snd.snd ==
                                                                                                      x_14.snd.snd.snd.snd.snd.snd.snd.snd &&
                                                                                                    true)))))))))
                                                                                  (R (e1_1 == e1) w1) (R false w1)))
                                                                      (∃ (x :
                                                                        Int ×
                                                                          Int × Int × Int × Int × Int × Int × Int × Int),
                                                                        cellsAt w1 (Addr.mk w'_11.heap.size (0 : Nat) none)
                                                                            [Value.int IntKind.u64 x.fst,
                                                                              Value.int IntKind.u64 x.snd.fst,
                                                                              Value.int IntKind.i64 x.snd.snd.fst,
                                                                              Value.int IntKind.i64 x.snd.snd.snd.fst,
                                                                              Value.int IntKind.u64 x.snd.snd.snd.snd.fst,
                                                                              Value.int IntKind.u64
                                                                                x.snd.snd.snd.snd.snd.fst,
                                                                              Value.int IntKind.u64
                                                                                x.snd.snd.snd.snd.snd.snd.fst,
                                                                              Value.int IntKind.u64
                                                                                x.snd.snd.snd.snd.snd.snd.snd.fst,
                                                                              Value.int IntKind.u64
                                                                                x.snd.snd.snd.snd.snd.snd.snd.snd] ∧
                                                                          ∃ (x_14 :
                                                                            Int ×
                                                                              Int ×
                                                                                Int × Int × Int × Int × Int × Int × Int),
                                                                            cellsAt w1
                                                                                (Addr.mk w'_2.heap.size (0 : Nat) none)
                                                                                [Value.int IntKind.u64 x_14.fst,
                                                                                  Value.int IntKind.u64 x_14.snd.fst,
                                                                                  Value.int IntKind.i64 x_14.snd.snd.fst,
                                                                                  Value.int IntKind.i64
                                                                                    x_14.snd.snd.snd.fst,
                                                                                  Value.int IntKind.u64
                                                                                    x_14.snd.snd.snd.snd.fst,
                                                                                  Value.int IntKind.u64
                                                                                    x_14.snd.snd.snd.snd.snd.fst,
                                                                                  Value.int IntKind.u64
                                                                                    x_14.snd.snd.snd.snd.snd.snd.fst,
                                                                                  Value.int IntKind.u64
                                                                                    x_14.snd.snd.snd.snd.snd.snd.snd.fst,
                                                                                  Value.int IntKind.u64
                                                                                    x_14.snd.snd.snd.snd.snd.snd.snd.snd] ∧
                                                                              cnd
                                                                                (x.fst == x_14.fst &&
                                                                                  (x.snd.fst == x_14.snd.fst &&
                                                                                    (x.snd.snd.fst == x_14.snd.snd.fst &&
                                                                                      (x.snd.snd.snd.fst ==
                                                                                          x_14.snd.snd.snd.fst &&
                                                                                        (x.snd.snd.snd.snd.fst ==
                                                                                            x_14.snd.snd.snd.snd.fst &&
                                                                                          (x.snd.snd.snd.snd.snd.fst ==
                                                                                              x_14.snd.snd.snd.snd.snd.fst &&
                                                                                            (x.snd.snd.snd.snd.snd.snd.fst ==
                                                                                                x_14.snd.snd.snd.snd.snd.snd.fst &&
                                                                                              (x.snd.snd.snd.snd.snd.snd.snd.fst ==
                                                                                                  x_14.snd.snd.snd.snd.snd.snd.snd.fst &&
                                                                                                (x.snd.snd.snd.snd.snd.snd.snd.snd ==
                                                                                                    x_14.snd.snd.snd.snd.snd.snd.snd.snd &&
                                                                                                  true)))))))))
                                                                                (R (e1_1 == e1) w1) (R false w1)))
                                                            (R false w1))))
  : CallT [Ty.one Sh.bool] Try.prog 22 [Value.agg
    #[Value.int IntKind.u64 x0.fst, Value.int IntKind.u64 x0.snd.fst, Value.int IntKind.i64 x0.snd.snd.fst,
      Value.int IntKind.i64 x0.snd.snd.snd.fst, Value.int IntKind.u64 x0.snd.snd.snd.snd.fst,
      Value.int IntKind.u64 x0.snd.snd.snd.snd.snd.fst, Value.int IntKind.u64 x0.snd.snd.snd.snd.snd.snd.fst,
      Value.int IntKind.u64 x0.snd.snd.snd.snd.snd.snd.snd.fst,
      Value.int IntKind.u64 x0.snd.snd.snd.snd.snd.snd.snd.snd],
  Value.int IntKind.i64 n1, Value.int IntKind.i64 n2, Value.slice s3.a s3.len s3.cap] w R :=
  fnV_sound (h := HT.z.sq
  (HT.z.sq
    (HT.jn [] (HT.jn [((46 : Nat), Ty.one Sh.bool)] HT.z HT.z)
      (HT.z.sq
        (HT.z.sq
          ((HT.z.sq
                (HT.lp [((11 : Nat), Ty.one (Sh.int IntKind.i64)), ((13 : Nat), Ty.one (Sh.int IntKind.i64))]
                    HT.z).bl).sq
            HT.z)))))) Try.func22 (by kernel_rfl) (by kernel_rfl) (Eq.mp (by kernel_rfl) h)

end Go.Proofs
/- disk: a device in memory; ready, has, hit, counted, Arm, Start, Down, Waiting, Flips, Size. Conditions: those of each contract. -/
namespace Go.Proofs
open Go Go.Vc

/-! ### the device, in plain Lean -/
abbrev Sec := {l : List UInt8 // l.length = 512}
def zeroSec : Sec := ⟨List.replicate 512 0, List.length_replicate⟩
abbrev Wr := Nat × Sec
@[reducible] def encSec (x : Sec) : List Value := B8 x.1
@[reducible] def encWr (p : Wr) : List Value := .int .i64 (p.1 : Int) :: B8 p.2.1
theorem encSec_len (x : Sec) : (encSec x).length = 512 := by rw [encSec, B8_length]; exact x.2
theorem encWr_len (p : Wr) : (encWr p).length = 513 := by rw [encWr, List.length_cons, B8_length, p.2.2]
theorem encWr_one (p : Wr) : ∀ v ∈ encWr p, v.oneCell' = true := by
  intro v hv
  rcases List.mem_cons.1 hv with rfl | hv
  · rfl
  · exact B8_one _ v hv
theorem B8_oneV (l : List UInt8) : ∀ v ∈ B8 l, oneV v True := by
  intro v hv
  obtain ⟨b, _, rfl⟩ := List.mem_map.1 hv
  trivial
theorem encWr_oneV (p : Wr) : ∀ v ∈ encWr p, oneV v True := by
  intro v hv
  rcases List.mem_cons.1 hv with rfl | hv
  · trivial
  · exact B8_oneV _ v hv
structure DK where
  kept : List Sec
  waits : List Wr
  down : Bool
  armed : Nat
  flips : Nat
def hitD (D : DK) : DK × Bool := if D.armed = 0 then (D, false) else ({ D with armed := D.armed - 1 }, D.armed - 1 == 0)
def cntD (D : DK) : DK × Int := if (hitD D).2 = true then ({ (hitD D).1 with down := true }, 40) else ((hitD D).1, 0)
def armD (D : DK) (n : Int) : DK × Int := if D.down = true then (D, 40) else ({ D with armed := (max n 0).toNat }, 0)
def startD (D : DK) : DK := if D.down = true then { D with waits := [], armed := 0, down := false } else D

/-! ### the device in memory -/
/-- The blocks of a device. -/
def fp (d : Nat) (k s : SV) (b : Nat) : Prop := b = d ∨ k.blk b ∨ s.blk b
@[reducible] def dkVs (k s : SV) (D : DK) : List Value := [.slice k.a k.len k.cap, .slice s.a s.len s.cap, .bool D.down, .int .i64 (D.armed : Int), .int .i64 (D.flips : Int)]
structure DkAt (w : World) (d : Nat) (k s : SV) (D : DK) : Prop where
  blk : BK w d T.disk_Disk (dkVs k s D)
  kept : OwnS encSec 512 T.disk_content w 0 k D.kept
  wait : OwnS encWr 513 T.disk_write w 0 s D.waits
  dk : ¬ k.blk d
  ds : ¬ s.blk d
  ks : ∀ b, k.blk b → ¬ s.blk b
  rng : ∀ p ∈ D.waits, p.1 < D.kept.length
  num : D.kept.length ≤ 65536
  arm : D.armed < 9223372036854775808
theorem DkAt.upd {M : Nat → Prop} {w w' : World} {d : Nat} {k s : SV} {D : DK} (h : DkAt w d k s D) (u : Upd M w w') (hm : ∀ b, fp d k s b → ¬ M b) : DkAt w' d k s D :=
  ⟨h.blk.upd u (hm _ (.inl rfl)), ⟨h.kept.own.upd u fun b hb => hm b (.inr (.inl hb)), h.kept.esz, h.kept.pos⟩, ⟨h.wait.own.upd u fun b hb => hm b (.inr (.inr hb)), h.wait.esz, h.wait.pos⟩, h.dk, h.ds, h.ks, h.rng, h.num, h.arm⟩
theorem DkAt.ext {w w' : World} {d : Nat} {k s : SV} {D : DK} (h : DkAt w d k s D) (u : Ext w w') : DkAt w' d k s D := h.upd u fun _ _ => id
theorem DkAt.lt {w : World} {d : Nat} {k s : SV} {D : DK} (h : DkAt w d k s D) {b : Nat} (hb : fp d k s b) : b < w.heap.size := by
  rcases hb with rfl | hb | hb
  · exact h.blk.lt
  · exact h.kept.own.blk_lt hb
  · exact h.wait.own.blk_lt hb
/-- What a call made of a device. -/
structure DkTo (w w' : World) (d : Nat) (k s s' : SV) (D' : DK) : Prop where
  at_ : DkAt w' d k s' D'
  u : Upd (fp d k s) w w'
  n : ∀ b, s'.blk b → s.blk b ∨ w.heap.size ≤ b
theorem DkAt.to {w : World} {d : Nat} {k s : SV} {D : DK} (h : DkAt w d k s D) : DkTo w w d k s s D := ⟨h, Upd.refl _ _, fun _ hb => .inl hb⟩
theorem DkTo.ext {w w1 w2 : World} {d : Nat} {k s s' : SV} {D' : DK} (h : DkTo w w1 d k s s' D') (e : Ext w1 w2) : DkTo w w2 d k s s' D' :=
  ⟨h.at_.ext e, h.u.trans e fun _ _ h => h.elim, h.n⟩
theorem DkTo.fp' {w w1 : World} {d : Nat} {k s s1 : SV} {D1 : DK} (h : DkTo w w1 d k s s1 D1) {b : Nat} (hb : fp d k s1 b) : fp d k s b ∨ w.heap.size ≤ b := by
  rcases hb with hb | hb | hb
  · exact .inl (.inl hb)
  · exact .inl (.inr (.inl hb))
  · rcases h.n b hb with h | h
    · exact .inl (.inr (.inr h))
    · exact .inr h
theorem DkTo.tr {w w1 w2 : World} {d : Nat} {k s s1 s2 : SV} {D1 D2 : DK} (h : DkTo w w1 d k s s1 D1) (g : DkTo w1 w2 d k s1 s2 D2) : DkTo w w2 d k s s2 D2 :=
  ⟨g.at_, h.u.trans g.u fun x hx hf => (h.fp' hf).resolve_right (by omega), fun b hb => by
    rcases g.n b hb with h1 | h1
    · exact h.n b h1
    · exact .inr (Nat.le_trans h.u.size h1)⟩
theorem DkTo.pre {w w1 w2 : World} {d : Nat} {k s s2 : SV} {D2 : DK} (e : Ext w w1) (g : DkTo w1 w2 d k s s2 D2) : DkTo w w2 d k s s2 D2 :=
  ⟨g.at_, (e.to _).trans g.u fun _ _ h => h, fun b hb => (g.n b hb).imp id fun h => Nat.le_trans e.size h⟩
/-- A plain field is set. -/
theorem DkAt.put {w : World} {d : Nat} {k s : SV} {D : DK} (h : DkAt w d k s D) (i : Nat) (hi : i < 5) (v : Value) (D' : DK) (hl : (dkVs k s D).set i v = dkVs k s D') (hk : D'.kept = D.kept) (hw : D'.waits = D.waits) (ha : D'.armed < 9223372036854775808) :
    (w.cell? (Addr.add ⟨d, 0, none⟩ i)).isSome = true ∧ w.frozen? (Addr.add ⟨d, 0, none⟩ i) = false ∧ DkTo w (w.setCell (Addr.add ⟨d, 0, none⟩ i) v) d k s s D' := by
  obtain ⟨a, b, c⟩ := h.blk.store i hi v
  rw [hl] at c
  have u : Upd (fun b => b = d) w (w.setCell (Addr.add ⟨d, 0, none⟩ i) v) := (Upd.refl _ w).set (p := Addr.add ⟨d, 0, none⟩ i) (fun _ => by simp) v
  refine ⟨a, b, ⟨c, ?_, ?_, h.dk, h.ds, h.ks, by rw [hk, hw]; exact h.rng, by rw [hk]; exact h.num, ha⟩, u.mono fun x _ hx => .inl hx, fun _ hb => .inl hb⟩
  · rw [hk]; exact ⟨h.kept.own.upd u fun b hb e => h.dk (e ▸ hb), h.kept.esz, h.kept.pos⟩
  · rw [hw]; exact ⟨h.wait.own.upd u fun b hb e => h.ds (e ▸ hb), h.wait.esz, h.wait.pos⟩
/-- The list of what waits is exchanged. -/
theorem DkAt.putW {w w1 : World} {d : Nat} {k s s' : SV} {D : DK} {l : List Wr} (h : DkAt w d k s D) (u : Upd s.blk w w1) (ho : OwnS encWr 513 T.disk_write w1 0 s' l) (hn : ∀ b, s'.blk b → s.blk b ∨ w.heap.size ≤ b) (hr : ∀ p ∈ l, p.1 < D.kept.length) :
    (w1.cell? (Addr.add ⟨d, 0, none⟩ 1)).isSome = true ∧ w1.frozen? (Addr.add ⟨d, 0, none⟩ 1) = false ∧ DkTo w (w1.setCell (Addr.add ⟨d, 0, none⟩ 1) (.slice s'.a s'.len s'.cap)) d k s s' { D with waits := l } := by
  have b1 := h.blk.upd u h.ds
  obtain ⟨a, b, c⟩ := b1.store 1 (by simp) (.slice s'.a s'.len s'.cap)
  have hd := h.blk.lt
  have u2 : Upd (fun b => b = d) w1 (w1.setCell (Addr.add ⟨d, 0, none⟩ 1) (.slice s'.a s'.len s'.cap)) := (Upd.refl _ w1).set (p := Addr.add ⟨d, 0, none⟩ 1) (fun _ => by simp) _
  have hds : ¬ s'.blk d := fun hb => by
    rcases hn d hb with h1 | h1
    · exact h.ds h1
    · omega
  refine ⟨a, b, ⟨c, ⟨(h.kept.own.upd u fun b hb => h.ks b hb).upd u2 fun b hb e => h.dk (e ▸ hb), h.kept.esz, h.kept.pos⟩, ⟨ho.own.upd u2 fun b hb e => hds (e ▸ hb), ho.esz, ho.pos⟩, h.dk, hds, fun b hb hs => ?_, hr, h.num, h.arm⟩, ?_, hn⟩
  · rcases hn b hs with h1 | h1
    · exact h.ks b hb h1
    · have := h.kept.own.blk_lt hb; omega
  · exact (u.mono fun x _ hx => .inr (.inr hx)).trans (u2.mono fun x _ hx => .inl hx) fun x _ hx => hx
/-- A kept sector is exchanged. -/
theorem DkAt.setk {w : World} {d : Nat} {k s : SV} {D : DK} (h : DkAt w d k s D) {i : Nat} (hi : i < D.kept.length) {A : Addr} (hA : k.a = some A) (y : Sec) :
    canSt w (A.add (i * 512)) (encSec y).length ∧ DkTo w (setCells w (A.add (i * 512)) 0 (encSec y)) d k s s { D with kept := D.kept.set i y } := by
  obtain ⟨c, ho, z, u⟩ := h.kept.setx hi hA y
  refine ⟨c, ⟨h.blk.upd u h.dk, ho, ⟨h.wait.own.upd u fun b hb hk => h.ks b hk hb, h.wait.esz, h.wait.pos⟩, h.dk, h.ds, h.ks, ?_, ?_, h.arm⟩, u.mono fun x _ hx => .inr (.inl hx), fun _ hb => .inl hb⟩
  · simp only [List.length_set]; exact h.rng
  · simp only [List.length_set]; exact h.num
theorem bigAt {w : World} {A : Addr} {vs : List Value} (h : cellsAt w A vs) : ∀ i, i < vs.length → w.cell? (A.add i) = vs.toArray[i]? := by
  intro i hi
  rw [h i vs[i] (List.getElem?_eq_getElem hi)]
  simp [hi]

/-! ### small calls -/
@[reducible] def dptr (d : Nat) : Value := .pointer (some ⟨d, 0, none⟩)
variable {w : World} {d : Nat} {k s : SV} {D : DK}
theorem disk_ready.spec (h : DkAt w d k s D) : CallT [.one (.int .i64)] Try.prog F.disk_Disk_ready [dptr d] w fun r w' => r = (if D.down = true then 40 else 0) ∧ w = w' := by
  refine disk_Disk_ready.vc (some ⟨d, 0, none⟩) w _ ?_
  refine cnd_neg rfl ⟨D.down, h.blk.get 2 rfl, cnd_intro (fun hd => ⟨by rw [hd]; rfl, rfl⟩) (fun hd => ⟨by rw [hd]; rfl, rfl⟩)⟩
theorem disk_has.spec (h : DkAt w d k s D) (n : Int) : CallT [.one .bool] Try.prog F.disk_Disk_has [dptr d, .int .i64 n] w fun r w' => r = decide (0 ≤ n ∧ n < D.kept.length) ∧ w = w' := by
  refine disk_Disk_has.vc (some ⟨d, 0, none⟩) n w _ ?_
  have hl := h.kept.len
  refine cnd_dec (fun h0 => ⟨k, h.blk.get 0 rfl, ?_, rfl⟩) (fun h0 => ⟨?_, rfl⟩)
  · rw [decide_eq_decide]; omega
  · rw [eq_comm, decide_eq_false_iff_not]; omega
theorem disk_hit.spec (h : DkAt w d k s D) : CallT [.one .bool] Try.prog F.disk_Disk_hit [dptr d] w fun r w' => r = (hitD D).2 ∧ DkTo w w' d k s s (hitD D).1 := by
  refine disk_Disk_hit.vc (some ⟨d, 0, none⟩) w _ ?_
  have ha := h.arm
  refine ⟨(D.armed : Int), h.blk.get 3 rfl, cnd_beq (fun h0 => ?_) (fun h0 => ?_)⟩
  · have : D.armed = 0 := by omega
    rw [hitD, if_pos this]; exact ⟨rfl, h.to⟩
  · have h1 : ¬ D.armed = 0 := by omega
    have hw : IntKind.i64.wrap ((D.armed : Int) - 1) = ((D.armed - 1 : Nat) : Int) := by rw [i64_id] <;> omega
    obtain ⟨a, b, c⟩ := h.put 3 (by omega) (.int .i64 ((D.armed - 1 : Nat) : Int)) { D with armed := D.armed - 1 } rfl rfl rfl (by simp only; omega)
    refine ⟨(D.armed : Int), h.blk.get 3 rfl, a, b, ?_⟩
    rw [hw]
    refine ⟨((D.armed - 1 : Nat) : Int), c.at_.blk.get 3 rfl, ?_, ?_⟩
    · rw [hitD, if_neg h1]
      by_cases h2 : D.armed - 1 = 0
      · rw [h2]; rfl
      · have e1 : ((((D.armed - 1 : Nat) : Int) == 0) : Bool) = false := by simp; omega
        rw [e1]; simp [h2]
    · rw [hitD, if_neg h1]; exact c
theorem disk_counted.spec (h : DkAt w d k s D) : CallT [.one (.int .i64)] Try.prog F.disk_Disk_counted [dptr d, .func (.func F.disk_Disk_hit) #[dptr d] #[]] w fun r w' => r = (cntD D).2 ∧ DkTo w w' d k s s (cntD D).1 := by
  refine disk_Disk_counted.vc (some ⟨d, 0, none⟩) (.func (.func F.disk_Disk_hit) #[dptr d] #[]) w _ ?_
  have hh : callVal [.one .bool] Try.prog (.func (.func F.disk_Disk_hit) #[dptr d] #[]) [] w (fun r w' => r = (hitD D).2 ∧ DkTo w w' d k s s (hitD D).1) := disk_hit.spec h
  refine callVal.mono hh ?_
  rintro _ w1 ⟨rfl, h1⟩
  refine cnd_not (fun hf => ?_) (fun ht => ?_)
  · rw [cntD, if_neg (by rw [hf]; simp)]; exact ⟨rfl, h1⟩
  · obtain ⟨a, b, c⟩ := h1.at_.put 2 (by omega) (.bool true) { (hitD D).1 with down := true } rfl rfl rfl h1.at_.arm
    rw [cntD, if_pos ht]
    exact ⟨a, b, rfl, h1.tr c⟩
theorem disk_Arm.spec (h : DkAt w d k s D) {n : Int} (hn : n ≤ 9223372036854775807) : CallT [.one (.int .i64)] Try.prog F.disk_Disk_Arm [dptr d, .int .i64 n] w fun r w' => r = (armD D n).2 ∧ DkTo w w' d k s s (armD D n).1 := by
  refine disk_Disk_Arm.vc (some ⟨d, 0, none⟩) n w _ ?_
  refine CallT.mono (disk_ready.spec h) ?_
  rintro _ _ ⟨rfl, rfl⟩
  by_cases hd : D.down = true
  · rw [if_pos hd, armD, if_pos hd]
    exact cnd_pos rfl ⟨rfl, h.to⟩
  · rw [if_neg hd, armD, if_neg hd]
    have hm : max n 0 = (((max n 0).toNat : Nat) : Int) := by omega
    obtain ⟨a, b, c⟩ := h.put 3 (by omega) (.int .i64 (((max n 0).toNat : Nat) : Int)) { D with armed := (max n 0).toNat } rfl rfl rfl (by simp only; omega)
    refine cnd_neg rfl ⟨a, b, ?_⟩
    rw [hm]
    exact ⟨rfl, c⟩
theorem disk_Start.spec (h : DkAt w d k s D) : CallT [.one (.int .i64)] Try.prog F.disk_Disk_Start [dptr d] w fun r w' => r = 0 ∧ ∃ s', DkTo w w' d k s s' (startD D) := by
  refine disk_Disk_Start.vc (some ⟨d, 0, none⟩) w _ ?_
  refine cnd_neg rfl ⟨D.down, h.blk.get 2 rfl, cnd_intro (fun hd => ?_) (fun hd => ?_)⟩
  · obtain ⟨a, b, c⟩ := h.putW (s' := ⟨none, 0, 0⟩) (l := []) (Upd.refl _ w) (OwnS.nil encWr_len (by decide) _ _ _) (fun b hb => by obtain ⟨A, hA, _⟩ := hb; simp at hA) (by simp)
    refine ⟨a, b, ?_⟩
    obtain ⟨a2, b2, c2⟩ := c.at_.put 3 (by omega) (.int .i64 ((0 : Nat) : Int)) { D with waits := [], armed := 0 } rfl rfl rfl (by simp)
    refine ⟨a2, b2, ?_⟩
    obtain ⟨a3, b3, c3⟩ := c2.at_.put 2 (by omega) (.bool false) { D with waits := [], armed := 0, down := false } rfl rfl rfl (by simp)
    exact ⟨a3, b3, rfl, _, by rw [startD, if_pos hd]; exact (c.tr c2).tr c3⟩
  · obtain ⟨a3, b3, c3⟩ := h.put 2 (by omega) (.bool false) D (by rw [← hd]; rfl) rfl rfl h.arm
    exact ⟨a3, b3, rfl, s, by rw [startD, if_neg (by rw [hd]; simp)]; exact c3⟩
end Go.Proofs
/- disk: New, Write, Read, Flush. Conditions: those of each contract. -/
namespace Go.Proofs
open Go Go.Vc
def secOf (b : List UInt8) : Sec := if h : b.length = 512 then ⟨b, h⟩ else zeroSec
theorem secOf_val {b : List UInt8} (h : b.length = 512) : (secOf b).1 = b := by rw [secOf, dif_pos h]
def writeD (D : DK) (at_ : Int) (b : List UInt8) : DK × Int :=
  if D.down = true then (D, 40) else if ¬ (0 ≤ at_ ∧ at_ < D.kept.length) ∨ b.length ≠ 512 then (D, 1) else cntD { D with waits := D.waits ++ [(at_.toNat, secOf b)] }
/-- The last one that was written counts. -/
def lastW (ws : List Wr) (at_ : Nat) (x : Sec) : Sec := ws.foldl (fun acc p => if p.1 = at_ then p.2 else acc) x
def showD (D : DK) (at_ : Nat) : Sec := lastW D.waits at_ (D.kept.getD at_ zeroSec)
def readD (D : DK) (at_ : Int) : List UInt8 × Int :=
  if D.down = true then ([], 40) else if ¬ (0 ≤ at_ ∧ at_ < D.kept.length) then ([], 1) else ((showD D at_.toNat).1, 0)
def applyW (kept : List Sec) (ws : List Wr) : List Sec := ws.foldl (fun k p => k.set p.1 p.2) kept
theorem applyW_len : ∀ (ws : List Wr) (kept : List Sec), (applyW kept ws).length = kept.length
  | [], _ => rfl
  | p :: r, kept => by
    have := applyW_len r (kept.set p.1 p.2)
    rw [List.length_set] at this
    exact this
theorem applyW_snoc (kept : List Sec) (ws : List Wr) (p : Wr) : applyW kept (ws ++ [p]) = (applyW kept ws).set p.1 p.2 := by simp [applyW]
def flushD (D : DK) : DK × Int :=
  if D.down = true then (D, 40) else if (cntD D).2 ≠ 0 then cntD D else ({ (cntD D).1 with kept := applyW D.kept D.waits, waits := [] }, 0)
theorem cntD_kept (D : DK) : (cntD D).1.kept = D.kept ∧ (cntD D).1.waits = D.waits ∧ (cntD D).1.flips = D.flips := by
  unfold cntD hitD
  repeat' split
  all_goals exact ⟨rfl, rfl, rfl⟩

/-! ### New -/
def newD (n : Nat) : DK := ⟨List.replicate n zeroSec, [], false, 0, 0⟩
theorem reps_flat {α : Type} (enc : α → List Value) (x : α) : ∀ n, reps n (enc x) = (List.replicate n x).flatMap enc
  | 0 => rfl
  | n + 1 => by rw [reps, reps_flat enc x n, List.replicate_succ, List.flatMap_cons]
theorem z_content : zeroL Try.prog T.disk_content = some (encSec zeroSec) := by kernel_rfl
theorem z_write : zeroL Try.prog T.disk_write = some (encWr (0, zeroSec)) := by kernel_rfl
theorem u_content : Try.prog.underlying T.sl_disk_content = some (.slice T.disk_content) := by kernel_rfl
theorem u_write : Try.prog.underlying T.sl_disk_write = some (.slice T.disk_write) := by kernel_rfl
theorem disk_New.spec (n : Int) (w : World) : CallT [.one .ptr, .one (.int .i64)] Try.prog F.disk_New [.int .i64 n] w fun r w' =>
    Ext w w' ∧ ((n < 1 ∨ n > 65536) ∧ r = (none, 1) ∨ (1 ≤ n ∧ n ≤ 65536) ∧ ∃ d k s, r = (some ⟨d, 0, none⟩, 0) ∧ DkAt w' d k s (newD n.toNat) ∧ ∀ b, fp d k s b → w.heap.size ≤ b) := by
  refine disk_New.vc n w _ ?_
  refine cnd_dec (fun h => ⟨Upd.refl _ _, .inl ⟨.inl h, rfl⟩⟩) (fun h1 => cnd_dec (fun h => ⟨Upd.refl _ _, .inl ⟨.inr h, rfl⟩⟩) (fun h2 => ?_))
  refine mkSV_own (bt := 512) (sz := 512) u_content (by kernel_rfl) (by kernel_rfl) z_content (encSec_len _) (by omega) (by omega) (by omega) (by omega) ?_
  rw [reps_flat]
  have ho : OwnS encSec 512 T.disk_content (w.alloc (.cells ((List.replicate n.toNat zeroSec).flatMap encSec).toArray T.disk_content)) w.heap.size ⟨some ⟨w.heap.size, 0, none⟩, n.toNat, n.toNat⟩ (List.replicate n.toNat zeroSec) :=
    ⟨Own.new w T.disk_content 512 n.toNat _ (by rw [flat_len encSec_len, List.length_replicate]), encSec_len, by decide⟩
  generalize hw1 : w.alloc (.cells ((List.replicate n.toNat zeroSec).flatMap encSec).toArray T.disk_content) = w1 at ho ⊢
  have e1 : Ext w w1 := by rw [← hw1]; exact ext_alloc _ _
  have z1 : w1.heap.size = w.heap.size + 1 := by rw [← hw1]; simp
  refine ⟨e1.alloc _, .inr ⟨⟨by omega, by omega⟩, w1.heap.size, ⟨some ⟨w.heap.size, 0, none⟩, n.toNat, n.toNat⟩, ⟨none, 0, 0⟩, rfl, ?_, ?_⟩⟩
  · refine ⟨BK.new w1 T.disk_Disk _, ⟨(ho.ext (ext_alloc _ _)).own.mono (Nat.zero_le _), encSec_len, by decide⟩, OwnS.nil encWr_len (by decide) _ _ _, ?_, ?_, ?_, ?_, ?_, by simp [newD]⟩
    · rintro ⟨A, hA, hb⟩; obtain rfl := Option.some.inj hA; simp only at hb; omega
    · rintro ⟨A, hA, hb⟩; simp at hA
    · rintro b _ ⟨A, hA, hb⟩; simp at hA
    · simp [newD]
    · simp [newD]; omega
  · rintro b (rfl | ⟨A, hA, rfl⟩ | ⟨A, hA, _⟩)
    · omega
    · obtain rfl := Option.some.inj hA; exact Nat.le_refl _
    · simp at hA

/-! ### Write -/
theorem app_write : AppT Try.prog [T.sl_disk_write, T.sl_disk_write] T.disk_write 513 520 (encWr (0, zeroSec)) :=
  ⟨⟨T.sl_disk_write, rfl, u_write⟩, ⟨T.sl_disk_write, _, rfl, u_write, .inr ⟨T.disk_write, rfl⟩⟩, by kernel_rfl, by kernel_rfl, by decide, z_write, encWr_len _, encWr_one _⟩
theorem zc_write : zc Try.prog T.disk_write = encWr (0, zeroSec) := by rw [zc, z_write]
theorem write_splice {z : List Value} {x : Value} {l : List Value} (hz : z.length = 513) (hl : l.length = 512) : splL (splL z 0 [x]) 1 l = x :: l := by
  match z, hz with
  | y :: r, hz =>
    have hr : r.length = 512 := by simpa using hz
    simp only [splL, List.take_zero, List.nil_append, List.length_singleton, Nat.zero_add, List.drop_succ_cons, List.drop_zero, List.singleton_append, List.take_succ_cons, hl, show 1 + 512 = 512 + 1 by rfl]
    rw [List.drop_eq_nil_of_le (by omega)]; simp
theorem slot_splice {z l : List Value} (h : z.length = l.length) : splL (repz 1 z) (0 * 513) l = l := by
  have : repz 1 z = z := by simp [repz, reps]
  rw [this, Nat.zero_mul, splL, List.take_zero, List.nil_append, Nat.zero_add, List.drop_eq_nil_of_le (by omega), List.append_nil]
theorem encWr_inj' (at_ : Int) (h : 0 ≤ at_) (x : Sec) : (.int .i64 at_ :: B8 x.1 : List Value) = encWr (at_.toNat, x) := by
  rw [encWr]; congr 2; omega
set_option maxRecDepth 100000 in
theorem disk_Write.spec {w : World} {d : Nat} {k s : SV} {D : DK} (h : DkAt w d k s D) (hn : D.waits.length ≤ 1000000) {at_ : Int} {t : SV} {b : List UInt8} (ht : RdB w t b) (hd : ∀ c, c < w.heap.size → t.blk c → ¬ s.blk c) :
    CallT [.one (.int .i64)] Try.prog F.disk_Disk_Write [dptr d, .int .i64 at_, .slice t.a t.len t.cap] w fun r w' => r = (writeD D at_ b).2 ∧ ∃ s', DkTo w w' d k s s' (writeD D at_ b).1 := by
  refine disk_Disk_Write.vc (some ⟨d, 0, none⟩) at_ t w _ ?_
  have htl := ht.lenB
  refine CallT.mono (disk_ready.spec h) ?_
  rintro _ _ ⟨rfl, rfl⟩
  by_cases hdn : D.down = true
  · rw [if_pos hdn, writeD, if_pos hdn]
    exact cnd_pos rfl ⟨rfl, s, h.to⟩
  rw [if_neg hdn, writeD, if_neg hdn]
  refine cnd_neg rfl ⟨fun _ w' => w = w' ∧ (0 ≤ at_ ∧ at_ < D.kept.length) ∧ b.length = 512, CallT.mono (disk_has.spec h at_) ?_, ?_⟩
  · rintro _ _ ⟨rfl, rfl⟩
    refine cnd_not (fun hf => ?_) (fun htr => cnd_bne (fun hne => ?_) (fun he => ⟨rfl, by simpa using htr, by omega⟩))
    · rw [if_pos (.inl (by simpa using hf))]; exact ⟨rfl, s, h.to⟩
    · rw [if_pos (.inr (by omega))]; exact ⟨rfl, s, h.to⟩
  rintro _ _ _ ⟨rfl, hat, h512⟩
  rw [if_neg (by rintro (h | h); exact h hat; exact h h512)]
  have hcells : ∀ w', RdB w' t b → ∀ A, t.a = some A → ∀ i, i < 512 → w'.cell? (A.add i) = (B8 b).toArray[i]? := fun w' hw A hA i hi => bigAt (hw.at_ A hA) i (by rw [B8_length]; omega)
  have hta : ∃ A, t.a = some A := by
    cases hA : t.a with
    | none => have := ht.nil hA; omega
    | some A => exact ⟨A, rfl⟩
  obtain ⟨A, hA⟩ := hta
  have htb : A.block < w.heap.size := by
    have := ht.at_ A hA
    exact cellsAt_lt this (by intro he; rw [← List.length_eq_zero_iff, B8_length] at he; omega)
  have hz513 : (zc Try.prog T.disk_write).length = 513 := by rw [zc_write]; exact encWr_len _
  have hl512 : (B8 b).length = 512 := by rw [B8_length]; exact h512
  refine ⟨fun w' => BK w' d T.disk_Disk (dkVs k s D) ∧ RdB w' t b, ⟨h.blk, ht.drew⟩, s, fun _ hh => hh.1.get 1 rfl, by omega, ?_⟩
  rw [hA]
  have hspl : splL (splL (zc Try.prog T.disk_write) 0 [.int .i64 at_]) 1 (B8 b).toArray.toList = encWr (at_.toNat, secOf b) := by
    rw [write_splice hz513 (by simpa using hl512), ← encWr_inj' at_ hat.1, secOf_val h512]
  refine ⟨(B8 b).toArray, by simpa using hl512, fun w' hh i hi => hcells w' hh.2 A hA i hi, rfl, by rw [hz513]; omega, by simpa using hl512, ?_, ?_, ?_, ?_⟩
  · rw [splL]; simp only [List.take_zero, List.nil_append, List.length_append, List.length_singleton, List.length_drop, hz513]; omega
  · rw [hspl]; exact encWr_len _
  · simp [repz, reps, hz513]
  rw [hspl, slot_splice (by rw [hz513]; exact (encWr_len _).symm)]
  have d1 : DkAt w.drew d k s D := h.ext (ext_drew _)
  have hal := ext_alloc w.drew (.cells (encWr (at_.toNat, secOf b)).toArray T.disk_write)
  refine ⟨⟨d1.blk.ext hal, (ht.drew).ext hal⟩, ?_⟩
  have hwl := d1.wait.len
  have hd2 : DkAt (w.drew.alloc (.cells (encWr (at_.toNat, secOf b)).toArray T.disk_write)) d k s D := d1.ext hal
  have hsrc : Src Try.prog (w.drew.alloc (.cells (encWr (at_.toNat, secOf b)).toArray T.disk_write)) 513 (.slice (some ⟨w.drew.heap.size, 0, none⟩) 1 1) 1 (encWr (at_.toNat, secOf b)) :=
    (Own.new w.drew T.disk_write 513 1 (encWr (at_.toNat, secOf b)) (encWr_len _)).rd.src (encWr_one _)
  have hz : (w.drew.alloc (.cells (encWr (at_.toNat, secOf b)).toArray T.disk_write)).heap.size = w.heap.size + 1 := by simp
  refine appV_ownL app_write hd2.wait.own hsrc (Nat.zero_le _) (fun hlt => Nat.le_trans (Nat.mul_le_mul_right _ (nextcap_le hlt)) (by omega)) ?_
  generalize hw2 : w.drew.alloc (.cells (encWr (at_.toNat, secOf b)).toArray T.disk_write) = w2 at *
  intro s' w3 ho hlen u3 hnn hloc
  have e2 : Ext w w2 := (ext_drew w).tr hal
  have hloc' : ∀ c, s'.blk c → s.blk c ∨ w2.heap.size ≤ c := by
    rintro c ⟨A', hA', rfl⟩
    rcases hloc with hl | hl
    · exact .inl ⟨A', by rw [← hl]; exact hA', rfl⟩
    · rw [hl] at hA'; obtain rfl := Option.some.inj hA'; exact .inr (Nat.le_refl _)
  have ho' : OwnS encWr 513 T.disk_write w3 0 s' (D.waits ++ [(at_.toNat, secOf b)]) := ⟨by rw [List.flatMap_append]; simpa using ho, encWr_len, by decide⟩
  have ht3 : RdB w3 t b := (((ht.drew).ext hal).keep u3 fun c hc hb hs => by
    obtain ⟨A', hA', rfl⟩ := hb
    rw [hA] at hA'; obtain rfl := Option.some.inj hA'
    exact hd _ htb ⟨A, hA, rfl⟩ hs)
  refine ⟨⟨hd2.blk.upd u3 hd2.ds, ht3⟩, ?_⟩
  obtain ⟨g1, g2, g3⟩ := hd2.putW u3 ho' hloc' (fun p hp => by
    rcases List.mem_append.1 hp with hp | hp
    · exact h.rng p hp
    · rw [List.mem_singleton] at hp; subst hp; simp only; omega)
  refine ⟨g1, g2, CallT.mono (disk_counted.spec g3.at_) ?_⟩
  rintro _ w4 ⟨rfl, h4⟩
  exact ⟨rfl, s', DkTo.pre e2 (g3.tr h4)⟩

/-! ### Read -/
theorem lastW_take {ws : List Wr} {at_ i : Nat} {p : Wr} {x : Sec} (hp : ws[i]? = some p) (he : p.1 = at_) (hno : ∀ q ∈ ws.drop (i + 1), q.1 ≠ at_) : lastW ws at_ x = p.2 := by
  have hi := (List.getElem?_eq_some_iff.1 hp).1
  have h1 : ws = (ws.take i ++ [p]) ++ ws.drop (i + 1) := by
    obtain ⟨_, rfl⟩ := List.getElem?_eq_some_iff.1 hp
    rw [List.append_assoc, List.singleton_append, ← List.drop_eq_getElem_cons hi, List.take_append_drop]
  have h2 : ∀ (l : List Wr) (y : Sec), (∀ q ∈ l, q.1 ≠ at_) → lastW l at_ y = y := by
    intro l
    induction l with
    | nil => intro y _; rfl
    | cons q r ih =>
      intro y hq
      show lastW r at_ (if q.1 = at_ then q.2 else y) = y
      rw [if_neg (hq q (by simp))]
      exact ih y fun z hz => hq z (by simp [hz])
  conv => lhs; rw [h1]
  have h3 : lastW ((ws.take i ++ [p]) ++ ws.drop (i + 1)) at_ x = lastW (ws.drop (i + 1)) at_ (lastW (ws.take i ++ [p]) at_ x) := by simp only [lastW, List.foldl_append]
  rw [h3, h2 _ _ hno]
  simp [lastW, he]
theorem lastW_none {ws : List Wr} {at_ : Nat} {x : Sec} (hno : ∀ q ∈ ws, q.1 ≠ at_) : lastW ws at_ x = x := by
  induction ws generalizing x with
  | nil => rfl
  | cons q r ih =>
    show lastW r at_ (if q.1 = at_ then q.2 else x) = x
    rw [if_neg (hno q (by simp))]
    exact ih fun z hz => hno z (by simp [hz])
theorem subA_lo (a : Option Addr) (m : Nat) (hm : m ≠ 0) : subA a 0 1 m = a := by
  unfold subA; rw [if_neg hm]; cases a <;> rfl
theorem disk_Read.spec {w : World} {d : Nat} {k s : SV} {D : DK} (h : DkAt w d k s D) (hn : D.waits.length ≤ 2000000) (at_ : Int) :
    CallT [.one .slice, .one (.int .i64)] Try.prog F.disk_Disk_Read [dptr d, .int .i64 at_] w fun r w' => OwnB w' w.heap.size r.1 (readD D at_).1 ∧ r.2 = (readD D at_).2 ∧ Ext w w' := by
  refine disk_Disk_Read.vc (some ⟨d, 0, none⟩) at_ w _ ?_
  refine CallT.mono (disk_ready.spec h) ?_
  rintro _ _ ⟨rfl, rfl⟩
  by_cases hdn : D.down = true
  · rw [if_pos hdn, readD, if_pos hdn]
    exact cnd_pos rfl ⟨Own.nil _ _ _ _, rfl, Upd.refl _ _⟩
  rw [if_neg hdn, readD, if_neg hdn]
  refine cnd_neg rfl (CallT.mono (disk_has.spec h at_) ?_)
  rintro _ _ ⟨rfl, rfl⟩
  refine cnd_not (fun hf => ?_) (fun htr => ?_)
  · rw [if_pos (by simpa using hf)]; exact ⟨Own.nil _ _ _ _, rfl, Upd.refl _ _⟩
  have hat : 0 ≤ at_ ∧ at_ < D.kept.length := by simpa using htr
  rw [if_neg (by simpa using htr)]
  obtain ⟨i, rfl⟩ : ∃ i : Nat, at_ = i := ⟨at_.toNat, by omega⟩
  rw [Int.toNat_natCast]
  have hwl := h.wait.len
  have hw0 : IntKind.i64.wrap ((s.len : Int) - 1) = (s.len : Int) - 1 := by rw [i64_id] <;> omega
  -- a copy of a sector
  have copy : ∀ (P : Prop) (_ : P) (x : Sec) (A : Addr), cellsAt w A (B8 x.1) → CallT [.one .slice] Try.prog F.slices_Clone_byte_byte [.slice (subA (some A) 0 1 512) (512 - 0) (512 - 0)] w fun r w' => OwnB w' w.heap.size r x.1 ∧ P ∧ Ext w w' := by
    intro P hP x A hA
    rw [subA_lo _ _ (by decide)]
    have hr : RdB w ⟨some A, 512, 512⟩ x.1 := ⟨by rw [B8_length, x.2]; rfl, fun h => by simp at h, fun A' hA' => by obtain rfl := Option.some.inj hA'; exact hA⟩
    refine CallT.mono (slices_Clone_byte_byte.spec hr (by rw [x.2]; decide)) ?_
    rintro o w' ⟨ho, e, _⟩
    exact ⟨ho, hP, e⟩
  refine ⟨s, h.blk.get 1 rfl, ?_⟩
  rw [hw0]
  refine ⟨fun n x w' => w = w' ∧ ∃ j : Nat, x = (j : Int) - 1 ∧ j ≤ D.waits.length ∧ n = j ∧ ∀ q ∈ D.waits.drop j, q.1 ≠ i, ⟨_, rfl, D.waits.length, by omega, Nat.le_refl _, rfl, by simp⟩, ?_⟩
  rintro n _ _ _ ⟨rfl, j, rfl, hj, rfl, hno⟩
  refine cnd_dec (fun hge => ?_) (fun hlt => ?_)
  · obtain ⟨m, rfl⟩ : ∃ m, n = m + 1 := ⟨n - 1, by omega⟩
    have hml : m < D.waits.length := by omega
    have hx : D.waits[m]? = some D.waits[m] := List.getElem?_eq_getElem hml
    have hdr : D.waits.drop m = D.waits[m] :: D.waits.drop (m + 1) := List.drop_eq_getElem_cons hml
    generalize D.waits[m] = p at hx hdr
    have hm1 : (((m + 1 : Nat) : Int) - 1) = (m : Int) := by omega
    rw [hm1]
    simp only [Int.toNat_natCast]
    refine ⟨s, h.blk.get 1 rfl, by omega, by omega, h.wait.rd.get hml fun A hA => ⟨(p.1 : Int), h.wait.rd.fld hx hA (k := 0) rfl, cnd_beq (fun he => ?_) (fun hne => ?_)⟩⟩
    · refine ⟨s, h.blk.get 1 rfl, by omega, by omega, ?_⟩
      rw [hA]
      have hc : cellsAt w ((A.add (m * 513)).add 1) (B8 p.2.1) := (h.wait.rd.at_ hx hA).drop 1
      have hs : showD D i = p.2 := lastW_take hx (by omega) hno
      rw [hs]
      exact copy _ trivial p.2 _ hc
    · refine ⟨m, by omega, trivial, m, ?_, by omega, rfl, fun q hq => ?_⟩
      · rw [i64_id] <;> omega
      · rw [hdr] at hq
        rcases List.mem_cons.1 hq with rfl | hq
        · intro he; exact hne (by omega)
        · exact hno q hq
  · have hn0 : n = 0 := by omega
    subst hn0
    have hil : i < D.kept.length := by omega
    have hx : D.kept[i]? = some D.kept[i] := List.getElem?_eq_getElem hil
    have hs : showD D i = D.kept[i] := by
      rw [showD, lastW_none (by simpa using hno), List.getD_eq_getElem?_getD, hx]; rfl
    rw [hs]
    generalize D.kept[i] = x at hx
    have hkl := h.kept.len
    refine ⟨k, h.blk.get 0 rfl, by omega, by omega, h.kept.rd.get hil fun A hA => ?_⟩
    exact copy _ rfl x _ (h.kept.rd.at_ hx hA)
end Go.Proofs
/- disk: Flush, Crash, Flip, Fork. Conditions: those of each contract. -/
namespace Go.Proofs
open Go Go.Vc
theorem applyW_take {kept : List Sec} {ws : List Wr} {i : Nat} {p : Wr} (hp : ws[i]? = some p) : applyW kept (ws.take (i + 1)) = (applyW kept (ws.take i)).set p.1 p.2 := by
  rw [List.take_add_one, hp, Option.toList_some, applyW_snoc]
set_option maxRecDepth 100000 in
theorem disk_Flush.spec {w : World} {d : Nat} {k s : SV} {D : DK} (h : DkAt w d k s D) (hn : D.waits.length ≤ 2000000) :
    CallT [.one (.int .i64)] Try.prog F.disk_Disk_Flush [dptr d] w fun r w' => r = (flushD D).2 ∧ ∃ s', DkTo w w' d k s s' (flushD D).1 := by
  refine disk_Disk_Flush.vc (some ⟨d, 0, none⟩) w _ ?_
  refine CallT.mono (disk_ready.spec h) ?_
  rintro _ _ ⟨rfl, rfl⟩
  by_cases hdn : D.down = true
  · rw [if_pos hdn, flushD, if_pos hdn]
    exact cnd_pos rfl ⟨rfl, s, h.to⟩
  rw [if_neg hdn, flushD, if_neg hdn]
  refine cnd_neg rfl (CallT.mono (disk_counted.spec h) ?_)
  rintro _ w1 ⟨rfl, h1⟩
  refine cnd_bne (fun hne => ?_) (fun he => ?_)
  · rw [if_pos hne]; exact ⟨rfl, s, h1⟩
  rw [if_neg (by rw [he]; simp)]
  obtain ⟨ck, cw, cf⟩ := cntD_kept D
  generalize hD1 : (cntD D).1 = D1 at *
  have a1 := h1.at_
  have hsl := a1.wait.len
  refine ⟨s, a1.blk.get 1 rfl, fun n x w' => ∃ i : Nat, x = i ∧ i ≤ D.waits.length ∧ n = D.waits.length - i ∧ DkTo w1 w' d k s s { D1 with kept := applyW D.kept (D.waits.take i) }, ⟨_, 0, rfl, by omega, rfl, ?_⟩, ?_⟩
  · have : ({ D1 with kept := applyW D.kept (D.waits.take 0) } : DK) = D1 := by rw [List.take_zero, applyW, List.foldl_nil, ← ck]
    rw [this]; exact a1.to
  rintro n _ _ w2 ⟨i, rfl, hi, rfl, h2⟩
  have a2 := h2.at_
  rw [cw] at hsl
  refine cnd_dec (fun hlt => ?_) (fun hge => ?_)
  · have hil : i < D.waits.length := by omega
    have hx : D.waits[i]? = some D.waits[i] := List.getElem?_eq_getElem hil
    generalize D.waits[i] = p at hx
    have hx1 : D1.waits[i]? = some p := by rw [cw]; exact hx
    have hw : IntKind.i64.wrap ((i : Int) + 1) = ((i + 1 : Nat) : Int) := by rw [i64_id] <;> omega
    have hpr : p.1 < D.kept.length := h.rng p (List.mem_of_getElem? hx)
    refine ⟨by omega, by omega, a2.wait.rd.get (i := i) (by simp only [cw]; exact hil) fun A hA => ?_⟩
    rw [Int.toNat_natCast]
    refine ⟨(encWr p).toArray, by simpa using encWr_len p, fun j hj => bigAt (a2.wait.rd.at_ hx1 hA) j (by rw [encWr_len]; exact hj), ?_⟩
    generalize hc : w2.alloc _ = w3
    dsimp only
    generalize hd : setCells w3 _ 0 _ = w4
    obtain ⟨c4, b4, e4, z4⟩ := bk_mk (T := T.disk_write) (z := zc Try.prog T.disk_write) (vs := encWr p) hc hd (by rw [zc_write, encWr_len, encWr_len])
    have a4 : DkAt w4.drew d k s { D1 with kept := applyW D.kept (D.waits.take i) } := a2.ext e4.drew
    have b4d : BK w4.drew w2.heap.size T.disk_write (encWr p) := b4
    have hkl := a4.kept.len
    simp only [applyW_len] at hkl
    refine ⟨encWr_len p, encWr_oneV p, c4, ?_⟩
    refine ⟨k, a4.blk.get 0 rfl, (p.1 : Int), b4d.get 0 rfl, (B8 p.2.1).toArray, by simpa using encSec_len p.2, fun j hj => bigAt (b4d.all.drop 1) j (by rw [show (encWr p).drop 1 = B8 p.2.1 from rfl, B8_length, p.2.2]; exact hj), by omega, by omega, a4.kept.rd.get (i := p.1) (by simp only [applyW_len]; exact hpr) fun A' hA' => ?_⟩
    rw [Int.toNat_natCast]
    obtain ⟨cc, h5⟩ := a4.setk (i := p.1) (by simp only [applyW_len]; exact hpr) hA' p.2
    refine ⟨encSec_len p.2, B8_oneV _, cc, D.waits.length - (i + 1), by omega, i + 1, hw, by omega, rfl, ?_⟩
    rw [applyW_take hx]
    exact (h2.ext e4.drew).tr h5
  · have : i = D.waits.length := by omega
    subst this
    rw [List.take_length] at h2 a2
    obtain ⟨g1, g2, g3⟩ := a2.putW (s' := ⟨none, 0, 0⟩) (l := []) (Upd.refl _ w2) (OwnS.nil encWr_len (by decide) _ _ _) (fun b hb => by obtain ⟨A, hA, _⟩ := hb; simp at hA) (by simp)
    exact ⟨g1, g2, rfl, _, (h1.tr h2).tr g3⟩

/-! ### Crash -/
def keepW : List Wr → List Bool → List Wr
  | [], _ => []
  | _ :: _, [] => []
  | p :: r, b :: bs => if b = true then p :: keepW r bs else keepW r bs
theorem keepW_take : ∀ {ws : List Wr} {keep : List Bool} {i : Nat} {p : Wr}, ws[i]? = some p → keepW (ws.take (i + 1)) keep = keepW (ws.take i) keep ++ (if keep.getD i false = true then [p] else [])
  | [], keep, i, p, h => by simp at h
  | q :: r, [], i, p, h => by cases i <;> simp [keepW]
  | q :: r, b :: bs, 0, p, h => by
    obtain rfl := Option.some.inj h
    cases b <;> simp [keepW]
  | q :: r, b :: bs, i + 1, p, h => by
    have ih := keepW_take (ws := r) (keep := bs) (i := i) (p := p) (by simpa using h)
    simp only [List.take_succ_cons, keepW, List.getD_cons_succ]
    rw [ih]
    split <;> simp
def crashD (D : DK) (keep : List Bool) : DK := { D with down := true, kept := applyW D.kept (keepW D.waits keep), waits := [] }
abbrev RdBo (w : World) (s : SV) (l : List Bool) : Prop := RdS (fun b : Bool => [Value.bool b]) 1 w s l
set_option maxRecDepth 100000 in
theorem disk_Crash.spec {w : World} {d : Nat} {k s : SV} {D : DK} (h : DkAt w d k s D) (hn : D.waits.length ≤ 2000000) {t : SV} {keep : List Bool} (ht : ∀ w', Upd (fp d k s) w w' → RdBo w' t keep) :
    CallT [.one (.int .i64)] Try.prog F.disk_Disk_Crash [dptr d, .slice t.a t.len t.cap] w fun r w' => r = 0 ∧ ∃ s', DkTo w w' d k s s' (crashD D keep) := by
  refine disk_Disk_Crash.vc (some ⟨d, 0, none⟩) t w _ ?_
  have htl := (ht w (Upd.refl _ _)).len
  obtain ⟨g1, g2, h1⟩ := h.put 2 (by omega) (.bool true) { D with down := true } rfl rfl rfl h.arm
  refine cnd_neg rfl ⟨g1, g2, ?_⟩
  dsimp only
  generalize w.setCell (Addr.add ⟨d, 0, none⟩ 2) (.bool true) = w1 at h1 ⊢
  have a1 := h1.at_
  have hsl := a1.wait.len
  simp only at hsl
  refine ⟨s, a1.blk.get 1 rfl, fun n x w' => ∃ i : Nat, x = i ∧ i ≤ D.waits.length ∧ n = D.waits.length - i ∧ DkTo w w' d k s s { D with down := true, kept := applyW D.kept (keepW (D.waits.take i) keep) }, ⟨_, 0, rfl, by omega, rfl, h1⟩, ?_⟩
  rintro n _ _ w2 ⟨i, rfl, hi, rfl, h2⟩
  have a2 := h2.at_
  refine cnd_dec (fun hlt => ?_) (fun hge => ?_)
  · have hil : i < D.waits.length := by omega
    have hx : D.waits[i]? = some D.waits[i] := List.getElem?_eq_getElem hil
    generalize D.waits[i] = p at hx
    have hw : IntKind.i64.wrap ((i : Int) + 1) = ((i + 1 : Nat) : Int) := by rw [i64_id] <;> omega
    have hpr : p.1 < D.kept.length := h.rng p (List.mem_of_getElem? hx)
    refine ⟨by omega, by omega, a2.wait.rd.get (i := i) hil fun A hA => ?_⟩
    rw [Int.toNat_natCast]
    refine ⟨(encWr p).toArray, by simpa using encWr_len p, fun j hj => bigAt (a2.wait.rd.at_ hx hA) j (by rw [encWr_len]; exact hj), ?_⟩
    generalize hc : w2.alloc _ = w3
    dsimp only
    generalize hd : setCells w3 _ 0 _ = w4
    obtain ⟨c4, b4, e4, z4⟩ := bk_mk (T := T.disk_write) (z := zc Try.prog T.disk_write) (vs := encWr p) hc hd (by rw [zc_write, encWr_len, encWr_len])
    have h4 := h2.ext e4
    have ht4 : RdBo w4 t keep := ht w4 h4.u
    refine ⟨encWr_len p, encWr_oneV p, c4, fun x w' => w4 = w' ∧ x = keep.getD i false, ?_, ?_⟩
    · refine cnd_dec (fun hlt2 => ?_) (fun hge2 => ⟨rfl, ?_⟩)
      · have hik : i < keep.length := by omega
        have hy : keep[i]? = some keep[i] := List.getElem?_eq_getElem hik
        refine ⟨by omega, by omega, ht4.get hik fun A' hA' => ⟨keep[i], ?_, rfl, ?_⟩⟩
        · exact (ht4.at_ hy hA') 0 _ rfl
        · rw [List.getD_eq_getElem?_getD, hy]; rfl
      · rw [List.getD_eq_getElem?_getD, List.getElem?_eq_none (by omega)]; rfl
    · rintro _ _ _ ⟨rfl, rfl⟩
      have b4d : BK w4.drew w2.heap.size T.disk_write (encWr p) := b4
      have hD : ∀ b, keep.getD i false = b → applyW D.kept (keepW (D.waits.take (i + 1)) keep) = if b = true then (applyW D.kept (keepW (D.waits.take i) keep)).set p.1 p.2 else applyW D.kept (keepW (D.waits.take i) keep) := by
        intro b hb
        rw [keepW_take hx, hb]
        cases b
        · simp
        · simp [applyW_snoc]
      refine cnd_intro (fun htr => ?_) (fun hfa => ?_)
      · have a4 : DkAt w4.drew d k s { D with down := true, kept := applyW D.kept (keepW (D.waits.take i) keep) } := h4.at_.ext (ext_drew _)
        have hkl := a4.kept.len
        simp only [applyW_len] at hkl
        refine ⟨k, a4.blk.get 0 rfl, (p.1 : Int), b4d.get 0 rfl, (B8 p.2.1).toArray, by simpa using encSec_len p.2, fun j hj => bigAt (b4d.all.drop 1) j (by rw [show (encWr p).drop 1 = B8 p.2.1 from rfl, B8_length, p.2.2]; exact hj), by omega, by omega, a4.kept.rd.get (i := p.1) (by simp only [applyW_len]; exact hpr) fun A' hA' => ?_⟩
        rw [Int.toNat_natCast]
        obtain ⟨cc, h5⟩ := a4.setk (i := p.1) (by simp only [applyW_len]; exact hpr) hA' p.2
        refine ⟨encSec_len p.2, B8_oneV _, cc, D.waits.length - (i + 1), by omega, i + 1, hw, by omega, rfl, ?_⟩
        rw [hD true htr, if_pos rfl]
        exact (h4.ext (ext_drew _)).tr h5
      · refine ⟨D.waits.length - (i + 1), by omega, i + 1, hw, by omega, rfl, ?_⟩
        rw [hD false hfa, if_neg (by simp)]
        exact h4
  · have : i = D.waits.length := by omega
    subst this
    rw [List.take_length] at h2 a2
    obtain ⟨g1, g2, g3⟩ := a2.putW (s' := ⟨none, 0, 0⟩) (l := []) (Upd.refl _ w2) (OwnS.nil encWr_len (by decide) _ _ _) (fun b hb => by obtain ⟨A, hA, _⟩ := hb; simp at hA) (by simp)
    exact ⟨g1, g2, rfl, _, h2.tr g3⟩

/-! ### Flip -/
/-! ### Fork -/
end Go.Proofs
/- dunnagelaw04.full, awake; calls on a nil disk; the walk of DiskNil. Conditions: those of each contract. -/
namespace Go.Proofs
open Go Go.Vc
@[reducible] def encB (b : UInt8) : List Value := [.int .u8 b.toNat]
theorem _root_.Go.Vc.OwnS.bytes {w : World} {B : Nat} {s : SV} {l : List UInt8} (h : OwnS encB 1 T.uint8 w B s l) : OwnB w B s l := by
  have := h.own
  rwa [show l.flatMap encB = B8 l from B8_flat l] at this
/-! ### awake -/
/-! ### a nil disk -/
end Go.Proofs
/- dunnagelaw04.DiskArmed: an armed disk is hit by the n-th write or flush and is down from then on. Conditions: the flags are readable. -/
namespace Go.Proofs
open Go Go.Vc
theorem bools_rel {w : World} {bd : TypeId → Nat → Prop} {bs : Nat → Prop} {e : TypeId} {a : Option Addr} {len cap : Nat} (h : DS.rel w bd bs (.slice e 1 .bool) [.slice a len cap]) :
    ∃ l : List Bool, RdBo w ⟨a, len, cap⟩ l ∧ len ≤ cap ∧ (cap = 0 ∨ bd e cap) := by
  have key : ∀ es : List Value, es.length = 1 → DS.rel w bd bs .bool es → ∃ x : Bool, [Value.bool x] = es ∧ True := by
    intro es hl hr
    obtain ⟨n, rfl⟩ := hr
    exact ⟨n, rfl, trivial⟩
  obtain ⟨l, h1, h2, h3, _⟩ := DS.flat (enc := fun b : Bool => [Value.bool b]) (fun _ => True) h (fun _ => rfl) (by decide) key
  exact ⟨l, h1, h2, h3⟩
end Go.Proofs
/- dunnagelaw27.ManifestStands: the last manifest that was flushed counts, or the one that was under way. Conditions: what came in is of the sizes that the form allows. -/
namespace Go.Proofs
open Go Go.Vc Go.Crc
/-! ### the plain law -/
def two (x0 x1 : Sec) : DK := ⟨[x0, x1], [], false, 0, 0⟩
def put (x0 x1 : Sec) (slot : Nat) (y : Sec) : DK := if slot = 0 then two y x1 else two x0 y
def arm (D : DK) (a : Nat) : DK := { D with armed := a }
theorem two_write (x0 x1 : Sec) {slot : Nat} (hs : slot ≤ 1) {b : List UInt8} (hb : b.length = 512) : writeD (two x0 x1) (slot : Int) b = ({ two x0 x1 with waits := [(slot, secOf b)] }, 0) := by
  rw [writeD, if_neg (by simp [two]), if_neg (by simp [two, hb]; omega)]
  simp [cntD, hitD, two]
theorem two_flush (x0 x1 y : Sec) {slot : Nat} (hs : slot ≤ 1) : flushD { two x0 x1 with waits := [(slot, y)] } = (put x0 x1 slot y, 0) := by
  have h : slot = 0 ∨ slot = 1 := by omega
  rcases h with rfl | rfl <;> simp [flushD, cntD, hitD, two, put, applyW]
def fin4 (x0 x1 : Sec) (a : Nat) (slot : Nat) (b : List UInt8) (keep : List Bool) : DK := startD (crashD (flushD (writeD (arm (two x0 x1) a) (slot : Int) b).1).1 keep)
theorem fin_cases (x0 x1 : Sec) {a slot : Nat} (ha : a < 3) (hs : slot ≤ 1) {b : List UInt8} (hb : b.length = 512) (keep : List Bool) :
    (fin4 x0 x1 a slot b keep = two x0 x1 ∨ fin4 x0 x1 a slot b keep = put x0 x1 slot (secOf b)) ∧ (writeD (arm (two x0 x1) a) (slot : Int) b).1.waits.length ≤ 10 ∧ (flushD (writeD (arm (two x0 x1) a) (slot : Int) b).1).1.waits.length ≤ 10 := by
  have h : slot = 0 ∨ slot = 1 := by omega
  have h3 : a = 0 ∨ a = 1 ∨ a = 2 := by omega
  have hw : writeD (arm (two x0 x1) a) (slot : Int) b = cntD { arm (two x0 x1) a with waits := [(slot, secOf b)] } := by
    rw [writeD, if_neg (by simp [two, arm]), if_neg (by simp [two, arm, hb]; omega)]
    simp [two, arm]
  rw [fin4, hw]
  rcases h with rfl | rfl <;> rcases h3 with rfl | rfl | rfl <;> cases keep with
  | nil => simp [cntD, hitD, two, arm, flushD, crashD, startD, applyW, keepW, put]
  | cons f r => cases f <;> simp [cntD, hitD, two, arm, flushD, crashD, startD, applyW, keepW, put]
theorem two_read (x0 x1 : Sec) {i : Nat} (h : i ≤ 1) : readD (two x0 x1) (i : Int) = ((if i = 0 then x0 else x1).1, 0) := by
  have h : i = 0 ∨ i = 1 := by omega
  rcases h with rfl | rfl <;> simp [readD, two, showD, lastW]
def Old (x : Sec) (m : Man) : Prop := x = zeroSec ∨ ∃ k, May k ∧ k.turn < m.turn ∧ x.1 = wrM k
theorem Old.mono {x : Sec} {m m' : Man} (h : Old x m) (ht : m.turn ≤ m'.turn) : Old x m' := h.imp id fun ⟨k, h1, h2, h3⟩ => ⟨k, h1, by omega, h3⟩
/-- The manifest m stands in the slot, and whatever stands in the other one is elder. -/
def Stands (slot : Nat) (m : Man) (x0 x1 : Sec) : Prop := (slot = 0 ∧ x0.1 = wrM m ∧ Old x1 m) ∨ (slot = 1 ∧ x1.1 = wrM m ∧ Old x0 m)
theorem Stands.choose {slot : Nat} {m : Man} {x0 x1 : Sec} (hm : May m) (h : Stands slot m x0 x1) : chooseM x0.1 x1.1 = (m, (slot : Int), 0) := by
  rcases h with ⟨rfl, h1, h2⟩ | ⟨rfl, h1, h2⟩
  · rw [h1]
    rcases h2 with rfl | ⟨k, g1, g2, g3⟩
    · exact ch_one hm
    · rw [g3]; exact ch_first hm g1 g2
  · rw [h1]
    rcases h2 with rfl | ⟨k, g1, g2, g3⟩
    · exact ch_two hm
    · rw [g3]; exact ch_second g1 hm g2
theorem Stands.put {slot : Nat} {m n : Man} {x0 x1 : Sec} (hm : May m) (hn : May n) (ht : m.turn < n.turn) (h : Stands slot m x0 x1) : ∃ y0 y1, Go.Proofs.put x0 x1 (1 - slot) (secOf (wrM n)) = two y0 y1 ∧ Stands (1 - slot) n y0 y1 := by
  have hv := secOf_val (wrM_len hn)
  rcases h with ⟨rfl, h1, h2⟩ | ⟨rfl, h1, h2⟩
  · exact ⟨x0, secOf (wrM n), rfl, .inr ⟨rfl, hv, .inr ⟨m, hm, ht, h1⟩⟩⟩
  · exact ⟨secOf (wrM n), x1, rfl, .inl ⟨rfl, hv, .inr ⟨m, hm, ht, h1⟩⟩⟩
/-! ### a device, and variables beside it -/
structure Dv (w v : World) (P : Nat → Prop) (d : Nat) (k s : SV) (D : DK) : Prop where
  at_ : DkAt v d k s D
  far : ∀ b, fp d k s b → w.heap.size ≤ b ∧ ¬ P b
  ext : Ext w v
theorem Dv.more {w v v' : World} {P : Nat → Prop} {d : Nat} {k s : SV} {D : DK} (h : Dv w v P d k s D) (e : Ext v v') : Dv w v' P d k s D := ⟨h.at_.ext e, h.far, h.ext.tr e⟩
theorem Dv.also {w v : World} {P : Nat → Prop} {d : Nat} {k s : SV} {D : DK} (h : Dv w v P d k s D) (c : Nat) (hc : v.heap.size ≤ c) : Dv w v (fun b => P b ∨ b = c) d k s D :=
  ⟨h.at_, fun b hb => ⟨(h.far b hb).1, fun g => by
    rcases g with g | g
    · exact (h.far b hb).2 g
    · have := h.at_.lt hb; omega⟩, h.ext⟩
theorem Dv.to {w v v' : World} {P : Nat → Prop} {d : Nat} {k s s' : SV} {D D' : DK} (h : Dv w v P d k s D) (hP : ∀ b, P b → b < v.heap.size) (t : DkTo v v' d k s s' D') : Dv w v' P d k s' D' ∧ ∀ b T vs, P b → BK v b T vs → BK v' b T vs := by
  have hz := h.ext.size
  refine ⟨⟨t.at_, fun b hb => ?_, h.ext.trans t.u fun x hx hb => by have := (h.far x hb).1; omega⟩, fun b T vs hb hk => hk.upd t.u fun g => (h.far b g).2 hb⟩
  rcases hb with rfl | hb | hb
  · exact h.far _ (.inl rfl)
  · exact h.far _ (.inr (.inl hb))
  · rcases t.n b hb with g | g
    · exact h.far _ (.inr (.inr g))
    · exact ⟨by omega, fun g2 => by have := hP b g2; omega⟩
theorem mod6 (x : Int) : ∃ n : Nat, IntKind.i64.wrap ((IntKind.u64.wrap x).tmod 6) = n ∧ n < 6 := by
  have h2 : 0 ≤ IntKind.u64.wrap x := by rw [u64_mod]; omega
  rw [Int.tmod_eq_emod_of_nonneg h2, i64_id (by omega) (by omega)]
  exact ⟨(IntKind.u64.wrap x % 6).toNat, by omega, by omega⟩
theorem mod3 (x : Int) : ∃ n : Nat, IntKind.i64.wrap ((IntKind.u64.wrap x).tmod 3) = n ∧ n < 3 := by
  have h2 : 0 ≤ IntKind.u64.wrap x := by rw [u64_mod]; omega
  rw [Int.tmod_eq_emod_of_nonneg h2, i64_id (by omega) (by omega)]
  exact ⟨(IntKind.u64.wrap x % 3).toNat, by omega, by omega⟩
def Pl (i slot : Nat) (m : Man) (x0 x1 : Sec) : Prop := (i = 0 ∧ slot = 1 ∧ x0 = zeroSec ∧ x1 = zeroSec) ∨ (1 ≤ i ∧ Stands slot m x0 x1)
theorem Pl.step {i slot : Nat} {m n : Man} {x0 x1 : Sec} (hm : May m) (hn : May n) (ht : m.turn < n.turn) (hs : slot ≤ 1) (h : Pl i slot m x0 x1) : ∃ y0 y1, put x0 x1 (1 - slot) (secOf (wrM n)) = two y0 y1 ∧ Pl (i + 1) (1 - slot) n y0 y1 := by
  rcases h with ⟨rfl, rfl, rfl, rfl⟩ | ⟨h1, h2⟩
  · exact ⟨secOf (wrM n), zeroSec, rfl, .inr ⟨by omega, .inl ⟨rfl, secOf_val (wrM_len hn), .inl rfl⟩⟩⟩
  · obtain ⟨y0, y1, g1, g2⟩ := h2.put hm hn ht
    exact ⟨y0, y1, g1, .inr ⟨by omega, g2⟩⟩
set_option maxRecDepth 100000 in
set_option maxHeartbeats 4000000 in
theorem dunnagelaw27_ManifestStands.spec {w : World} {m : Man} (_hu : U9 m) {n1 n2 : Int} {t : SV} {keep : List Bool} (ht : RdBo w t keep) :
    CallT [.one .bool] Try.prog F.dunnagelaw27_ManifestStands [.agg (m9v m.t).toArray, .int .i64 n1, .int .i64 n2, .slice t.a t.len t.cap] w fun r w' => r = true ∧ Ext w w' := by
  refine dunnagelaw27_ManifestStands.vc m.t n1 n2 t w _ ?_
  generalize hc1 : w.alloc _ = w1
  obtain ⟨b1, e1, z1⟩ := bk_new (T := T.api_Manifest) (vs := m9v m.t) hc1
  refine CallT.mono (disk_New.spec 2 w1) ?_
  rintro ⟨dp, de⟩ w2 ⟨e2, h2⟩
  have h2' : ∃ d k s, dp = some ⟨d, 0, none⟩ ∧ DkAt w2 d k s (newD 2) ∧ ∀ b, fp d k s b → w1.heap.size ≤ b := by
    rcases h2 with ⟨h, _⟩ | ⟨_, d, k, s, hr, h3, h4⟩
    · omega
    · exact ⟨d, k, s, congrArg Prod.fst hr, h3, h4⟩
  obtain ⟨d, k0, s0, rfl, hd, hfar⟩ := h2'
  have e02 := e1.tr e2
  have b2 := b1.ext e2
  have lA := b1.lt
  refine ⟨fun _ v => Ext w2 v ∧ May m ∧ m.turn ≤ 2305843009213693952, ⟨fun b v => Ext w2 v ∧ (b = false → May m ∧ m.turn ≤ 2305843009213693952), CallT.mono (awake27.spec w2) ?_, ?_⟩, ?_⟩
  · rintro _ w3 ⟨rfl, e3⟩
    refine cnd_neg rfl (cnd_neg rfl ⟨m.t, (b2.ext e3).all, CallT.mono (manifest_May.spec m w3) ?_⟩)
    rintro _ w4 ⟨rfl, e4⟩
    refine cnd_not (fun hf => ⟨e3.tr e4, by simp⟩) (fun hf => ⟨(m.turn : Int), ((b2.ext e3).ext e4).get 0 rfl, e3.tr e4, fun h => ⟨by simpa using hf, ?_⟩⟩)
    have := of_decide_eq_false h
    omega
  · rintro b _ w3 ⟨e3, hb⟩
    cases b with
    | false => exact cnd_neg rfl ⟨e3, hb rfl⟩
    | true =>
      refine cnd_pos rfl (CallT.mono (awake27.spec w3) ?_)
      rintro _ w4 ⟨rfl, e4⟩
      exact ⟨rfl, (e02.tr e3).tr e4⟩
  rintro _ _ w3 ⟨e3, hm, hturn⟩
  obtain ⟨N, hN, hN6⟩ := mod6 n1
  obtain ⟨a, hna, ha3⟩ := mod3 n2
  rw [hN, hna]
  generalize hc4 : w3.alloc _ = w4
  obtain ⟨b4, e4, z4⟩ := bk_new (T := T.api_Manifest) (vs := zMan) hc4
  have e34 := e3.tr e4
  have hz2 := e2.size
  have hz3 := e3.size
  have hDv : Dv w w4 (fun b => b = w.heap.size ∨ b = w3.heap.size) d k0 s0 (two zeroSec zeroSec) :=
    ⟨hd.ext e34, fun b hb => ⟨by have := hfar b hb; omega, fun g => by
      have h1 := hfar b hb
      have h2 := hd.lt hb
      rcases g with g | g <;> omega⟩, e02.tr e34⟩
  have hAL : ∀ v : World, w3.heap.size < v.heap.size → ∀ b, (b = w.heap.size ∨ b = w3.heap.size) → b < v.heap.size := fun v hv b hb => by rcases hb with rfl | rfl <;> omega
  have hz : m9v Man.z.t = zMan := by simp [Man.z]
  refine ⟨fun n x v => ∃ (i slot : Nat) (c ml : Man) (k s : SV) (x0 x1 : Sec), x = ((slot : Int), (i : Int)) ∧ i ≤ N + 1 ∧ n = N + 1 - i ∧ slot ≤ 1 ∧ May c ∧ c.turn ≤ 2305843009213693952 + i ∧ BK v w.heap.size T.api_Manifest (m9v c.t) ∧ BK v w3.heap.size T.api_Manifest (m9v ml.t) ∧ (0 < i → ml = c) ∧ Dv w v (fun b => b = w.heap.size ∨ b = w3.heap.size) d k s (two x0 x1) ∧ Pl i slot c x0 x1,
    ⟨N + 1, 0, 1, m, Man.z, k0, s0, zeroSec, zeroSec, rfl, by omega, rfl, by omega, hm, by omega, b2.ext e34, by rw [hz]; exact b4, by omega, hDv, .inl ⟨rfl, rfl, rfl, rfl⟩⟩, ?_⟩
  rintro n _ _ v1 ⟨i, slot, c, ml, k, s, x0, x1, rfl, hi, rfl, hs, hc, hct, gA, gL, hml, gD, hP⟩
  have hL1 := gL.lt
  have hslot : (if (slot : Int) = 0 then (1 : Int) else 0) = ((1 - slot : Nat) : Int) := by
    have h : slot = 0 ∨ slot = 1 := by omega
    rcases h with rfl | rfl <;> rfl
  dsimp only
  refine cnd_dec (fun hle => ?_) (fun hgt => ?_)
  · refine ⟨c.t, gA.all, CallT.mono (manifest_Next.spec c slot v1) ?_⟩
    rintro ⟨nx, ns⟩ v2 ⟨hnx, hns, g2⟩
    rw [nextM_yes hc, hslot] at hnx hns
    dsimp only at hnx hns ⊢
    subst hnx hns
    have gA2 := gA.ext g2
    have gL2 := gL.ext g2
    have gD2 := gD.more g2
    have hz12 := g2.size
    refine ⟨gA2.can (by simp), ?_⟩
    have gA3 : BK (setCells v2 ⟨w.heap.size, 0, none⟩ 0 (m9v ({ c with turn := c.turn + 1 } : Man).t)) w.heap.size T.api_Manifest (m9v ({ c with turn := c.turn + 1 } : Man).t) := gA2.set (by simp)
    have u3 : Upd (fun x => x = w.heap.size) v2 (setCells v2 ⟨w.heap.size, 0, none⟩ 0 (m9v ({ c with turn := c.turn + 1 } : Man).t)) := (Upd.refl (fun x => x = w.heap.size) v2).setCells (p := ⟨w.heap.size, 0, none⟩) (fun _ => rfl) 0 _
    generalize setCells v2 ⟨w.heap.size, 0, none⟩ 0 _ = v3 at *
    obtain ⟨q1, q2, gA4⟩ := gA3.store 7 (by simp) (.int .u64 (IntKind.u64.wrap (i : Int)))
    refine ⟨q1, q2, ?_⟩
    have u4 : Upd (fun x => x = w.heap.size) v3 (v3.setCell (Addr.add ⟨w.heap.size, 0, none⟩ 7) (.int .u64 (IntKind.u64.wrap (i : Int)))) := by
      rw [add_mk]; exact (Upd.refl (fun x => x = w.heap.size) v3).set (p := ⟨w.heap.size, 0 + 7, none⟩) (fun _ => rfl) _
    generalize v3.setCell _ _ = v4 at *
    have hwi : IntKind.u64.wrap (i : Int) = ((i : Nat) : Int) := by rw [u64_mod]; omega
    rw [hwi] at gA4
    have hcM := hc
    unfold May at hcM
    have hc2 : May ({ c with turn := c.turn + 1, seq := i } : Man) := by unfold May; simp only; omega
    have gA4 : BK v4 w.heap.size T.api_Manifest (m9v ({ c with turn := c.turn + 1, seq := i } : Man).t) := gA4
    have u24 : Upd (fun x => x = w.heap.size) v2 v4 := u3.tr u4
    have gL4 := gL2.upd u24 (by omega)
    have gD4 : Dv w v4 (fun b => b = w.heap.size ∨ b = w3.heap.size) d k s (two x0 x1) := ⟨gD2.at_.upd u24 fun b hb h => (gD2.far b hb).2 (.inl h), gD2.far, gD2.ext.trans u24 fun x hx h => by omega⟩
    have hz24 := u24.size
    generalize hcn : ({ c with turn := c.turn + 1, seq := i } : Man) = c' at *
    have hct' : c'.turn = c.turn + 1 := by rw [← hcn]
    refine ⟨c'.t, gA4.all, CallT.mono (manifest_Write.spec hc2.u9 v4) ?_⟩
    rintro ⟨o, oe⟩ v5 ⟨ho, hoe, g5⟩
    rw [writeM, if_pos hc2] at ho hoe
    dsimp only at ho hoe ⊢
    subst hoe
    have hz45 := g5.size
    refine cnd_neg rfl ?_
    have gD5 := gD4.more g5
    have gA5 := gA4.ext g5
    have gL5 := gL4.ext g5
    have hwl := wrM_len hc2
    refine CallT.mono (disk_Write.spec gD5.at_ (by simp [two]) ho.rd (fun b hb h1 h2 => ?_)) ?_
    · have := (ho.new b h1).1
      have := gD4.at_.lt (.inr (.inr h2))
      omega
    rw [two_write x0 x1 (by omega) hwl]
    rintro _ v6 ⟨rfl, s6, t6⟩
    obtain ⟨gD6, kp6⟩ := gD5.to (hAL v5 (by omega)) t6
    have hz6 := t6.u.size
    refine cnd_neg rfl (CallT.mono (disk_Flush.spec gD6.at_ (by simp)) ?_)
    rw [two_flush x0 x1 _ (by omega)]
    rintro _ v7 ⟨rfl, s7, t7⟩
    obtain ⟨gD7, kp7⟩ := gD6.to (hAL v6 (by omega)) t7
    have gA7 := kp7 _ _ _ (.inl rfl) (kp6 _ _ _ (.inl rfl) gA5)
    have gL7 := kp7 _ _ _ (.inr rfl) (kp6 _ _ _ (.inr rfl) gL5)
    obtain ⟨y0, y1, hy, hP'⟩ := hP.step hc hc2 (by omega) hs
    dsimp only at gD7
    rw [hy] at gD7
    refine cnd_neg rfl ⟨c'.t, gA7.all, gL7.can (by simp), N + 1 - (i + 1), by omega, i + 1, 1 - slot, c', c', k, s7, y0, y1, ?_, by omega, rfl, by omega, hc2, by omega, gA7.sets_ne (A := ⟨w3.heap.size, 0, none⟩) (by show w.heap.size ≠ w3.heap.size; omega) 0 _, gL7.set (by simp), fun _ => rfl, ?_, hP'⟩
    · rw [i64_id (by omega) (by omega)]; simp
    · have u8 : Upd (fun x => x = w3.heap.size) v7 (setCells v7 ⟨w3.heap.size, 0, none⟩ 0 (m9v c'.t)) := (Upd.refl (fun x => x = w3.heap.size) v7).setCells (p := ⟨w3.heap.size, 0, none⟩) (fun _ => rfl) 0 _
      exact ⟨gD7.at_.upd u8 fun b hb h => (gD7.far b hb).2 (.inr h), gD7.far, gD7.ext.trans u8 fun x hx h => by omega⟩
  · have hi1 : i = N + 1 := by omega
    obtain rfl := hml (by omega)
    have hSt : Stands slot ml x0 x1 := by
      rcases hP with ⟨h, _⟩ | ⟨_, h⟩
      · omega
      · exact h
    refine ⟨ml.t, gA.all, CallT.mono (manifest_Next.spec ml slot v1) ?_⟩
    rintro ⟨nx, ns⟩ v2 ⟨hnx, hns, g2⟩
    rw [nextM_yes hc, hslot] at hnx hns
    dsimp only at hnx hns ⊢
    subst hnx hns
    have hcM := hc
    unfold May at hcM
    have hc2 : May ({ ml with turn := ml.turn + 1 } : Man) := by unfold May; simp only; omega
    generalize hcn : ({ ml with turn := ml.turn + 1 } : Man) = c' at *
    have hct' : c'.turn = ml.turn + 1 := by rw [← hcn]
    generalize ha3' : v2.alloc _ = v3
    generalize hd3' : setCells v3 _ 0 _ = v4
    obtain ⟨c4, bN, g4, z4'⟩ := bk_mk (T := T.api_Manifest) (z := zMan) (vs := m9v c'.t) ha3' hd3' rfl
    have gD2 := (gD.more g2).also v2.heap.size (Nat.le_refl _)
    have gD4 := gD2.more g4
    have gL4 := (gL.ext g2).ext g4
    refine ⟨c4, c'.t, bN.all, CallT.mono (manifest_Write.spec hc2.u9 v4) ?_⟩
    rintro ⟨o, oe⟩ v5 ⟨ho, hoe, g5⟩
    rw [writeM, if_pos hc2] at ho hoe
    dsimp only at ho hoe ⊢
    subst hoe
    refine cnd_neg rfl ?_
    have gD5 := gD4.more g5
    have bN5 := bN.ext g5
    have gL5 := gL4.ext g5
    have hwl := wrM_len hc2
    have hLv5 := gL5.lt
    have hNv5 := bN5.lt
    have hP3 : ∀ v : World, v5.heap.size ≤ v.heap.size → ∀ b, ((b = w.heap.size ∨ b = w3.heap.size) ∨ b = v2.heap.size) → b < v.heap.size := fun v hv b hb => by rcases hb with (rfl | rfl) | rfl <;> omega
    refine CallT.mono (disk_Arm.spec gD5.at_ (n := (a : Int)) (by omega)) ?_
    have harm : armD (two x0 x1) (a : Int) = (arm (two x0 x1) a, 0) := by
      rw [armD, if_neg (by simp [two])]
      have : (max (a : Int) 0).toNat = a := by omega
      rw [this]; rfl
    rw [harm]
    rintro _ v6 ⟨_, t6⟩
    obtain ⟨gD6, kp6⟩ := gD5.to (hP3 v5 (Nat.le_refl _)) t6
    have gD6 : Dv w v6 (fun b => (b = w.heap.size ∨ b = w3.heap.size) ∨ b = v2.heap.size) d k s (arm (two x0 x1) a) := gD6
    have hz6 := t6.u.size
    obtain ⟨hfin, hw10, hf10⟩ := fin_cases x0 x1 ha3 (show 1 - slot ≤ 1 by omega) hwl keep
    have ho6 : RdB v6 o (wrM c') := ho.rd.upd t6.u fun b hb hf => by
      have := (ho.new b hb).1
      have := gD4.at_.lt hf
      omega
    refine CallT.mono (disk_Write.spec gD6.at_ (by simp [two, arm]) ho6 (fun b hb h1 h2 => ?_)) ?_
    · have := (ho.new b h1).1
      have := gD4.at_.lt (.inr (.inr h2))
      omega
    rintro _ v7 ⟨_, s7, t7⟩
    obtain ⟨gD7, kp7⟩ := gD6.to (hP3 v6 (by omega)) t7
    have hz7 := t7.u.size
    refine CallT.mono (disk_Flush.spec gD7.at_ (by omega)) ?_
    rintro _ v8 ⟨_, s8, t8⟩
    obtain ⟨gD8, kp8⟩ := gD7.to (hP3 v7 (by omega)) t8
    have hz8 := t8.u.size
    refine CallT.mono (disk_Crash.spec gD8.at_ (by omega) (t := t) (keep := keep) (fun v hv => ht.ext (gD8.ext.trans hv fun x hx h => by have := (gD8.far x h).1; omega))) ?_
    rintro _ v9 ⟨_, s9, t9⟩
    obtain ⟨gD9, kp9⟩ := gD8.to (hP3 v8 (by omega)) t9
    have hz9 := t9.u.size
    refine CallT.mono (disk_Start.spec gD9.at_) ?_
    rintro _ v10 ⟨_, s10, t10⟩
    obtain ⟨gD10, kp10⟩ := gD9.to (hP3 v9 (by omega)) t10
    have kp : ∀ b T vs, ((b = w.heap.size ∨ b = w3.heap.size) ∨ b = v2.heap.size) → BK v5 b T vs → BK v10 b T vs := fun b T vs hb h => kp10 _ _ _ hb (kp9 _ _ _ hb (kp8 _ _ _ hb (kp7 _ _ _ hb (kp6 _ _ _ hb h))))
    have gL10 := kp _ _ _ (.inl (.inr rfl)) gL5
    have gN10 := kp _ _ _ (.inr rfl) bN5
    have hfin' : ∃ (y0 y1 : Sec) (sl : Nat) (cc : Man), fin4 x0 x1 a (1 - slot) (wrM c') keep = two y0 y1 ∧ May cc ∧ Stands sl cc y0 y1 ∧ (cc = ml ∧ sl = slot ∨ cc = c' ∧ sl = 1 - slot) := by
      rcases hfin with h | h
      · exact ⟨x0, x1, slot, ml, h, hc, hSt, .inl ⟨rfl, rfl⟩⟩
      · obtain ⟨y0, y1, h1, h2⟩ := hSt.put hc hc2 (by omega)
        exact ⟨y0, y1, 1 - slot, c', h.trans h1, hc2, h2, .inr ⟨rfl, rfl⟩⟩
    obtain ⟨y0, y1, sl, cc, hf4, hcc, hSt2, hor⟩ := hfin'
    have gDf : Dv w v10 (fun b => (b = w.heap.size ∨ b = w3.heap.size) ∨ b = v2.heap.size) d k s10 (two y0 y1) := by rw [← hf4]; exact gD10
    refine CallT.mono (disk_Read.spec gDf.at_ (by simp [two]) 0) ?_
    rw [show readD (two y0 y1) 0 = (y0.1, 0) from two_read y0 y1 (i := 0) (by omega)]
    rintro ⟨p, pe⟩ v11 ⟨hp, _, g11⟩
    have gDg := gDf.more g11
    refine CallT.mono (disk_Read.spec gDg.at_ (by simp [two]) 1) ?_
    rw [show readD (two y0 y1) 1 = (y1.1, 0) from two_read y0 y1 (i := 1) (by omega)]
    rintro ⟨q, qe⟩ v12 ⟨hq, _, g12⟩
    dsimp only at hp hq ⊢
    refine CallT.mono (manifest_Choose.spec (hp.rd.ext g12) hp.cap_le (by rw [y0.2]; decide) hq.rd hq.cap_le (by rw [y1.2]; decide)) ?_
    rintro ⟨r, ri, re⟩ v13 ⟨hr, hri, hre, g13⟩
    rw [hSt2.choose hcc] at hr hri hre
    dsimp only at hr hri hre ⊢
    subst hr hri hre
    generalize ha14 : v13.alloc _ = v14
    generalize hd14 : setCells v14 _ 0 _ = v15
    obtain ⟨c15, b15, g15, z15⟩ := bk_mk (T := T.api_Manifest) (z := zMan) (vs := m9v cc.t) ha14 hd14 rfl
    have e1015 : Ext v10 v15 := ((g11.tr g12).tr g13).tr g15
    have eAll : Ext w v15 := gDf.ext.tr e1015
    have gL15 := gL10.ext e1015
    have gN15 := gN10.ext e1015
    have tail : (cc = c' ∧ sl = 1 - slot) → ∃ x : M9, cellsAt v15 ⟨v13.heap.size, 0, none⟩ (m9v x) ∧ ∃ y : M9, cellsAt v15 ⟨v2.heap.size, 0, none⟩ (m9v y) ∧ cnd (x.1 == y.1 && (x.2.1 == y.2.1 && (x.2.2.1 == y.2.2.1 && (x.2.2.2.1 == y.2.2.2.1 && (x.2.2.2.2.1 == y.2.2.2.2.1 && (x.2.2.2.2.2.1 == y.2.2.2.2.2.1 && (x.2.2.2.2.2.2.1 == y.2.2.2.2.2.2.1 && (x.2.2.2.2.2.2.2.1 == y.2.2.2.2.2.2.2.1 && (x.2.2.2.2.2.2.2.2 == y.2.2.2.2.2.2.2.2 && true))))))))) (((sl : Int) == ((1 - slot : Nat) : Int)) = true ∧ Ext w v15) (false = true ∧ Ext w v15) := fun ⟨h1, h2⟩ => by
      subst h1
      exact ⟨cc.t, b15.all, cc.t, gN15.all, cnd_pos (meq_self _) ⟨by rw [h2]; simp, eAll⟩⟩
    refine ⟨c15, cnd_pos rfl ⟨cc.t, b15.all, ml.t, gL15.all, ?_⟩⟩
    rcases hor with ⟨rfl, rfl⟩ | h
    · exact cnd_pos (meq_self _) (cnd_pos (by simp) ⟨rfl, eAll⟩)
    · refine cnd_intro (fun _ => cnd_intro (fun _ => ⟨rfl, eAll⟩) fun _ => tail h) fun _ => tail h
theorem dunnagelaw27_ManifestStands.row {w : World} {bd : TypeId → Nat → Prop} {bs : Nat → Prop} {a0 : Array Value} {n1 n2 : Int} {t : SV} {keep : List Bool} (h : DS.rel w bd bs (.struct (.cons 0 1 (.int .u64) (.cons 1 1 (.int .u64) (.cons 2 1 (.int .i64) (.cons 3 1 (.int .i64) (.cons 4 1 (.int .u64) (.cons 5 1 (.int .u64) (.cons 6 1 (.int .u64) (.cons 7 1 (.int .u64) (.cons 8 1 (.int .u64) .nil)))))))))) a0.toList) (g : a0.size = 9) (ht : RdBo w t keep) :
    CallT [.one .bool] Try.prog F.dunnagelaw27_ManifestStands [.agg a0, .int .i64 n1, .int .i64 n2, .slice t.a t.len t.cap] w fun r w' => r = true ∧ Ext w w' := by
  obtain ⟨m, rfl, hu⟩ := man_rel h g
  exact dunnagelaw27_ManifestStands.spec hu ht
end Go.Proofs
