/- Texts that the claim leans on, one behind the other: each begins with a sentence of its own. Conditions: those that each names. -/
import Derived.Below
import Derived.ChangeOld
import Derived.Deep.Quiet
import Derived.KernelRfl
import Derived.Laws.Cells
import Derived.Laws.Entries
import Derived.Laws.Sem
import Derived.Laws.Strings
import Derived.Laws.World
import Derived.Lib.SlBytesConst
import Derived.OpenShut
import Derived.Orders
import Derived.OrdersHeld
import Derived.ProofKit
import Derived.ShutString
import Derived.SizedLaws
import Derived.StillTail
import Derived.Tactics
import Derived.Test.YtinolellciikoaaProg
import Derived.Test.YtinolellciikoaaRows
import Derived.Test.YtinolellciikoaaPkM2
/- The conditions of the seat's functions, written by a program (VcTool, genvc.py) off 'vc' reduced; each is tied to 'vc' by the kernel. Conditions: none. -/
set_option linter.unusedVariables false
set_option maxRecDepth 100000
namespace Go.Proofs
open Go Go.Vc
/-- dunnage/manifest.Read -/
theorem manifest_Read.vc (s0 : SV) (w : World) (R : (Int × Int × Int × Int × Int × Int × Int × Int × Int) × Int → World → Prop)
  (h : CallT [Ty.agg [Sh.int IntKind.u8, Sh.int IntKind.u64, Sh.slice], Ty.one (Sh.int IntKind.i64)] Try.prog (138 : Nat)
      [Value.slice s0.a s0.len s0.cap]
      (w.alloc
        (Obj.cells
          #[Value.int IntKind.u64 (0 : Int), Value.int IntKind.u64 (0 : Int), Value.int IntKind.i64 (0 : Int),
            Value.int IntKind.i64 (0 : Int), Value.int IntKind.u64 (0 : Int), Value.int IntKind.u64 (0 : Int),
            Value.int IntKind.u64 (0 : Int), Value.int IntKind.u64 (0 : Int), Value.int IntKind.u64 (0 : Int)]
          (92 : Nat)))
      fun (x : (Int × Int × SV) × Int) (w' : World) =>
      let w1 :=
        w'.alloc
          (Obj.cells
            #[Value.int IntKind.u8 (0 : Int), Value.int IntKind.u64 (0 : Int), Value.slice none (0 : Nat) (0 : Nat)]
            (184 : Nat));
      canSt w1 (Addr.mk w'.heap.size (0 : Nat) none) (3 : Nat) ∧
        let w1 :=
          setCells w1 (Addr.mk w'.heap.size (0 : Nat) none) (0 : Nat)
            [Value.int IntKind.u8 x.fst.fst, Value.int IntKind.u64 x.fst.snd.fst,
              Value.slice x.fst.snd.snd.a x.fst.snd.snd.len x.fst.snd.snd.cap];
        cnd (x.snd != (0 : Int))
          (canSt w1 (Addr.mk w.heap.size (0 : Nat) none) (9 : Nat) ∧
            let w1 :=
              setCells w1 (Addr.mk w.heap.size (0 : Nat) none) (0 : Nat)
                [Value.int IntKind.u64 (0 : Int), Value.int IntKind.u64 (0 : Int), Value.int IntKind.i64 (0 : Int),
                  Value.int IntKind.i64 (0 : Int), Value.int IntKind.u64 (0 : Int), Value.int IntKind.u64 (0 : Int),
                  Value.int IntKind.u64 (0 : Int), Value.int IntKind.u64 (0 : Int), Value.int IntKind.u64 (0 : Int)];
            ∃ (x : Int × Int × Int × Int × Int × Int × Int × Int × Int),
              cellsAt w1 (Addr.mk w.heap.size (0 : Nat) none)
                  [Value.int IntKind.u64 x.fst, Value.int IntKind.u64 x.snd.fst, Value.int IntKind.i64 x.snd.snd.fst,
                    Value.int IntKind.i64 x.snd.snd.snd.fst, Value.int IntKind.u64 x.snd.snd.snd.snd.fst,
                    Value.int IntKind.u64 x.snd.snd.snd.snd.snd.fst, Value.int IntKind.u64 x.snd.snd.snd.snd.snd.snd.fst,
                    Value.int IntKind.u64 x.snd.snd.snd.snd.snd.snd.snd.fst,
                    Value.int IntKind.u64 x.snd.snd.snd.snd.snd.snd.snd.snd] ∧
                R
                  ((x.fst, x.snd.fst, x.snd.snd.fst, x.snd.snd.snd.fst, x.snd.snd.snd.snd.fst, x.snd.snd.snd.snd.snd.fst,
                      x.snd.snd.snd.snd.snd.snd.fst, x.snd.snd.snd.snd.snd.snd.snd.fst, x.snd.snd.snd.snd.snd.snd.snd.snd),
                    (5 : Int))
                  w1)
          (∃ (x : Int),
            w1.cell? ((Addr.mk w'.heap.size (0 : Nat) none).add (0 : Nat)) = some (Value.int IntKind.u8 x) ∧
              cnd (x == (0 : Int))
                (canSt w1 (Addr.mk w.heap.size (0 : Nat) none) (9 : Nat) ∧
                  let w1 :=
                    setCells w1 (Addr.mk w.heap.size (0 : Nat) none) (0 : Nat)
                      [Value.int IntKind.u64 (0 : Int), Value.int IntKind.u64 (0 : Int), Value.int IntKind.i64 (0 : Int),
                        Value.int IntKind.i64 (0 : Int), Value.int IntKind.u64 (0 : Int), Value.int IntKind.u64 (0 : Int),
                        Value.int IntKind.u64 (0 : Int), Value.int IntKind.u64 (0 : Int), Value.int IntKind.u64 (0 : Int)];
                  ∃ (x : Int × Int × Int × Int × Int × Int × Int × Int × Int),
                    cellsAt w1 (Addr.mk w.heap.size (0 : Nat) none)
                        [Value.int IntKind.u64 x.fst, Value.int IntKind.u64 x.snd.fst, Value.int IntKind.i64 x.snd.snd.fst,
                          Value.int IntKind.i64 x.snd.snd.snd.fst, Value.int IntKind.u64 x.snd.snd.snd.snd.fst,
                          Value.int IntKind.u64 x.snd.snd.snd.snd.snd.fst,
                          Value.int IntKind.u64 x.snd.snd.snd.snd.snd.snd.fst,
                          Value.int IntKind.u64 x.snd.snd.snd.snd.snd.snd.snd.fst,
                          Value.int IntKind.u64 x.snd.snd.snd.snd.snd.snd.snd.snd] ∧
                      R
                        ((x.fst, x.snd.fst, x.snd.snd.fst, x.snd.snd.snd.fst, x.snd.snd.snd.snd.fst,
                            x.snd.snd.snd.snd.snd.fst, x.snd.snd.snd.snd.snd.snd.fst, x.snd.snd.snd.snd.snd.snd.snd.fst,
                            x.snd.snd.snd.snd.snd.snd.snd.snd),
                          (270 : Int))
                        w1)
                (∃ (I : Nat → Int × Int → World → Prop),
                  (∃ (n : Nat),
                      I n ((0 : Int), (0 : Int))
                        (w1.alloc
                          (Obj.cells
                            #[Value.int IntKind.u64 (0 : Int), Value.int IntKind.u64 (0 : Int),
                              Value.int IntKind.u64 (0 : Int), Value.int IntKind.u64 (0 : Int),
                              Value.int IntKind.u64 (0 : Int), Value.int IntKind.u64 (0 : Int),
                              Value.int IntKind.u64 (0 : Int), Value.int IntKind.u64 (0 : Int)]
                            (187 : Nat)))) ∧
                    ∀ (n : Nat) (x : Int × Int) (j : Nat → Value) (w'_1 : World),
                      I n x w'_1 →
                        cnd (decide (x.snd < (8 : Int)))
                          (let e1 := x.snd;
                          ∃ (x_1 : SV),
                            w'_1.cell? ((Addr.mk w'.heap.size (0 : Nat) none).add (2 : Nat)) =
                                some (Value.slice x_1.a x_1.len x_1.cap) ∧
                              CallT [Ty.one (Sh.int IntKind.u64), Ty.one (Sh.int IntKind.i64), Ty.one (Sh.int IntKind.i64)]
                                Try.prog (117 : Nat) [Value.slice x_1.a x_1.len x_1.cap, Value.int IntKind.i64 x.fst] w'_1
                                fun (x_2 : Int × Int × Int) (w' : World) =>
                                (0 : Int) ≤ e1 ∧
                                  e1 < (↑(8 : Nat) : Int) ∧
                                    (w'.cell? ((Addr.mk w1.heap.size (0 : Nat) none).add (e1.toNat * (1 : Nat)))).isSome =
                                        true ∧
                                      w'.frozen? ((Addr.mk w1.heap.size (0 : Nat) none).add (e1.toNat * (1 : Nat))) =
                                          false ∧
                                        let w1 :=
                                          w'.setCell ((Addr.mk w1.heap.size (0 : Nat) none).add (e1.toNat * (1 : Nat)))
                                            (Value.int IntKind.u64 x_2.fst);
                                        cnd (x_2.snd.snd != (0 : Int))
                                          (canSt w1 (Addr.mk w.heap.size (0 : Nat) none) (9 : Nat) ∧
                                            let w1 :=
                                              setCells w1 (Addr.mk w.heap.size (0 : Nat) none) (0 : Nat)
                                                [Value.int IntKind.u64 (0 : Int), Value.int IntKind.u64 (0 : Int),
                                                  Value.int IntKind.i64 (0 : Int), Value.int IntKind.i64 (0 : Int),
                                                  Value.int IntKind.u64 (0 : Int), Value.int IntKind.u64 (0 : Int),
                                                  Value.int IntKind.u64 (0 : Int), Value.int IntKind.u64 (0 : Int),
                                                  Value.int IntKind.u64 (0 : Int)];
                                            ∃ (x : Int × Int × Int × Int × Int × Int × Int × Int × Int),
                                              cellsAt w1 (Addr.mk w.heap.size (0 : Nat) none)
                                                  [Value.int IntKind.u64 x.fst, Value.int IntKind.u64 x.snd.fst,
                                                    Value.int IntKind.i64 x.snd.snd.fst,
                                                    Value.int IntKind.i64 x.snd.snd.snd.fst,
                                                    Value.int IntKind.u64 x.snd.snd.snd.snd.fst,
                                                    Value.int IntKind.u64 x.snd.snd.snd.snd.snd.fst,
                                                    Value.int IntKind.u64 x.snd.snd.snd.snd.snd.snd.fst,
                                                    Value.int IntKind.u64 x.snd.snd.snd.snd.snd.snd.snd.fst,
                                                    Value.int IntKind.u64 x.snd.snd.snd.snd.snd.snd.snd.snd] ∧
                                                R
                                                  ((x.fst, x.snd.fst, x.snd.snd.fst, x.snd.snd.snd.fst,
                                                      x.snd.snd.snd.snd.fst, x.snd.snd.snd.snd.snd.fst,
                                                      x.snd.snd.snd.snd.snd.snd.fst, x.snd.snd.snd.snd.snd.snd.snd.fst,
                                                      x.snd.snd.snd.snd.snd.snd.snd.snd),
                                                    (11 : Int))
                                                  w1)
                                          (∃ (m : Nat), m < n ∧ I m (x_2.snd.fst, IntKind.i64.wrap (x.snd + (1 : Int))) w1))
                          (∃ (x : Int),
                            w'_1.cell? ((Addr.mk w'.heap.size (0 : Nat) none).add (1 : Nat)) =
                                some (Value.int IntKind.u64 x) ∧
                              (0 : Int) ≤ (0 : Int) ∧
                                (0 : Int) < (↑(8 : Nat) : Int) ∧
                                  ∃ (x_1 : Int),
                                    w'_1.cell?
                                          ((Addr.mk w1.heap.size (0 : Nat) none).add (Int.toNat (0 : Int) * (1 : Nat))) =
                                        some (Value.int IntKind.u64 x_1) ∧
                                      (0 : Int) ≤ (1 : Int) ∧
                                        (1 : Int) < (↑(8 : Nat) : Int) ∧
                                          ∃ (x_2 : Int),
                                            w'_1.cell?
                                                  ((Addr.mk w1.heap.size (0 : Nat) none).add
                                                    (Int.toNat (1 : Int) * (1 : Nat))) =
                                                some (Value.int IntKind.u64 x_2) ∧
                                              (0 : Int) ≤ (2 : Int) ∧
                                                (2 : Int) < (↑(8 : Nat) : Int) ∧
                                                  ∃ (x_3 : Int),
                                                    w'_1.cell?
                                                          ((Addr.mk w1.heap.size (0 : Nat) none).add
                                                            (Int.toNat (2 : Int) * (1 : Nat))) =
                                                        some (Value.int IntKind.u64 x_3) ∧
                                                      (0 : Int) ≤ (3 : Int) ∧
                                                        (3 : Int) < (↑(8 : Nat) : Int) ∧
                                                          ∃ (x_4 : Int),
                                                            w'_1.cell?
                                                                  ((Addr.mk w1.heap.size (0 : Nat) none).add
                                                                    (Int.toNat (3 : Int) * (1 : Nat))) =
                                                                some (Value.int IntKind.u64 x_4) ∧
                                                              (0 : Int) ≤ (4 : Int) ∧
                                                                (4 : Int) < (↑(8 : Nat) : Int) ∧
                                                                  ∃ (x_5 : Int),
                                                                    w'_1.cell?
                                                                          ((Addr.mk w1.heap.size (0 : Nat) none).add
                                                                            (Int.toNat (4 : Int) * (1 : Nat))) =
                                                                        some (Value.int IntKind.u64 x_5) ∧
                                                                      (0 : Int) ≤ (5 : Int) ∧
                                                                        (5 : Int) < (↑(8 : Nat) : Int) ∧
                                                                          ∃ (x_6 : Int),
                                                                            w'_1.cell?
                                                                                  ((Addr.mk w1.heap.size (0 : Nat) none).add
                                                                                    (Int.toNat (5 : Int) * (1 : Nat))) =
                                                                                some (Value.int IntKind.u64 x_6) ∧
                                                                              (0 : Int) ≤ (6 : Int) ∧
                                                                                (6 : Int) < (↑(8 : Nat) : Int) ∧
                                                                                  ∃ (x_7 : Int),
                                                                                    w'_1.cell?
                                                                                          ((Addr.mk w1.heap.size (0 : Nat)
                                                                                                none).add
                                                                                            (Int.toNat (6 : Int) *
                                                                                              (1 : Nat))) =
                                                                                        some (Value.int IntKind.u64 x_7) ∧
                                                                                      (0 : Int) ≤ (7 : Int) ∧
                                                                                        (7 : Int) < (↑(8 : Nat) : Int) ∧
                                                                                          ∃ (x_8 : Int),
                                                                                            w'_1.cell?
                                                                                                  ((Addr.mk w1.heap.size
                                                                                                        (0 : Nat) none).add
                                                                                                    (Int.toNat (7 : Int) *
                                                                                                      (1 : Nat))) =
                                                                                                some
                                                                                                  (Value.int IntKind.u64
                                                                                                    x_8) ∧
                                                                                              let w1 :=
                                                                                                w'_1.alloc
                                                                                                  (Obj.cells
                                                                                                    #[Value.int IntKind.u64
                                                                                                        (0 : Int),
                                                                                                      Value.int IntKind.u64
                                                                                                        (0 : Int),
                                                                                                      Value.int IntKind.i64
                                                                                                        (0 : Int),
                                                                                                      Value.int IntKind.i64
                                                                                                        (0 : Int),
                                                                                                      Value.int IntKind.u64
                                                                                                        (0 : Int),
                                                                                                      Value.int IntKind.u64
                                                                                                        (0 : Int),
                                                                                                      Value.int IntKind.u64
                                                                                                        (0 : Int),
                                                                                                      Value.int IntKind.u64
                                                                                                        (0 : Int),
                                                                                                      Value.int IntKind.u64
                                                                                                        (0 : Int)]
                                                                                                    (92 : Nat));
                                                                                              canSt w1
                                                                                                  (Addr.mk w'_1.heap.size
                                                                                                    (0 : Nat) none)
                                                                                                  (9 : Nat) ∧
                                                                                                let w1 :=
                                                                                                  setCells w1
                                                                                                    (Addr.mk w'_1.heap.size
                                                                                                      (0 : Nat) none)
                                                                                                    (0 : Nat)
                                                                                                    [Value.int IntKind.u64
                                                                                                        x,
                                                                                                      Value.int IntKind.u64
                                                                                                        x_1,
                                                                                                      Value.int IntKind.i64
                                                                                                        (IntKind.i64.wrap
                                                                                                          (min x_2
                                                                                                            (65537 : Int))),
                                                                                                      Value.int IntKind.i64
                                                                                                        (IntKind.i64.wrap
                                                                                                          (min x_3
                                                                                                            (65537 : Int))),
                                                                                                      Value.int IntKind.u64
                                                                                                        x_4,
                                                                                                      Value.int IntKind.u64
                                                                                                        x_5,
                                                                                                      Value.int IntKind.u64
                                                                                                        x_6,
                                                                                                      Value.int IntKind.u64
                                                                                                        x_7,
                                                                                                      Value.int IntKind.u64
                                                                                                        x_8];
                                                                                                ∃ (x :
                                                                                                  Int ×
                                                                                                    Int ×
                                                                                                      Int ×
                                                                                                        Int ×
                                                                                                          Int ×
                                                                                                            Int ×
                                                                                                              Int ×
                                                                                                                Int × Int),
                                                                                                  cellsAt w1
                                                                                                      (Addr.mk
                                                                                                        w'_1.heap.size
                                                                                                        (0 : Nat) none)
                                                                                                      [Value.int IntKind.u64
                                                                                                          x.fst,
                                                                                                        Value.int
                                                                                                          IntKind.u64
                                                                                                          x.snd.fst,
                                                                                                        Value.int
                                                                                                          IntKind.i64
                                                                                                          x.snd.snd.fst,
                                                                                                        Value.int
                                                                                                          IntKind.i64
                                                                                                          x.snd.snd.snd.fst,
                                                                                                        Value.int
                                                                                                          IntKind.u64
                                                                                                          x.snd.snd.snd.snd.fst,
                                                                                                        Value.int
                                                                                                          IntKind.u64
                                                                                                          x.snd.snd.snd.snd.snd.fst,
                                                                                                        Value.int
                                                                                                          IntKind.u64
                                                                                                          x.snd.snd.snd.snd.snd.snd.fst,
                                                                                                        Value.int
                                                                                                          IntKind.u64
                                                                                                          x.snd.snd.snd.snd.snd.snd.snd.fst,
                                                                                                        Value.int
                                                                                                          IntKind.u64
                                                                                                          x.snd.snd.snd.snd.snd.snd.snd.snd] ∧
                                                                                                    CallT
                                                                                                      [Ty.one Sh.slice,
                                                                                                        Ty.one
                                                                                                          (Sh.int
                                                                                                            IntKind.i64)]
                                                                                                      Try.prog (68 : Nat)
                                                                                                      [Value.agg
                                                                                                          #[Value.int
                                                                                                              IntKind.u64
                                                                                                              x.fst,
                                                                                                            Value.int
                                                                                                              IntKind.u64
                                                                                                              x.snd.fst,
                                                                                                            Value.int
                                                                                                              IntKind.i64
                                                                                                              x.snd.snd.fst,
                                                                                                            Value.int
                                                                                                              IntKind.i64
                                                                                                              x.snd.snd.snd.fst,
                                                                                                            Value.int
                                                                                                              IntKind.u64
                                                                                                              x.snd.snd.snd.snd.fst,
                                                                                                            Value.int
                                                                                                              IntKind.u64
                                                                                                              x.snd.snd.snd.snd.snd.fst,
                                                                                                            Value.int
                                                                                                              IntKind.u64
                                                                                                              x.snd.snd.snd.snd.snd.snd.fst,
                                                                                                            Value.int
                                                                                                              IntKind.u64
                                                                                                              x.snd.snd.snd.snd.snd.snd.snd.fst,
                                                                                                            Value.int
                                                                                                              IntKind.u64
                                                                                                              x.snd.snd.snd.snd.snd.snd.snd.snd]]
                                                                                                      w1
                                                                                                      fun (x : SV × Int)
                                                                                                        (w' : World) =>
                                                                                                      ∃ (R_1 :
                                                                                                        Bool →
                                                                                                          World → Prop),
                                                                                                        cnd
                                                                                                            (x.snd !=
                                                                                                              (0 : Int))
                                                                                                            (R_1 true w')
                                                                                                            (CallT
                                                                                                              [Ty.one
                                                                                                                  Sh.bool]
                                                                                                              Try.prog
                                                                                                              (139 : Nat)
                                                                                                              [Value.slice
                                                                                                                  s0.a
                                                                                                                  s0.len
                                                                                                                  s0.cap,
                                                                                                                Value.slice
                                                                                                                  x.fst.a
                                                                                                                  x.fst.len
                                                                                                                  x.fst.cap]
                                                                                                              w'
                                                                                                              fun (x : Bool)
                                                                                                                (w' :
                                                                                                                  World) =>
                                                                                                              R_1 (!x) w') ∧
                                                                                                          ∀ (x : Bool)
                                                                                                            (j :
                                                                                                              Nat → Value)
                                                                                                            (w' : World),
                                                                                                            R_1 x w' →
                                                                                                              cnd x
                                                                                                                (canSt w'
                                                                                                                    (Addr.mk
                                                                                                                      w.heap.size
                                                                                                                      (0 :
                                                                                                                        Nat)
                                                                                                                      none)
                                                                                                                    (9 :
                                                                                                                      Nat) ∧
                                                                                                                  let w1 :=
                                                                                                                    setCells
                                                                                                                      w'
                                                                                                                      (Addr.mk
                                                                                                                        w.heap.size
                                                                                                                        (0 :
                                                                                                                          Nat)
                                                                                                                        none)
                                                                                                                      (0 :
                                                                                                                        Nat)
                                                                                                                      [Value.int
                                                                                                                          IntKind.u64
                                                                                                                          (0 :
                                                                                                                            Int),
                                                                                                                        Value.int
                                                                                                                          IntKind.u64
                                                                                                                          (0 :
                                                                                                                            Int),
                                                                                                                        Value.int
                                                                                                                          IntKind.i64
                                                                                                                          (0 :
                                                                                                                            Int),
                                                                                                                        Value.int
                                                                                                                          IntKind.i64
                                                                                                                          (0 :
                                                                                                                            Int),
                                                                                                                        Value.int
                                                                                                                          IntKind.u64
                                                                                                                          (0 :
                                                                                                                            Int),
                                                                                                                        Value.int
                                                                                                                          IntKind.u64
                                                                                                                          (0 :
                                                                                                                            Int),
                                                                                                                        Value.int
                                                                                                                          IntKind.u64
                                                                                                                          (0 :
                                                                                                                            Int),
                                                                                                                        Value.int
                                                                                                                          IntKind.u64
                                                                                                                          (0 :
                                                                                                                            Int),
                                                                                                                        Value.int
                                                                                                                          IntKind.u64
                                                                                                                          (0 :
                                                                                                                            Int)];
                                                                                                                  ∃ (x :
                                                                                                                    Int ×
                                                                                                                      Int ×
                                                                                                                        Int ×
                                                                                                                          Int ×
                                                                                                                            Int ×
                                                                                                                              Int ×
                                                                                                                                Int ×
                                                                                                                                  Int ×
                                                                                                                                    Int),
                                                                                                                    cellsAt
                                                                                                                        w1
                                                                                                                        (Addr.mk
                                                                                                                          w.heap.size
                                                                                                                          (0 :
                                                                                                                            Nat)
                                                                                                                          none)
                                                                                                                        [Value.int
                                                                                                                            IntKind.u64
                                                                                                                            x.fst,
                                                                                                                          Value.int
                                                                                                                            IntKind.u64
                                                                                                                            x.snd.fst,
                                                                                                                          Value.int
                                                                                                                            IntKind.i64
                                                                                                                            x.snd.snd.fst,
                                                                                                                          Value.int
                                                                                                                            IntKind.i64
                                                                                                                            x.snd.snd.snd.fst,
                                                                                                                          Value.int
                                                                                                                            IntKind.u64
                                                                                                                            x.snd.snd.snd.snd.fst,
                                                                                                                          Value.int
                                                                                                                            IntKind.u64
                                                                                                                            x.snd.snd.snd.snd.snd.fst,
                                                                                                                          Value.int
                                                                                                                            IntKind.u64
                                                                                                                            x.snd.snd.snd.snd.snd.snd.fst,
                                                                                                                          Value.int
                                                                                                                            IntKind.u64
                                                                                                                            x.snd.snd.snd.snd.snd.snd.snd.fst,
                                                                                                                          Value.int
                                                                                                                            IntKind.u64
                                                                                                                            x.snd.snd.snd.snd.snd.snd.snd.snd] ∧
                                                                                                                      R
                                                                                                                        ((x.fst,
                                                                                                                            x.snd.fst,
                                                                                                                            x.snd.snd.fst,
                                                                                                                            x.snd.snd.snd.fst,
                                                                                                                            x.snd.snd.snd.snd.fst,
                                                                                                                            x.snd.snd.snd.snd.snd.fst,
                                                                                                                            x.snd.snd.snd.snd.snd.snd.fst,
                                                                                                                            x.snd.snd.snd.snd.snd.snd.snd.fst,
                                                                                                                            x.snd.snd.snd.snd.snd.snd.snd.snd),
                                                                                                                          (11 :
                                                                                                                            Int))
                                                                                                                        w1)
                                                                                                                (∃ (x :
                                                                                                                  Int ×
                                                                                                                    Int ×
                                                                                                                      Int ×
                                                                                                                        Int ×
                                                                                                                          Int ×
                                                                                                                            Int ×
                                                                                                                              Int ×
                                                                                                                                Int ×
                                                                                                                                  Int),
                                                                                                                  cellsAt w'
                                                                                                                      (Addr.mk
                                                                                                                        w'_1.heap.size
                                                                                                                        (0 :
                                                                                                                          Nat)
                                                                                                                        none)
                                                                                                                      [Value.int
                                                                                                                          IntKind.u64
                                                                                                                          x.fst,
                                                                                                                        Value.int
                                                                                                                          IntKind.u64
                                                                                                                          x.snd.fst,
                                                                                                                        Value.int
                                                                                                                          IntKind.i64
                                                                                                                          x.snd.snd.fst,
                                                                                                                        Value.int
                                                                                                                          IntKind.i64
                                                                                                                          x.snd.snd.snd.fst,
                                                                                                                        Value.int
                                                                                                                          IntKind.u64
                                                                                                                          x.snd.snd.snd.snd.fst,
                                                                                                                        Value.int
                                                                                                                          IntKind.u64
                                                                                                                          x.snd.snd.snd.snd.snd.fst,
                                                                                                                        Value.int
                                                                                                                          IntKind.u64
                                                                                                                          x.snd.snd.snd.snd.snd.snd.fst,
                                                                                                                        Value.int
                                                                                                                          IntKind.u64
                                                                                                                          x.snd.snd.snd.snd.snd.snd.snd.fst,
                                                                                                                        Value.int
                                                                                                                          IntKind.u64
                                                                                                                          x.snd.snd.snd.snd.snd.snd.snd.snd] ∧
                                                                                                                    canSt w'
                                                                                                                        (Addr.mk
                                                                                                                          w.heap.size
                                                                                                                          (0 :
                                                                                                                            Nat)
                                                                                                                          none)
                                                                                                                        (9 :
                                                                                                                          Nat) ∧
                                                                                                                      let
                                                                                                                        w1 :=
                                                                                                                        setCells
                                                                                                                          w'
                                                                                                                          (Addr.mk
                                                                                                                            w.heap.size
                                                                                                                            (0 :
                                                                                                                              Nat)
                                                                                                                            none)
                                                                                                                          (0 :
                                                                                                                            Nat)
                                                                                                                          [Value.int
                                                                                                                              IntKind.u64
                                                                                                                              x.fst,
                                                                                                                            Value.int
                                                                                                                              IntKind.u64
                                                                                                                              x.snd.fst,
                                                                                                                            Value.int
                                                                                                                              IntKind.i64
                                                                                                                              x.snd.snd.fst,
                                                                                                                            Value.int
                                                                                                                              IntKind.i64
                                                                                                                              x.snd.snd.snd.fst,
                                                                                                                            Value.int
                                                                                                                              IntKind.u64
                                                                                                                              x.snd.snd.snd.snd.fst,
                                                                                                                            Value.int
                                                                                                                              IntKind.u64
                                                                                                                              x.snd.snd.snd.snd.snd.fst,
                                                                                                                            Value.int
                                                                                                                              IntKind.u64
                                                                                                                              x.snd.snd.snd.snd.snd.snd.fst,
                                                                                                                            Value.int
                                                                                                                              IntKind.u64
                                                                                                                              x.snd.snd.snd.snd.snd.snd.snd.fst,
                                                                                                                            Value.int
                                                                                                                              IntKind.u64
                                                                                                                              x.snd.snd.snd.snd.snd.snd.snd.snd];
                                                                                                                      ∃ (x :
                                                                                                                        Int ×
                                                                                                                          Int ×
                                                                                                                            Int ×
                                                                                                                              Int ×
                                                                                                                                Int ×
                                                                                                                                  Int ×
                                                                                                                                    Int ×
                                                                                                                                      Int ×
                                                                                                                                        Int),
                                                                                                                        cellsAt
                                                                                                                            w1
                                                                                                                            (Addr.mk
                                                                                                                              w.heap.size
                                                                                                                              (0 :
                                                                                                                                Nat)
                                                                                                                              none)
                                                                                                                            [Value.int
                                                                                                                                IntKind.u64
                                                                                                                                x.fst,
                                                                                                                              Value.int
                                                                                                                                IntKind.u64
                                                                                                                                x.snd.fst,
                                                                                                                              Value.int
                                                                                                                                IntKind.i64
                                                                                                                                x.snd.snd.fst,
                                                                                                                              Value.int
                                                                                                                                IntKind.i64
                                                                                                                                x.snd.snd.snd.fst,
                                                                                                                              Value.int
                                                                                                                                IntKind.u64
                                                                                                                                x.snd.snd.snd.snd.fst,
                                                                                                                              Value.int
                                                                                                                                IntKind.u64
                                                                                                                                x.snd.snd.snd.snd.snd.fst,
                                                                                                                              Value.int
                                                                                                                                IntKind.u64
                                                                                                                                x.snd.snd.snd.snd.snd.snd.fst,
                                                                                                                              Value.int
                                                                                                                                IntKind.u64
                                                                                                                                x.snd.snd.snd.snd.snd.snd.snd.fst,
                                                                                                                              Value.int
                                                                                                                                IntKind.u64
                                                                                                                                x.snd.snd.snd.snd.snd.snd.snd.snd] ∧
                                                                                                                          R
                                                                                                                            ((x.fst,
                                                                                                                                x.snd.fst,
                                                                                                                                x.snd.snd.fst,
                                                                                                                                x.snd.snd.snd.fst,
                                                                                                                                x.snd.snd.snd.snd.fst,
                                                                                                                                x.snd.snd.snd.snd.snd.fst,
                                                                                                                                x.snd.snd.snd.snd.snd.snd.fst,
                                                                                                                                x.snd.snd.snd.snd.snd.snd.snd.fst,
                                                                                                                                x.snd.snd.snd.snd.snd.snd.snd.snd),
                                                                                                                              (0 :
                                                                                                                                Int))
                                                                                                                            w1)))))
  : CallT [Ty.agg
    [Sh.int IntKind.u64, Sh.int IntKind.u64, Sh.int IntKind.i64, Sh.int IntKind.i64, Sh.int IntKind.u64,
      Sh.int IntKind.u64, Sh.int IntKind.u64, Sh.int IntKind.u64, Sh.int IntKind.u64],
  Ty.one (Sh.int IntKind.i64)] Try.prog 71 [Value.slice s0.a s0.len s0.cap] w R :=
  fnV_sound (h := HT.z.sq
  (HT.z.sq
    (HT.z.sq
      (HT.z.sq
        (HT.z.sq
          ((HT.z.sq
                (HT.lp [((7 : Nat), Ty.one (Sh.int IntKind.i64)), ((27 : Nat), Ty.one (Sh.int IntKind.i64))]
                    HT.z).bl).sq
            (HT.z.sq (HT.z.sq ((HT.z.sq (HT.jn [((81 : Nat), Ty.one Sh.bool)] HT.z HT.z)).sq HT.z))))))))) Try.func71 (by kernel_rfl) (by kernel_rfl) (Eq.mp (by kernel_rfl) h)

/-- dunnage/dunnageref02.Turn -/
theorem dunnageref02_Turn.vc (s0 : SV) (s1 : SV) (w : World) (R : SV → World → Prop)
  (h : appV Try.prog [(23 : Nat), (23 : Nat)] (23 : Nat) [Value.slice none (0 : Nat) (0 : Nat), Value.slice s0.a s0.len s0.cap]
      w fun (s : SV) (w' : World) =>
      ∃ (I : Nat → Int → World → Prop),
        (∃ (n : Nat), I n (0 : Int) w') ∧
          ∀ (n : Nat) (x : Int) (j : Nat → Value) (w' : World),
            I n x w' →
              cnd (decide (x < (↑s1.len : Int)))
                (∃ (R : Bool → World → Prop),
                  ((0 : Int) ≤ x ∧
                      x < (↑s1.len : Int) ∧
                        onP s1.a fun (A : Addr) =>
                          ∃ (x_1 : Int),
                            w'.cell? (A.add (x.toNat * (1 : Nat))) = some (Value.int IntKind.i64 x_1) ∧
                              cnd (decide (x_1 ≥ (0 : Int)))
                                ((0 : Int) ≤ x ∧
                                  x < (↑s1.len : Int) ∧
                                    onP s1.a fun (A : Addr) =>
                                      ∃ (x_2 : Int),
                                        w'.cell? (A.add (x.toNat * (1 : Nat))) = some (Value.int IntKind.i64 x_2) ∧
                                          R (decide (IntKind.i64.wrap (x_2.tdiv (8 : Int)) < (↑s.len : Int))) w')
                                (R false w')) ∧
                    ∀ (x_1 : Bool) (j : Nat → Value) (w' : World),
                      R x_1 w' →
                        cnd x_1
                          ((0 : Int) ≤ x ∧
                            x < (↑s1.len : Int) ∧
                              onP s1.a fun (A : Addr) =>
                                ∃ (x_2 : Int),
                                  w'.drew.cell? (A.add (x.toNat * (1 : Nat))) = some (Value.int IntKind.i64 x_2) ∧
                                    (0 : Int) ≤ x ∧
                                      x < (↑s1.len : Int) ∧
                                        onP s1.a fun (A : Addr) =>
                                          ∃ (x_3 : Int),
                                            w'.drew.cell? (A.add (x.toNat * (1 : Nat))) = some (Value.int IntKind.i64 x_3) ∧
                                              (0 : Int) ≤ IntKind.i64.wrap (x_3.tdiv (8 : Int)) ∧
                                                IntKind.i64.wrap (x_3.tdiv (8 : Int)) < (↑s.len : Int) ∧
                                                  onP s.a fun (A : Addr) =>
                                                    ∃ (x_4 : Int),
                                                      w'.drew.cell?
                                                            (A.add
                                                              ((IntKind.i64.wrap (x_3.tdiv (8 : Int))).toNat * (1 : Nat))) =
                                                          some (Value.int IntKind.u8 x_4) ∧
                                                        (0 : Int) ≤ x ∧
                                                          x < (↑s1.len : Int) ∧
                                                            onP s1.a fun (A : Addr) =>
                                                              ∃ (x_5 : Int),
                                                                w'.drew.cell? (A.add (x.toNat * (1 : Nat))) =
                                                                    some (Value.int IntKind.i64 x_5) ∧
                                                                  (0 : Int) ≤ IntKind.u64.wrap (x_5.tmod (8 : Int)) ∧
                                                                    (0 : Int) ≤ IntKind.i64.wrap (x_2.tdiv (8 : Int)) ∧
                                                                      IntKind.i64.wrap (x_2.tdiv (8 : Int)) <
                                                                          (↑s.len : Int) ∧
                                                                        onP s.a fun (A : Addr) =>
                                                                          (w'.drew.cell?
                                                                                  (A.add
                                                                                    ((IntKind.i64.wrap
                                                                                          (x_2.tdiv (8 : Int))).toNat *
                                                                                      (1 : Nat)))).isSome =
                                                                              true ∧
                                                                            w'.drew.frozen?
                                                                                  (A.add
                                                                                    ((IntKind.i64.wrap
                                                                                          (x_2.tdiv (8 : Int))).toNat *
                                                                                      (1 : Nat))) =
                                                                                false ∧
                                                                              ∃ (m : Nat),
                                                                                m < n ∧
                                                                                  I m (IntKind.i64.wrap (x + (1 : Int)))
                                                                                    (w'.drew.setCell
                                                                                      (A.add
                                                                                        ((IntKind.i64.wrap
                                                                                              (x_2.tdiv (8 : Int))).toNat *
                                                                                          (1 : Nat)))
                                                                                      (Value.int IntKind.u8
                                                                                        (bxor IntKind.u8 x_4
                                                                                          (shl IntKind.u8 (1 : Int)
                                                                                            (IntKind.u64.wrap
                                                                                              (x_5.tmod (8 : Int))))))))
                          (∃ (m : Nat), m < n ∧ I m (IntKind.i64.wrap (x + (1 : Int))) w'))
                (R s w'))
  : CallT [Ty.one Sh.slice] Try.prog 72 [Value.slice s0.a s0.len s0.cap, Value.slice s1.a s1.len s1.cap] w R :=
  fnV_sound (h := HT.z.sq
  (HT.z.sq
    ((HT.z.sq
          (HT.lp [((6 : Nat), Ty.one (Sh.int IntKind.i64))]
              (HT.z.sq ((HT.jn [((29 : Nat), Ty.one Sh.bool)] HT.z ((HT.rg (23 : Nat)).cd HT.z)).bl.sq HT.z))).bl).sq
      HT.z))) Try.func72 (by kernel_rfl) (by kernel_rfl) (Eq.mp (by kernel_rfl) h)

/-- dunnage/manifest.Choose -/
theorem manifest_Choose.vc (s0 : SV) (s1 : SV) (w : World) (R : (Int × Int × Int × Int × Int × Int × Int × Int × Int) × Int × Int → World → Prop)
  (h : CallT
      [Ty.agg
          [Sh.int IntKind.u64, Sh.int IntKind.u64, Sh.int IntKind.i64, Sh.int IntKind.i64, Sh.int IntKind.u64,
            Sh.int IntKind.u64, Sh.int IntKind.u64, Sh.int IntKind.u64, Sh.int IntKind.u64],
        Ty.one (Sh.int IntKind.i64)]
      Try.prog (71 : Nat) [Value.slice s0.a s0.len s0.cap]
      (w.alloc
        (Obj.cells
          #[Value.int IntKind.u64 (0 : Int), Value.int IntKind.u64 (0 : Int), Value.int IntKind.i64 (0 : Int),
            Value.int IntKind.i64 (0 : Int), Value.int IntKind.u64 (0 : Int), Value.int IntKind.u64 (0 : Int),
            Value.int IntKind.u64 (0 : Int), Value.int IntKind.u64 (0 : Int), Value.int IntKind.u64 (0 : Int)]
          (92 : Nat)))
      fun (x : (Int × Int × Int × Int × Int × Int × Int × Int × Int) × Int) (w' : World) =>
      let e1 := x.snd;
      let w1 :=
        w'.alloc
          (Obj.cells
            #[Value.int IntKind.u64 (0 : Int), Value.int IntKind.u64 (0 : Int), Value.int IntKind.i64 (0 : Int),
              Value.int IntKind.i64 (0 : Int), Value.int IntKind.u64 (0 : Int), Value.int IntKind.u64 (0 : Int),
              Value.int IntKind.u64 (0 : Int), Value.int IntKind.u64 (0 : Int), Value.int IntKind.u64 (0 : Int)]
            (92 : Nat));
      canSt w1 (Addr.mk w'.heap.size (0 : Nat) none) (9 : Nat) ∧
        let w1 :=
          setCells w1 (Addr.mk w'.heap.size (0 : Nat) none) (0 : Nat)
            [Value.int IntKind.u64 x.fst.fst, Value.int IntKind.u64 x.fst.snd.fst, Value.int IntKind.i64 x.fst.snd.snd.fst,
              Value.int IntKind.i64 x.fst.snd.snd.snd.fst, Value.int IntKind.u64 x.fst.snd.snd.snd.snd.fst,
              Value.int IntKind.u64 x.fst.snd.snd.snd.snd.snd.fst, Value.int IntKind.u64 x.fst.snd.snd.snd.snd.snd.snd.fst,
              Value.int IntKind.u64 x.fst.snd.snd.snd.snd.snd.snd.snd.fst,
              Value.int IntKind.u64 x.fst.snd.snd.snd.snd.snd.snd.snd.snd];
        ∃ (R_1 : PUnit → World → Prop),
          (∃ (R_2 : Bool → World → Prop),
              cnd (e1 == (5 : Int)) (R_2 true w1) (R_2 (e1 == (11 : Int)) w1) ∧
                ∀ (x : Bool) (j : Nat → Value) (w' : World),
                  R_2 x w' →
                    cnd x
                      (canSt w' (Addr.mk w.heap.size (0 : Nat) none) (9 : Nat) ∧
                        let w1 :=
                          setCells w' (Addr.mk w.heap.size (0 : Nat) none) (0 : Nat)
                            [Value.int IntKind.u64 (0 : Int), Value.int IntKind.u64 (0 : Int),
                              Value.int IntKind.i64 (0 : Int), Value.int IntKind.i64 (0 : Int),
                              Value.int IntKind.u64 (0 : Int), Value.int IntKind.u64 (0 : Int),
                              Value.int IntKind.u64 (0 : Int), Value.int IntKind.u64 (0 : Int),
                              Value.int IntKind.u64 (0 : Int)];
                        ∃ (x : Int × Int × Int × Int × Int × Int × Int × Int × Int),
                          cellsAt w1 (Addr.mk w.heap.size (0 : Nat) none)
                              [Value.int IntKind.u64 x.fst, Value.int IntKind.u64 x.snd.fst,
                                Value.int IntKind.i64 x.snd.snd.fst, Value.int IntKind.i64 x.snd.snd.snd.fst,
                                Value.int IntKind.u64 x.snd.snd.snd.snd.fst,
                                Value.int IntKind.u64 x.snd.snd.snd.snd.snd.fst,
                                Value.int IntKind.u64 x.snd.snd.snd.snd.snd.snd.fst,
                                Value.int IntKind.u64 x.snd.snd.snd.snd.snd.snd.snd.fst,
                                Value.int IntKind.u64 x.snd.snd.snd.snd.snd.snd.snd.snd] ∧
                            R
                              ((x.fst, x.snd.fst, x.snd.snd.fst, x.snd.snd.snd.fst, x.snd.snd.snd.snd.fst,
                                  x.snd.snd.snd.snd.snd.fst, x.snd.snd.snd.snd.snd.snd.fst,
                                  x.snd.snd.snd.snd.snd.snd.snd.fst, x.snd.snd.snd.snd.snd.snd.snd.snd),
                                (0 : Int), e1)
                              w1)
                      (R_1 () w')) ∧
            ∀ (x : PUnit) (j : Nat → Value) (w'_1 : World),
              R_1 x w'_1 →
                CallT
                  [Ty.agg
                      [Sh.int IntKind.u64, Sh.int IntKind.u64, Sh.int IntKind.i64, Sh.int IntKind.i64, Sh.int IntKind.u64,
                        Sh.int IntKind.u64, Sh.int IntKind.u64, Sh.int IntKind.u64, Sh.int IntKind.u64],
                    Ty.one (Sh.int IntKind.i64)]
                  Try.prog (71 : Nat) [Value.slice s1.a s1.len s1.cap] w'_1
                  fun (x : (Int × Int × Int × Int × Int × Int × Int × Int × Int) × Int) (w'_2 : World) =>
                  let e1_1 := x.snd;
                  let w1 :=
                    w'_2.alloc
                      (Obj.cells
                        #[Value.int IntKind.u64 (0 : Int), Value.int IntKind.u64 (0 : Int), Value.int IntKind.i64 (0 : Int),
                          Value.int IntKind.i64 (0 : Int), Value.int IntKind.u64 (0 : Int), Value.int IntKind.u64 (0 : Int),
                          Value.int IntKind.u64 (0 : Int), Value.int IntKind.u64 (0 : Int), Value.int IntKind.u64 (0 : Int)]
                        (92 : Nat));
                  canSt w1 (Addr.mk w'_2.heap.size (0 : Nat) none) (9 : Nat) ∧
                    let w1 :=
                      setCells w1 (Addr.mk w'_2.heap.size (0 : Nat) none) (0 : Nat)
                        [Value.int IntKind.u64 x.fst.fst, Value.int IntKind.u64 x.fst.snd.fst,
                          Value.int IntKind.i64 x.fst.snd.snd.fst, Value.int IntKind.i64 x.fst.snd.snd.snd.fst,
                          Value.int IntKind.u64 x.fst.snd.snd.snd.snd.fst,
                          Value.int IntKind.u64 x.fst.snd.snd.snd.snd.snd.fst,
                          Value.int IntKind.u64 x.fst.snd.snd.snd.snd.snd.snd.fst,
                          Value.int IntKind.u64 x.fst.snd.snd.snd.snd.snd.snd.snd.fst,
                          Value.int IntKind.u64 x.fst.snd.snd.snd.snd.snd.snd.snd.snd];
                    ∃ (R_2 : PUnit → World → Prop),
                      (∃ (R_3 : Bool → World → Prop),
                          cnd (e1_1 == (5 : Int)) (R_3 true w1) (R_3 (e1_1 == (11 : Int)) w1) ∧
                            ∀ (x : Bool) (j : Nat → Value) (w' : World),
                              R_3 x w' →
                                cnd x
                                  (canSt w' (Addr.mk w.heap.size (0 : Nat) none) (9 : Nat) ∧
                                    let w1 :=
                                      setCells w' (Addr.mk w.heap.size (0 : Nat) none) (0 : Nat)
                                        [Value.int IntKind.u64 (0 : Int), Value.int IntKind.u64 (0 : Int),
                                          Value.int IntKind.i64 (0 : Int), Value.int IntKind.i64 (0 : Int),
                                          Value.int IntKind.u64 (0 : Int), Value.int IntKind.u64 (0 : Int),
                                          Value.int IntKind.u64 (0 : Int), Value.int IntKind.u64 (0 : Int),
                                          Value.int IntKind.u64 (0 : Int)];
                                    ∃ (x : Int × Int × Int × Int × Int × Int × Int × Int × Int),
                                      cellsAt w1 (Addr.mk w.heap.size (0 : Nat) none)
                                          [Value.int IntKind.u64 x.fst, Value.int IntKind.u64 x.snd.fst,
                                            Value.int IntKind.i64 x.snd.snd.fst, Value.int IntKind.i64 x.snd.snd.snd.fst,
                                            Value.int IntKind.u64 x.snd.snd.snd.snd.fst,
                                            Value.int IntKind.u64 x.snd.snd.snd.snd.snd.fst,
                                            Value.int IntKind.u64 x.snd.snd.snd.snd.snd.snd.fst,
                                            Value.int IntKind.u64 x.snd.snd.snd.snd.snd.snd.snd.fst,
                                            Value.int IntKind.u64 x.snd.snd.snd.snd.snd.snd.snd.snd] ∧
                                        R
                                          ((x.fst, x.snd.fst, x.snd.snd.fst, x.snd.snd.snd.fst, x.snd.snd.snd.snd.fst,
                                              x.snd.snd.snd.snd.snd.fst, x.snd.snd.snd.snd.snd.snd.fst,
                                              x.snd.snd.snd.snd.snd.snd.snd.fst, x.snd.snd.snd.snd.snd.snd.snd.snd),
                                            (0 : Int), e1_1)
                                          w1)
                                  (R_2 () w')) ∧
                        ∀ (x : PUnit) (j : Nat → Value) (w'_3 : World),
                          R_2 x w'_3 →
                            ∃ (R_3 : Bool → World → Prop),
                              cnd (e1 != (0 : Int)) (R_3 (e1_1 != (0 : Int)) w'_3) (R_3 false w'_3) ∧
                                ∀ (x : Bool) (j : Nat → Value) (w'_4 : World),
                                  R_3 x w'_4 →
                                    cnd x
                                      (canSt w'_4 (Addr.mk w.heap.size (0 : Nat) none) (9 : Nat) ∧
                                        let w1 :=
                                          setCells w'_4 (Addr.mk w.heap.size (0 : Nat) none) (0 : Nat)
                                            [Value.int IntKind.u64 (0 : Int), Value.int IntKind.u64 (0 : Int),
                                              Value.int IntKind.i64 (0 : Int), Value.int IntKind.i64 (0 : Int),
                                              Value.int IntKind.u64 (0 : Int), Value.int IntKind.u64 (0 : Int),
                                              Value.int IntKind.u64 (0 : Int), Value.int IntKind.u64 (0 : Int),
                                              Value.int IntKind.u64 (0 : Int)];
                                        ∃ (x : Int × Int × Int × Int × Int × Int × Int × Int × Int),
                                          cellsAt w1 (Addr.mk w.heap.size (0 : Nat) none)
                                              [Value.int IntKind.u64 x.fst, Value.int IntKind.u64 x.snd.fst,
                                                Value.int IntKind.i64 x.snd.snd.fst,
                                                Value.int IntKind.i64 x.snd.snd.snd.fst,
                                                Value.int IntKind.u64 x.snd.snd.snd.snd.fst,
                                                Value.int IntKind.u64 x.snd.snd.snd.snd.snd.fst,
                                                Value.int IntKind.u64 x.snd.snd.snd.snd.snd.snd.fst,
                                                Value.int IntKind.u64 x.snd.snd.snd.snd.snd.snd.snd.fst,
                                                Value.int IntKind.u64 x.snd.snd.snd.snd.snd.snd.snd.snd] ∧
                                            R
                                              ((x.fst, x.snd.fst, x.snd.snd.fst, x.snd.snd.snd.fst, x.snd.snd.snd.snd.fst,
                                                  x.snd.snd.snd.snd.snd.fst, x.snd.snd.snd.snd.snd.snd.fst,
                                                  x.snd.snd.snd.snd.snd.snd.snd.fst, x.snd.snd.snd.snd.snd.snd.snd.snd),
                                                (0 : Int), (270 : Int))
                                              w1)
                                      (cnd (e1_1 != (0 : Int))
                                        (∃ (x : Int × Int × Int × Int × Int × Int × Int × Int × Int),
                                          cellsAt w'_4 (Addr.mk w'.heap.size (0 : Nat) none)
                                              [Value.int IntKind.u64 x.fst, Value.int IntKind.u64 x.snd.fst,
                                                Value.int IntKind.i64 x.snd.snd.fst,
                                                Value.int IntKind.i64 x.snd.snd.snd.fst,
                                                Value.int IntKind.u64 x.snd.snd.snd.snd.fst,
                                                Value.int IntKind.u64 x.snd.snd.snd.snd.snd.fst,
                                                Value.int IntKind.u64 x.snd.snd.snd.snd.snd.snd.fst,
                                                Value.int IntKind.u64 x.snd.snd.snd.snd.snd.snd.snd.fst,
                                                Value.int IntKind.u64 x.snd.snd.snd.snd.snd.snd.snd.snd] ∧
                                            canSt w'_4 (Addr.mk w.heap.size (0 : Nat) none) (9 : Nat) ∧
                                              let w1 :=
                                                setCells w'_4 (Addr.mk w.heap.size (0 : Nat) none) (0 : Nat)
                                                  [Value.int IntKind.u64 x.fst, Value.int IntKind.u64 x.snd.fst,
                                                    Value.int IntKind.i64 x.snd.snd.fst,
                                                    Value.int IntKind.i64 x.snd.snd.snd.fst,
                                                    Value.int IntKind.u64 x.snd.snd.snd.snd.fst,
                                                    Value.int IntKind.u64 x.snd.snd.snd.snd.snd.fst,
                                                    Value.int IntKind.u64 x.snd.snd.snd.snd.snd.snd.fst,
                                                    Value.int IntKind.u64 x.snd.snd.snd.snd.snd.snd.snd.fst,
                                                    Value.int IntKind.u64 x.snd.snd.snd.snd.snd.snd.snd.snd];
                                              ∃ (x : Int × Int × Int × Int × Int × Int × Int × Int × Int),
                                                cellsAt w1 (Addr.mk w.heap.size (0 : Nat) none)
                                                    [Value.int IntKind.u64 x.fst, Value.int IntKind.u64 x.snd.fst,
                                                      Value.int IntKind.i64 x.snd.snd.fst,
                                                      Value.int IntKind.i64 x.snd.snd.snd.fst,
                                                      Value.int IntKind.u64 x.snd.snd.snd.snd.fst,
                                                      Value.int IntKind.u64 x.snd.snd.snd.snd.snd.fst,
                                                      Value.int IntKind.u64 x.snd.snd.snd.snd.snd.snd.fst,
                                                      Value.int IntKind.u64 x.snd.snd.snd.snd.snd.snd.snd.fst,
                                                      Value.int IntKind.u64 x.snd.snd.snd.snd.snd.snd.snd.snd] ∧
                                                  R
                                                    ((x.fst, x.snd.fst, x.snd.snd.fst, x.snd.snd.snd.fst,
                                                        x.snd.snd.snd.snd.fst, x.snd.snd.snd.snd.snd.fst,
                                                        x.snd.snd.snd.snd.snd.snd.fst, x.snd.snd.snd.snd.snd.snd.snd.fst,
                                                        x.snd.snd.snd.snd.snd.snd.snd.snd),
                                                      (0 : Int), (0 : Int))
                                                    w1)
                                        (cnd (e1 != (0 : Int))
                                          (∃ (x : Int × Int × Int × Int × Int × Int × Int × Int × Int),
                                            cellsAt w'_4 (Addr.mk w'_2.heap.size (0 : Nat) none)
                                                [Value.int IntKind.u64 x.fst, Value.int IntKind.u64 x.snd.fst,
                                                  Value.int IntKind.i64 x.snd.snd.fst,
                                                  Value.int IntKind.i64 x.snd.snd.snd.fst,
                                                  Value.int IntKind.u64 x.snd.snd.snd.snd.fst,
                                                  Value.int IntKind.u64 x.snd.snd.snd.snd.snd.fst,
                                                  Value.int IntKind.u64 x.snd.snd.snd.snd.snd.snd.fst,
                                                  Value.int IntKind.u64 x.snd.snd.snd.snd.snd.snd.snd.fst,
                                                  Value.int IntKind.u64 x.snd.snd.snd.snd.snd.snd.snd.snd] ∧
                                              canSt w'_4 (Addr.mk w.heap.size (0 : Nat) none) (9 : Nat) ∧
                                                let w1 :=
                                                  setCells w'_4 (Addr.mk w.heap.size (0 : Nat) none) (0 : Nat)
                                                    [Value.int IntKind.u64 x.fst, Value.int IntKind.u64 x.snd.fst,
                                                      Value.int IntKind.i64 x.snd.snd.fst,
                                                      Value.int IntKind.i64 x.snd.snd.snd.fst,
                                                      Value.int IntKind.u64 x.snd.snd.snd.snd.fst,
                                                      Value.int IntKind.u64 x.snd.snd.snd.snd.snd.fst,
                                                      Value.int IntKind.u64 x.snd.snd.snd.snd.snd.snd.fst,
                                                      Value.int IntKind.u64 x.snd.snd.snd.snd.snd.snd.snd.fst,
                                                      Value.int IntKind.u64 x.snd.snd.snd.snd.snd.snd.snd.snd];
                                                ∃ (x : Int × Int × Int × Int × Int × Int × Int × Int × Int),
                                                  cellsAt w1 (Addr.mk w.heap.size (0 : Nat) none)
                                                      [Value.int IntKind.u64 x.fst, Value.int IntKind.u64 x.snd.fst,
                                                        Value.int IntKind.i64 x.snd.snd.fst,
                                                        Value.int IntKind.i64 x.snd.snd.snd.fst,
                                                        Value.int IntKind.u64 x.snd.snd.snd.snd.fst,
                                                        Value.int IntKind.u64 x.snd.snd.snd.snd.snd.fst,
                                                        Value.int IntKind.u64 x.snd.snd.snd.snd.snd.snd.fst,
                                                        Value.int IntKind.u64 x.snd.snd.snd.snd.snd.snd.snd.fst,
                                                        Value.int IntKind.u64 x.snd.snd.snd.snd.snd.snd.snd.snd] ∧
                                                    R
                                                      ((x.fst, x.snd.fst, x.snd.snd.fst, x.snd.snd.snd.fst,
                                                          x.snd.snd.snd.snd.fst, x.snd.snd.snd.snd.snd.fst,
                                                          x.snd.snd.snd.snd.snd.snd.fst, x.snd.snd.snd.snd.snd.snd.snd.fst,
                                                          x.snd.snd.snd.snd.snd.snd.snd.snd),
                                                        (1 : Int), (0 : Int))
                                                      w1)
                                          (∃ (x : Int),
                                            w'_4.cell? ((Addr.mk w'.heap.size (0 : Nat) none).add (0 : Nat)) =
                                                some (Value.int IntKind.u64 x) ∧
                                              ∃ (x_1 : Int),
                                                w'_4.cell? ((Addr.mk w'_2.heap.size (0 : Nat) none).add (0 : Nat)) =
                                                    some (Value.int IntKind.u64 x_1) ∧
                                                  cnd (x == x_1)
                                                    (canSt w'_4 (Addr.mk w.heap.size (0 : Nat) none) (9 : Nat) ∧
                                                      let w1 :=
                                                        setCells w'_4 (Addr.mk w.heap.size (0 : Nat) none) (0 : Nat)
                                                          [Value.int IntKind.u64 (0 : Int), Value.int IntKind.u64 (0 : Int),
                                                            Value.int IntKind.i64 (0 : Int),
                                                            Value.int IntKind.i64 (0 : Int),
                                                            Value.int IntKind.u64 (0 : Int),
                                                            Value.int IntKind.u64 (0 : Int),
                                                            Value.int IntKind.u64 (0 : Int),
                                                            Value.int IntKind.u64 (0 : Int),
                                                            Value.int IntKind.u64 (0 : Int)];
                                                      ∃ (x : Int × Int × Int × Int × Int × Int × Int × Int × Int),
                                                        cellsAt w1 (Addr.mk w.heap.size (0 : Nat) none)
                                                            [Value.int IntKind.u64 x.fst, Value.int IntKind.u64 x.snd.fst,
                                                              Value.int IntKind.i64 x.snd.snd.fst,
                                                              Value.int IntKind.i64 x.snd.snd.snd.fst,
                                                              Value.int IntKind.u64 x.snd.snd.snd.snd.fst,
                                                              Value.int IntKind.u64 x.snd.snd.snd.snd.snd.fst,
                                                              Value.int IntKind.u64 x.snd.snd.snd.snd.snd.snd.fst,
                                                              Value.int IntKind.u64 x.snd.snd.snd.snd.snd.snd.snd.fst,
                                                              Value.int IntKind.u64 x.snd.snd.snd.snd.snd.snd.snd.snd] ∧
                                                          R
                                                            ((x.fst, x.snd.fst, x.snd.snd.fst, x.snd.snd.snd.fst,
                                                                x.snd.snd.snd.snd.fst, x.snd.snd.snd.snd.snd.fst,
                                                                x.snd.snd.snd.snd.snd.snd.fst,
                                                                x.snd.snd.snd.snd.snd.snd.snd.fst,
                                                                x.snd.snd.snd.snd.snd.snd.snd.snd),
                                                              (0 : Int), (11 : Int))
                                                            w1)
                                                    (∃ (x : Int),
                                                      w'_4.cell? ((Addr.mk w'.heap.size (0 : Nat) none).add (0 : Nat)) =
                                                          some (Value.int IntKind.u64 x) ∧
                                                        ∃ (x_2 : Int),
                                                          w'_4.cell?
                                                                ((Addr.mk w'_2.heap.size (0 : Nat) none).add (0 : Nat)) =
                                                              some (Value.int IntKind.u64 x_2) ∧
                                                            cnd (decide (x > x_2))
                                                              (∃ (x : Int × Int × Int × Int × Int × Int × Int × Int × Int),
                                                                cellsAt w'_4 (Addr.mk w'.heap.size (0 : Nat) none)
                                                                    [Value.int IntKind.u64 x.fst,
                                                                      Value.int IntKind.u64 x.snd.fst,
                                                                      Value.int IntKind.i64 x.snd.snd.fst,
                                                                      Value.int IntKind.i64 x.snd.snd.snd.fst,
                                                                      Value.int IntKind.u64 x.snd.snd.snd.snd.fst,
                                                                      Value.int IntKind.u64 x.snd.snd.snd.snd.snd.fst,
                                                                      Value.int IntKind.u64 x.snd.snd.snd.snd.snd.snd.fst,
                                                                      Value.int IntKind.u64
                                                                        x.snd.snd.snd.snd.snd.snd.snd.fst,
                                                                      Value.int IntKind.u64
                                                                        x.snd.snd.snd.snd.snd.snd.snd.snd] ∧
                                                                  canSt w'_4 (Addr.mk w.heap.size (0 : Nat) none)
                                                                      (9 : Nat) ∧
                                                                    let w1 :=
                                                                      setCells w'_4 (Addr.mk w.heap.size (0 : Nat) none)
                                                                        (0 : Nat)
                                                                        [Value.int IntKind.u64 x.fst,
                                                                          Value.int IntKind.u64 x.snd.fst,
                                                                          Value.int IntKind.i64 x.snd.snd.fst,
                                                                          Value.int IntKind.i64 x.snd.snd.snd.fst,
                                                                          Value.int IntKind.u64 x.snd.snd.snd.snd.fst,
                                                                          Value.int IntKind.u64 x.snd.snd.snd.snd.snd.fst,
                                                                          Value.int IntKind.u64
                                                                            x.snd.snd.snd.snd.snd.snd.fst,
                                                                          Value.int IntKind.u64
                                                                            x.snd.snd.snd.snd.snd.snd.snd.fst,
                                                                          Value.int IntKind.u64
                                                                            x.snd.snd.snd.snd.snd.snd.snd.snd];
                                                                    ∃ (x :
                                                                      Int × Int × Int × Int × Int × Int × Int × Int × Int),
                                                                      cellsAt w1 (Addr.mk w.heap.size (0 : Nat) none)
                                                                          [Value.int IntKind.u64 x.fst,
                                                                            Value.int IntKind.u64 x.snd.fst,
                                                                            Value.int IntKind.i64 x.snd.snd.fst,
                                                                            Value.int IntKind.i64 x.snd.snd.snd.fst,
                                                                            Value.int IntKind.u64 x.snd.snd.snd.snd.fst,
                                                                            Value.int IntKind.u64 x.snd.snd.snd.snd.snd.fst,
                                                                            Value.int IntKind.u64
                                                                              x.snd.snd.snd.snd.snd.snd.fst,
                                                                            Value.int IntKind.u64
                                                                              x.snd.snd.snd.snd.snd.snd.snd.fst,
                                                                            Value.int IntKind.u64
                                                                              x.snd.snd.snd.snd.snd.snd.snd.snd] ∧
                                                                        R
                                                                          ((x.fst, x.snd.fst, x.snd.snd.fst,
                                                                              x.snd.snd.snd.fst, x.snd.snd.snd.snd.fst,
                                                                              x.snd.snd.snd.snd.snd.fst,
                                                                              x.snd.snd.snd.snd.snd.snd.fst,
                                                                              x.snd.snd.snd.snd.snd.snd.snd.fst,
                                                                              x.snd.snd.snd.snd.snd.snd.snd.snd),
                                                                            (0 : Int), (0 : Int))
                                                                          w1)
                                                              (∃ (x : Int × Int × Int × Int × Int × Int × Int × Int × Int),
                                                                cellsAt w'_4 (Addr.mk w'_2.heap.size (0 : Nat) none)
                                                                    [Value.int IntKind.u64 x.fst,
                                                                      Value.int IntKind.u64 x.snd.fst,
                                                                      Value.int IntKind.i64 x.snd.snd.fst,
                                                                      Value.int IntKind.i64 x.snd.snd.snd.fst,
                                                                      Value.int IntKind.u64 x.snd.snd.snd.snd.fst,
                                                                      Value.int IntKind.u64 x.snd.snd.snd.snd.snd.fst,
                                                                      Value.int IntKind.u64 x.snd.snd.snd.snd.snd.snd.fst,
                                                                      Value.int IntKind.u64
                                                                        x.snd.snd.snd.snd.snd.snd.snd.fst,
                                                                      Value.int IntKind.u64
                                                                        x.snd.snd.snd.snd.snd.snd.snd.snd] ∧
                                                                  canSt w'_4 (Addr.mk w.heap.size (0 : Nat) none)
                                                                      (9 : Nat) ∧
                                                                    let w1 :=
                                                                      setCells w'_4 (Addr.mk w.heap.size (0 : Nat) none)
                                                                        (0 : Nat)
                                                                        [Value.int IntKind.u64 x.fst,
                                                                          Value.int IntKind.u64 x.snd.fst,
                                                                          Value.int IntKind.i64 x.snd.snd.fst,
                                                                          Value.int IntKind.i64 x.snd.snd.snd.fst,
                                                                          Value.int IntKind.u64 x.snd.snd.snd.snd.fst,
                                                                          Value.int IntKind.u64 x.snd.snd.snd.snd.snd.fst,
                                                                          Value.int IntKind.u64
                                                                            x.snd.snd.snd.snd.snd.snd.fst,
                                                                          Value.int IntKind.u64
                                                                            x.snd.snd.snd.snd.snd.snd.snd.fst,
                                                                          Value.int IntKind.u64
                                                                            x.snd.snd.snd.snd.snd.snd.snd.snd];
                                                                    ∃ (x :
                                                                      Int × Int × Int × Int × Int × Int × Int × Int × Int),
                                                                      cellsAt w1 (Addr.mk w.heap.size (0 : Nat) none)
                                                                          [Value.int IntKind.u64 x.fst,
                                                                            Value.int IntKind.u64 x.snd.fst,
                                                                            Value.int IntKind.i64 x.snd.snd.fst,
                                                                            Value.int IntKind.i64 x.snd.snd.snd.fst,
                                                                            Value.int IntKind.u64 x.snd.snd.snd.snd.fst,
                                                                            Value.int IntKind.u64 x.snd.snd.snd.snd.snd.fst,
                                                                            Value.int IntKind.u64
                                                                              x.snd.snd.snd.snd.snd.snd.fst,
                                                                            Value.int IntKind.u64
                                                                              x.snd.snd.snd.snd.snd.snd.snd.fst,
                                                                            Value.int IntKind.u64
                                                                              x.snd.snd.snd.snd.snd.snd.snd.snd] ∧
                                                                        R
                                                                          ((x.fst, x.snd.fst, x.snd.snd.fst,
                                                                              x.snd.snd.snd.fst, x.snd.snd.snd.snd.fst,
                                                                              x.snd.snd.snd.snd.snd.fst,
                                                                              x.snd.snd.snd.snd.snd.snd.fst,
                                                                              x.snd.snd.snd.snd.snd.snd.snd.fst,
                                                                              x.snd.snd.snd.snd.snd.snd.snd.snd),
                                                                            (1 : Int), (0 : Int))
                                                                          w1))))))
  : CallT [Ty.agg
    [Sh.int IntKind.u64, Sh.int IntKind.u64, Sh.int IntKind.i64, Sh.int IntKind.i64, Sh.int IntKind.u64,
      Sh.int IntKind.u64, Sh.int IntKind.u64, Sh.int IntKind.u64, Sh.int IntKind.u64],
  Ty.one (Sh.int IntKind.i64), Ty.one (Sh.int IntKind.i64)] Try.prog 73 [Value.slice s0.a s0.len s0.cap, Value.slice s1.a s1.len s1.cap] w R :=
  fnV_sound (h := HT.z.sq
  (HT.z.sq
    (HT.jn [] (HT.jn [((21 : Nat), Ty.one Sh.bool)] HT.z HT.z)
      (HT.z.sq
        (HT.jn [] (HT.jn [((34 : Nat), Ty.one Sh.bool)] HT.z HT.z)
          ((HT.jn [((37 : Nat), Ty.one Sh.bool)] HT.z HT.z).bl.sq HT.z)))))) Try.func73 (by kernel_rfl) (by kernel_rfl) (Eq.mp (by kernel_rfl) h)

end Go.Proofs
