/- Texts that the claim leans on, one behind the other: each begins with a sentence of its own. Conditions: those that each names. -/
import Derived.Below
import Derived.ChangeOld
import Derived.Deep.Quiet
import Derived.KernelRfl
import Derived.Laws.Cells
import Derived.Laws.Entries
import Derived.Laws.Sem
import Derived.Laws.Strings
import Derived.Laws.World
import Derived.Lib.SlBytesConst
import Derived.OpenShut
import Derived.Orders
import Derived.OrdersHeld
import Derived.ProofKit
import Derived.ShutString
import Derived.SizedLaws
import Derived.StillTail
import Derived.Tactics
import Derived.Test.YtinolellciikoaaProg
import Derived.Test.YtinolellciikoaaRows
import Derived.Test.YtinolellciikoaaPkM3
/- The conditions of the seat's functions, written by a program (VcTool, genvc.py) off 'vc' reduced; each is tied to 'vc' by the kernel. Conditions: none. -/
set_option linter.unusedVariables false
set_option maxRecDepth 100000
namespace Go.Proofs
open Go Go.Vc
/-- dunnage/dunnageref27.Write -/
theorem dunnageref27_Write.vc (x0 : Int × Int × Int × Int × Int × Int × Int × Int × Int) (w : World) (R : SV × Int → World → Prop)
  (h : let w1 :=
      w.alloc
        (Obj.cells
          #[Value.int IntKind.u64 x0.fst, Value.int IntKind.u64 x0.snd.fst, Value.int IntKind.i64 x0.snd.snd.fst,
            Value.int IntKind.i64 x0.snd.snd.snd.fst, Value.int IntKind.u64 x0.snd.snd.snd.snd.fst,
            Value.int IntKind.u64 x0.snd.snd.snd.snd.snd.fst, Value.int IntKind.u64 x0.snd.snd.snd.snd.snd.snd.fst,
            Value.int IntKind.u64 x0.snd.snd.snd.snd.snd.snd.snd.fst,
            Value.int IntKind.u64 x0.snd.snd.snd.snd.snd.snd.snd.snd]
          (92 : Nat));
    ∃ (x : Int × Int × Int × Int × Int × Int × Int × Int × Int),
      cellsAt w1 (Addr.mk w.heap.size (0 : Nat) none)
          [Value.int IntKind.u64 x.fst, Value.int IntKind.u64 x.snd.fst, Value.int IntKind.i64 x.snd.snd.fst,
            Value.int IntKind.i64 x.snd.snd.snd.fst, Value.int IntKind.u64 x.snd.snd.snd.snd.fst,
            Value.int IntKind.u64 x.snd.snd.snd.snd.snd.fst, Value.int IntKind.u64 x.snd.snd.snd.snd.snd.snd.fst,
            Value.int IntKind.u64 x.snd.snd.snd.snd.snd.snd.snd.fst,
            Value.int IntKind.u64 x.snd.snd.snd.snd.snd.snd.snd.snd] ∧
        CallT [Ty.one Sh.bool] Try.prog (79 : Nat)
          [Value.agg
              #[Value.int IntKind.u64 x.fst, Value.int IntKind.u64 x.snd.fst, Value.int IntKind.i64 x.snd.snd.fst,
                Value.int IntKind.i64 x.snd.snd.snd.fst, Value.int IntKind.u64 x.snd.snd.snd.snd.fst,
                Value.int IntKind.u64 x.snd.snd.snd.snd.snd.fst, Value.int IntKind.u64 x.snd.snd.snd.snd.snd.snd.fst,
                Value.int IntKind.u64 x.snd.snd.snd.snd.snd.snd.snd.fst,
                Value.int IntKind.u64 x.snd.snd.snd.snd.snd.snd.snd.snd]]
          w1 fun (x : Bool) (w' : World) =>
          cnd (!x) (R (SV.mk none (0 : Nat) (0 : Nat), (11 : Int)) w')
            (∃ (x : Int),
              w'.cell? ((Addr.mk w.heap.size (0 : Nat) none).add (1 : Nat)) = some (Value.int IntKind.u64 x) ∧
                ∃ (x_1 : Int),
                  w'.cell? ((Addr.mk w.heap.size (0 : Nat) none).add (2 : Nat)) = some (Value.int IntKind.i64 x_1) ∧
                    ∃ (x_2 : Int),
                      w'.cell? ((Addr.mk w.heap.size (0 : Nat) none).add (3 : Nat)) = some (Value.int IntKind.i64 x_2) ∧
                        ∃ (x_3 : Int),
                          w'.cell? ((Addr.mk w.heap.size (0 : Nat) none).add (4 : Nat)) = some (Value.int IntKind.u64 x_3) ∧
                            ∃ (x_4 : Int),
                              w'.cell? ((Addr.mk w.heap.size (0 : Nat) none).add (5 : Nat)) =
                                  some (Value.int IntKind.u64 x_4) ∧
                                ∃ (x_5 : Int),
                                  w'.cell? ((Addr.mk w.heap.size (0 : Nat) none).add (6 : Nat)) =
                                      some (Value.int IntKind.u64 x_5) ∧
                                    ∃ (x_6 : Int),
                                      w'.cell? ((Addr.mk w.heap.size (0 : Nat) none).add (7 : Nat)) =
                                          some (Value.int IntKind.u64 x_6) ∧
                                        ∃ (x_7 : Int),
                                          w'.cell? ((Addr.mk w.heap.size (0 : Nat) none).add (8 : Nat)) =
                                              some (Value.int IntKind.u64 x_7) ∧
                                            ∃ (I : Nat → SV × Int → World → Prop),
                                              (∃ (n : Nat),
                                                  I n (SV.mk none (0 : Nat) (0 : Nat), (0 : Int))
                                                    (w'.alloc
                                                      (Obj.cells
                                                        #[Value.int IntKind.u64 x,
                                                          Value.int IntKind.u64 (IntKind.u64.wrap x_1),
                                                          Value.int IntKind.u64 (IntKind.u64.wrap x_2),
                                                          Value.int IntKind.u64 x_3, Value.int IntKind.u64 x_4,
                                                          Value.int IntKind.u64 x_5, Value.int IntKind.u64 x_6,
                                                          Value.int IntKind.u64 x_7]
                                                        (22 : Nat)))) ∧
                                                ∀ (n : Nat) (x : SV × Int) (j : Nat → Value) (w'_1 : World),
                                                  I n x w'_1 →
                                                    let e1 := x.snd;
                                                    cnd (decide (e1 < (↑(8 : Nat) : Int)))
                                                      (let e1 := x.snd;
                                                      (0 : Int) ≤ e1 ∧
                                                        e1 < (↑(8 : Nat) : Int) ∧
                                                          ∃ (x_8 : Int),
                                                            w'_1.cell?
                                                                  ((Addr.mk w'.heap.size (0 : Nat) none).add
                                                                    (e1.toNat * (1 : Nat))) =
                                                                some (Value.int IntKind.u64 x_8) ∧
                                                              CallT [Ty.one Sh.slice] Try.prog (116 : Nat)
                                                                [Value.int IntKind.u64 x_8] w'_1
                                                                fun (x_9 : SV) (w' : World) =>
                                                                appV Try.prog [(23 : Nat), (23 : Nat)] (23 : Nat)
                                                                  [Value.slice x.fst.a x.fst.len x.fst.cap,
                                                                    Value.slice x_9.a x_9.len x_9.cap]
                                                                  w' fun (s : SV) (w' : World) =>
                                                                  ∃ (m : Nat),
                                                                    m < n ∧
                                                                      I m (s, IntKind.i64.wrap (x.snd + (1 : Int))) w')
                                                      (∃ (x_8 : Int),
                                                        w'_1.cell? ((Addr.mk w.heap.size (0 : Nat) none).add (0 : Nat)) =
                                                            some (Value.int IntKind.u64 x_8) ∧
                                                          CallT [Ty.one Sh.slice, Ty.one (Sh.int IntKind.i64)] Try.prog
                                                            (140 : Nat)
                                                            [Value.int IntKind.u8 (23 : Int), Value.int IntKind.u64 x_8,
                                                              Value.slice x.fst.a x.fst.len x.fst.cap]
                                                            w'_1 fun (x : SV × Int) (w' : World) => R (x.fst, x.snd) w')))
  : CallT [Ty.one Sh.slice, Ty.one (Sh.int IntKind.i64)] Try.prog 74 [Value.agg
    #[Value.int IntKind.u64 x0.fst, Value.int IntKind.u64 x0.snd.fst, Value.int IntKind.i64 x0.snd.snd.fst,
      Value.int IntKind.i64 x0.snd.snd.snd.fst, Value.int IntKind.u64 x0.snd.snd.snd.snd.fst,
      Value.int IntKind.u64 x0.snd.snd.snd.snd.snd.fst, Value.int IntKind.u64 x0.snd.snd.snd.snd.snd.snd.fst,
      Value.int IntKind.u64 x0.snd.snd.snd.snd.snd.snd.snd.fst,
      Value.int IntKind.u64 x0.snd.snd.snd.snd.snd.snd.snd.snd]] w R :=
  fnV_sound (h := HT.z.sq
  (HT.z.sq
    (HT.z.sq
      (HT.z.sq
        ((HT.z.sq (HT.lp [((5 : Nat), Ty.one Sh.slice), ((6 : Nat), Ty.one (Sh.int IntKind.i64))] HT.z).bl).sq HT.z))))) Try.func74 (by kernel_rfl) (by kernel_rfl) (Eq.mp (by kernel_rfl) h)

/-- dunnage/dunnageref27.Read -/
theorem dunnageref27_Read.vc (s0 : SV) (w : World) (R : (Int × Int × Int × Int × Int × Int × Int × Int × Int) × Int → World → Prop)
  (h : CallT [Ty.agg [Sh.int IntKind.u8, Sh.int IntKind.u64, Sh.slice], Ty.one (Sh.int IntKind.i64)] Try.prog (141 : Nat)
      [Value.slice s0.a s0.len s0.cap]
      (w.alloc
        (Obj.cells
          #[Value.int IntKind.u64 (0 : Int), Value.int IntKind.u64 (0 : Int), Value.int IntKind.i64 (0 : Int),
            Value.int IntKind.i64 (0 : Int), Value.int IntKind.u64 (0 : Int), Value.int IntKind.u64 (0 : Int),
            Value.int IntKind.u64 (0 : Int), Value.int IntKind.u64 (0 : Int), Value.int IntKind.u64 (0 : Int)]
          (92 : Nat)))
      fun (x : (Int × Int × SV) × Int) (w' : World) =>
      let w1 :=
        w'.alloc
          (Obj.cells
            #[Value.int IntKind.u8 (0 : Int), Value.int IntKind.u64 (0 : Int), Value.slice none (0 : Nat) (0 : Nat)]
            (184 : Nat));
      canSt w1 (Addr.mk w'.heap.size (0 : Nat) none) (3 : Nat) ∧
        let w1 :=
          setCells w1 (Addr.mk w'.heap.size (0 : Nat) none) (0 : Nat)
            [Value.int IntKind.u8 x.fst.fst, Value.int IntKind.u64 x.fst.snd.fst,
              Value.slice x.fst.snd.snd.a x.fst.snd.snd.len x.fst.snd.snd.cap];
        cnd (x.snd != (0 : Int))
          (canSt w1 (Addr.mk w.heap.size (0 : Nat) none) (9 : Nat) ∧
            let w1 :=
              setCells w1 (Addr.mk w.heap.size (0 : Nat) none) (0 : Nat)
                [Value.int IntKind.u64 (0 : Int), Value.int IntKind.u64 (0 : Int), Value.int IntKind.i64 (0 : Int),
                  Value.int IntKind.i64 (0 : Int), Value.int IntKind.u64 (0 : Int), Value.int IntKind.u64 (0 : Int),
                  Value.int IntKind.u64 (0 : Int), Value.int IntKind.u64 (0 : Int), Value.int IntKind.u64 (0 : Int)];
            ∃ (x : Int × Int × Int × Int × Int × Int × Int × Int × Int),
              cellsAt w1 (Addr.mk w.heap.size (0 : Nat) none)
                  [Value.int IntKind.u64 x.fst, Value.int IntKind.u64 x.snd.fst, Value.int IntKind.i64 x.snd.snd.fst,
                    Value.int IntKind.i64 x.snd.snd.snd.fst, Value.int IntKind.u64 x.snd.snd.snd.snd.fst,
                    Value.int IntKind.u64 x.snd.snd.snd.snd.snd.fst, Value.int IntKind.u64 x.snd.snd.snd.snd.snd.snd.fst,
                    Value.int IntKind.u64 x.snd.snd.snd.snd.snd.snd.snd.fst,
                    Value.int IntKind.u64 x.snd.snd.snd.snd.snd.snd.snd.snd] ∧
                R
                  ((x.fst, x.snd.fst, x.snd.snd.fst, x.snd.snd.snd.fst, x.snd.snd.snd.snd.fst, x.snd.snd.snd.snd.snd.fst,
                      x.snd.snd.snd.snd.snd.snd.fst, x.snd.snd.snd.snd.snd.snd.snd.fst, x.snd.snd.snd.snd.snd.snd.snd.snd),
                    (5 : Int))
                  w1)
          (∃ (x : Int),
            w1.cell? ((Addr.mk w'.heap.size (0 : Nat) none).add (0 : Nat)) = some (Value.int IntKind.u8 x) ∧
              cnd (x == (0 : Int))
                (canSt w1 (Addr.mk w.heap.size (0 : Nat) none) (9 : Nat) ∧
                  let w1 :=
                    setCells w1 (Addr.mk w.heap.size (0 : Nat) none) (0 : Nat)
                      [Value.int IntKind.u64 (0 : Int), Value.int IntKind.u64 (0 : Int), Value.int IntKind.i64 (0 : Int),
                        Value.int IntKind.i64 (0 : Int), Value.int IntKind.u64 (0 : Int), Value.int IntKind.u64 (0 : Int),
                        Value.int IntKind.u64 (0 : Int), Value.int IntKind.u64 (0 : Int), Value.int IntKind.u64 (0 : Int)];
                  ∃ (x : Int × Int × Int × Int × Int × Int × Int × Int × Int),
                    cellsAt w1 (Addr.mk w.heap.size (0 : Nat) none)
                        [Value.int IntKind.u64 x.fst, Value.int IntKind.u64 x.snd.fst, Value.int IntKind.i64 x.snd.snd.fst,
                          Value.int IntKind.i64 x.snd.snd.snd.fst, Value.int IntKind.u64 x.snd.snd.snd.snd.fst,
                          Value.int IntKind.u64 x.snd.snd.snd.snd.snd.fst,
                          Value.int IntKind.u64 x.snd.snd.snd.snd.snd.snd.fst,
                          Value.int IntKind.u64 x.snd.snd.snd.snd.snd.snd.snd.fst,
                          Value.int IntKind.u64 x.snd.snd.snd.snd.snd.snd.snd.snd] ∧
                      R
                        ((x.fst, x.snd.fst, x.snd.snd.fst, x.snd.snd.snd.fst, x.snd.snd.snd.snd.fst,
                            x.snd.snd.snd.snd.snd.fst, x.snd.snd.snd.snd.snd.snd.fst, x.snd.snd.snd.snd.snd.snd.snd.fst,
                            x.snd.snd.snd.snd.snd.snd.snd.snd),
                          (270 : Int))
                        w1)
                (∃ (x : SV),
                  w1.cell? ((Addr.mk w'.heap.size (0 : Nat) none).add (2 : Nat)) = some (Value.slice x.a x.len x.cap) ∧
                    let w1_1 :=
                      w1.alloc
                        (Obj.cells
                          #[Value.slice x.a x.len x.cap, Value.int IntKind.i64 (0 : Int), Value.int IntKind.i64 (0 : Int)]
                          (166 : Nat));
                    ∃ (R_1 : Option Addr → World → Prop),
                      (∃ (S : World → Prop),
                          S w1_1.drew ∧
                            ∃ (x : Int),
                              (∀ (w : World),
                                  S w →
                                    w.cell? ((Addr.mk w'.heap.size (0 : Nat) none).add (1 : Nat)) =
                                      some (Value.int IntKind.u64 x)) ∧
                                (CallT [Ty.one (Sh.int IntKind.u64)] Try.prog (118 : Nat)
                                    [Value.pointer (some (Addr.mk w1.heap.size (0 : Nat) none))] w1_1.drew
                                    fun (x_1 : Int) (w' : World) =>
                                    S w' ∧
                                      (CallT [Ty.one (Sh.int IntKind.i64)] Try.prog (119 : Nat)
                                          [Value.pointer (some (Addr.mk w1.heap.size (0 : Nat) none)),
                                            Value.int IntKind.u64 (1 : Int)]
                                          w' fun (x_2 : Int) (w' : World) =>
                                          S w' ∧
                                            (CallT [Ty.one (Sh.int IntKind.i64)] Try.prog (119 : Nat)
                                                [Value.pointer (some (Addr.mk w1.heap.size (0 : Nat) none)),
                                                  Value.int IntKind.u64 (65536 : Int)]
                                                w' fun (x_3 : Int) (w' : World) =>
                                                S w' ∧
                                                  (CallT [Ty.one (Sh.int IntKind.u64)] Try.prog (118 : Nat)
                                                      [Value.pointer (some (Addr.mk w1.heap.size (0 : Nat) none))] w'
                                                      fun (x_4 : Int) (w' : World) =>
                                                      S w' ∧
                                                        (CallT [Ty.one (Sh.int IntKind.u64)] Try.prog (118 : Nat)
                                                            [Value.pointer (some (Addr.mk w1.heap.size (0 : Nat) none))] w'
                                                            fun (x_5 : Int) (w' : World) =>
                                                            S w' ∧
                                                              (CallT [Ty.one (Sh.int IntKind.u64)] Try.prog (118 : Nat)
                                                                  [Value.pointer
                                                                      (some (Addr.mk w1.heap.size (0 : Nat) none))]
                                                                  w' fun (x_6 : Int) (w' : World) =>
                                                                  S w' ∧
                                                                    (CallT [Ty.one (Sh.int IntKind.u64)] Try.prog
                                                                        (118 : Nat)
                                                                        [Value.pointer
                                                                            (some (Addr.mk w1.heap.size (0 : Nat) none))]
                                                                        w' fun (x_7 : Int) (w' : World) =>
                                                                        S w' ∧
                                                                          (CallT [Ty.one (Sh.int IntKind.u64)] Try.prog
                                                                              (118 : Nat)
                                                                              [Value.pointer
                                                                                  (some
                                                                                    (Addr.mk w1.heap.size (0 : Nat) none))]
                                                                              w' fun (x_8 : Int) (w' : World) =>
                                                                              S w' ∧
                                                                                let w1 :=
                                                                                  w'.alloc
                                                                                    (Obj.cells
                                                                                      #[Value.int IntKind.u64 (0 : Int),
                                                                                        Value.int IntKind.u64 (0 : Int),
                                                                                        Value.int IntKind.i64 (0 : Int),
                                                                                        Value.int IntKind.i64 (0 : Int),
                                                                                        Value.int IntKind.u64 (0 : Int),
                                                                                        Value.int IntKind.u64 (0 : Int),
                                                                                        Value.int IntKind.u64 (0 : Int),
                                                                                        Value.int IntKind.u64 (0 : Int),
                                                                                        Value.int IntKind.u64 (0 : Int)]
                                                                                      (92 : Nat));
                                                                                S w1 ∧
                                                                                  canSt w1
                                                                                      (Addr.mk w'.heap.size (0 : Nat) none)
                                                                                      (9 : Nat) ∧
                                                                                    R_1
                                                                                      (some
                                                                                        (Addr.mk w'.heap.size (0 : Nat)
                                                                                          none))
                                                                                      (setCells w1
                                                                                        (Addr.mk w'.heap.size (0 : Nat)
                                                                                          none)
                                                                                        (0 : Nat)
                                                                                        [Value.int IntKind.u64 x,
                                                                                          Value.int IntKind.u64 x_1,
                                                                                          Value.int IntKind.i64 x_2,
                                                                                          Value.int IntKind.i64 x_3,
                                                                                          Value.int IntKind.u64 x_4,
                                                                                          Value.int IntKind.u64 x_5,
                                                                                          Value.int IntKind.u64 x_6,
                                                                                          Value.int IntKind.u64 x_7,
                                                                                          Value.int IntKind.u64 x_8])) ∧
                                                                            let w1_2 :=
                                                                              w'.alloc
                                                                                (Obj.cells
                                                                                  #[Value.int IntKind.u64 (0 : Int),
                                                                                    Value.int IntKind.u64 (0 : Int),
                                                                                    Value.int IntKind.i64 (0 : Int),
                                                                                    Value.int IntKind.i64 (0 : Int),
                                                                                    Value.int IntKind.u64 (0 : Int),
                                                                                    Value.int IntKind.u64 (0 : Int),
                                                                                    Value.int IntKind.u64 (0 : Int),
                                                                                    Value.int IntKind.u64 (0 : Int),
                                                                                    Value.int IntKind.u64 (0 : Int)]
                                                                                  (92 : Nat));
                                                                            S w1_2 ∧
                                                                              CallT [Ty.one (Sh.int IntKind.u64)] Try.prog
                                                                                (118 : Nat)
                                                                                [Value.pointer
                                                                                    (some
                                                                                      (Addr.mk w1.heap.size (0 : Nat)
                                                                                        none))]
                                                                                w1_2 fun (x_8 : Int) (w'_1 : World) =>
                                                                                S w'_1 ∧
                                                                                  canSt w'_1
                                                                                      (Addr.mk w'.heap.size (0 : Nat) none)
                                                                                      (9 : Nat) ∧
                                                                                    R_1
                                                                                      (some
                                                                                        (Addr.mk w'.heap.size (0 : Nat)
                                                                                          none))
                                                                                      (setCells w'_1
                                                                                        (Addr.mk w'.heap.size (0 : Nat)
                                                                                          none)
                                                                                        (0 : Nat)
                                                                                        [Value.int IntKind.u64 x,
                                                                                          Value.int IntKind.u64 x_1,
                                                                                          Value.int IntKind.i64 x_2,
                                                                                          Value.int IntKind.i64 x_3,
                                                                                          Value.int IntKind.u64 x_4,
                                                                                          Value.int IntKind.u64 x_5,
                                                                                          Value.int IntKind.u64 x_6,
                                                                                          Value.int IntKind.u64 x_7,
                                                                                          Value.int IntKind.u64 x_8])) ∧
                                                                      let w1_2 :=
                                                                        w'.alloc
                                                                          (Obj.cells
                                                                            #[Value.int IntKind.u64 (0 : Int),
                                                                              Value.int IntKind.u64 (0 : Int),
                                                                              Value.int IntKind.i64 (0 : Int),
                                                                              Value.int IntKind.i64 (0 : Int),
                                                                              Value.int IntKind.u64 (0 : Int),
                                                                              Value.int IntKind.u64 (0 : Int),
                                                                              Value.int IntKind.u64 (0 : Int),
                                                                              Value.int IntKind.u64 (0 : Int),
                                                                              Value.int IntKind.u64 (0 : Int)]
                                                                            (92 : Nat));
                                                                      S w1_2 ∧
                                                                        CallT [Ty.one (Sh.int IntKind.u64)] Try.prog
                                                                          (118 : Nat)
                                                                          [Value.pointer
                                                                              (some (Addr.mk w1.heap.size (0 : Nat) none))]
                                                                          w1_2 fun (x_7 : Int) (w'_1 : World) =>
                                                                          S w'_1 ∧
                                                                            CallT [Ty.one (Sh.int IntKind.u64)] Try.prog
                                                                              (118 : Nat)
                                                                              [Value.pointer
                                                                                  (some
                                                                                    (Addr.mk w1.heap.size (0 : Nat) none))]
                                                                              w'_1 fun (x_8 : Int) (w'_2 : World) =>
                                                                              S w'_2 ∧
                                                                                canSt w'_2
                                                                                    (Addr.mk w'.heap.size (0 : Nat) none)
                                                                                    (9 : Nat) ∧
                                                                                  R_1
                                                                                    (some
                                                                                      (Addr.mk w'.heap.size (0 : Nat) none))
                                                                                    (setCells w'_2
                                                                                      (Addr.mk w'.heap.size (0 : Nat) none)
                                                                                      (0 : Nat)
                                                                                      [Value.int IntKind.u64 x,
                                                                                        Value.int IntKind.u64 x_1,
                                                                                        Value.int IntKind.i64 x_2,
                                                                                        Value.int IntKind.i64 x_3,
                                                                                        Value.int IntKind.u64 x_4,
                                                                                        Value.int IntKind.u64 x_5,
                                                                                        Value.int IntKind.u64 x_6,
                                                                                        Value.int IntKind.u64 x_7,
                                                                                        Value.int IntKind.u64 x_8])) ∧
                                                                let w1_2 :=
                                                                  w'.alloc
                                                                    (Obj.cells
                                                                      #[Value.int IntKind.u64 (0 : Int),
                                                                        Value.int IntKind.u64 (0 : Int),
                                                                        Value.int IntKind.i64 (0 : Int),
                                                                        Value.int IntKind.i64 (0 : Int),
                                                                        Value.int IntKind.u64 (0 : Int),
                                                                        Value.int IntKind.u64 (0 : Int),
                                                                        Value.int IntKind.u64 (0 : Int),
                                                                        Value.int IntKind.u64 (0 : Int),
                                                                        Value.int IntKind.u64 (0 : Int)]
                                                                      (92 : Nat));
                                                                S w1_2 ∧
                                                                  CallT [Ty.one (Sh.int IntKind.u64)] Try.prog (118 : Nat)
                                                                    [Value.pointer
                                                                        (some (Addr.mk w1.heap.size (0 : Nat) none))]
                                                                    w1_2 fun (x_6 : Int) (w'_1 : World) =>
                                                                    S w'_1 ∧
                                                                      CallT [Ty.one (Sh.int IntKind.u64)] Try.prog
                                                                        (118 : Nat)
                                                                        [Value.pointer
                                                                            (some (Addr.mk w1.heap.size (0 : Nat) none))]
                                                                        w'_1 fun (x_7 : Int) (w'_2 : World) =>
                                                                        S w'_2 ∧
                                                                          CallT [Ty.one (Sh.int IntKind.u64)] Try.prog
                                                                            (118 : Nat)
                                                                            [Value.pointer
                                                                                (some
                                                                                  (Addr.mk w1.heap.size (0 : Nat) none))]
                                                                            w'_2 fun (x_8 : Int) (w'_3 : World) =>
                                                                            S w'_3 ∧
                                                                              canSt w'_3
                                                                                  (Addr.mk w'.heap.size (0 : Nat) none)
                                                                                  (9 : Nat) ∧
                                                                                R_1
                                                                                  (some
                                                                                    (Addr.mk w'.heap.size (0 : Nat) none))
                                                                                  (setCells w'_3
                                                                                    (Addr.mk w'.heap.size (0 : Nat) none)
                                                                                    (0 : Nat)
                                                                                    [Value.int IntKind.u64 x,
                                                                                      Value.int IntKind.u64 x_1,
                                                                                      Value.int IntKind.i64 x_2,
                                                                                      Value.int IntKind.i64 x_3,
                                                                                      Value.int IntKind.u64 x_4,
                                                                                      Value.int IntKind.u64 x_5,
                                                                                      Value.int IntKind.u64 x_6,
                                                                                      Value.int IntKind.u64 x_7,
                                                                                      Value.int IntKind.u64 x_8])) ∧
                                                          let w1_2 :=
                                                            w'.alloc
                                                              (Obj.cells
                                                                #[Value.int IntKind.u64 (0 : Int),
                                                                  Value.int IntKind.u64 (0 : Int),
                                                                  Value.int IntKind.i64 (0 : Int),
                                                                  Value.int IntKind.i64 (0 : Int),
                                                                  Value.int IntKind.u64 (0 : Int),
                                                                  Value.int IntKind.u64 (0 : Int),
                                                                  Value.int IntKind.u64 (0 : Int),
                                                                  Value.int IntKind.u64 (0 : Int),
                                                                  Value.int IntKind.u64 (0 : Int)]
                                                                (92 : Nat));
                                                          S w1_2 ∧
                                                            CallT [Ty.one (Sh.int IntKind.u64)] Try.prog (118 : Nat)
                                                              [Value.pointer (some (Addr.mk w1.heap.size (0 : Nat) none))]
                                                              w1_2 fun (x_5 : Int) (w'_1 : World) =>
                                                              S w'_1 ∧
                                                                CallT [Ty.one (Sh.int IntKind.u64)] Try.prog (118 : Nat)
                                                                  [Value.pointer
                                                                      (some (Addr.mk w1.heap.size (0 : Nat) none))]
                                                                  w'_1 fun (x_6 : Int) (w'_2 : World) =>
                                                                  S w'_2 ∧
                                                                    CallT [Ty.one (Sh.int IntKind.u64)] Try.prog (118 : Nat)
                                                                      [Value.pointer
                                                                          (some (Addr.mk w1.heap.size (0 : Nat) none))]
                                                                      w'_2 fun (x_7 : Int) (w'_3 : World) =>
                                                                      S w'_3 ∧
                                                                        CallT [Ty.one (Sh.int IntKind.u64)] Try.prog
                                                                          (118 : Nat)
                                                                          [Value.pointer
                                                                              (some (Addr.mk w1.heap.size (0 : Nat) none))]
                                                                          w'_3 fun (x_8 : Int) (w'_4 : World) =>
                                                                          S w'_4 ∧
                                                                            canSt w'_4 (Addr.mk w'.heap.size (0 : Nat) none)
                                                                                (9 : Nat) ∧
                                                                              R_1
                                                                                (some (Addr.mk w'.heap.size (0 : Nat) none))
                                                                                (setCells w'_4
                                                                                  (Addr.mk w'.heap.size (0 : Nat) none)
                                                                                  (0 : Nat)
                                                                                  [Value.int IntKind.u64 x,
                                                                                    Value.int IntKind.u64 x_1,
                                                                                    Value.int IntKind.i64 x_2,
                                                                                    Value.int IntKind.i64 x_3,
                                                                                    Value.int IntKind.u64 x_4,
                                                                                    Value.int IntKind.u64 x_5,
                                                                                    Value.int IntKind.u64 x_6,
                                                                                    Value.int IntKind.u64 x_7,
                                                                                    Value.int IntKind.u64 x_8])) ∧
                                                    let w1_2 :=
                                                      w'.alloc
                                                        (Obj.cells
                                                          #[Value.int IntKind.u64 (0 : Int),
                                                            Value.int IntKind.u64 (0 : Int),
                                                            Value.int IntKind.i64 (0 : Int),
                                                            Value.int IntKind.i64 (0 : Int),
                                                            Value.int IntKind.u64 (0 : Int),
                                                            Value.int IntKind.u64 (0 : Int),
                                                            Value.int IntKind.u64 (0 : Int),
                                                            Value.int IntKind.u64 (0 : Int),
                                                            Value.int IntKind.u64 (0 : Int)]
                                                          (92 : Nat));
                                                    S w1_2 ∧
                                                      CallT [Ty.one (Sh.int IntKind.u64)] Try.prog (118 : Nat)
                                                        [Value.pointer (some (Addr.mk w1.heap.size (0 : Nat) none))] w1_2
                                                        fun (x_4 : Int) (w'_1 : World) =>
                                                        S w'_1 ∧
                                                          CallT [Ty.one (Sh.int IntKind.u64)] Try.prog (118 : Nat)
                                                            [Value.pointer (some (Addr.mk w1.heap.size (0 : Nat) none))]
                                                            w'_1 fun (x_5 : Int) (w'_2 : World) =>
                                                            S w'_2 ∧
                                                              CallT [Ty.one (Sh.int IntKind.u64)] Try.prog (118 : Nat)
                                                                [Value.pointer (some (Addr.mk w1.heap.size (0 : Nat) none))]
                                                                w'_2 fun (x_6 : Int) (w'_3 : World) =>
                                                                S w'_3 ∧
                                                                  CallT [Ty.one (Sh.int IntKind.u64)] Try.prog (118 : Nat)
                                                                    [Value.pointer
                                                                        (some (Addr.mk w1.heap.size (0 : Nat) none))]
                                                                    w'_3 fun (x_7 : Int) (w'_4 : World) =>
                                                                    S w'_4 ∧
                                                                      CallT [Ty.one (Sh.int IntKind.u64)] Try.prog
                                                                        (118 : Nat)
                                                                        [Value.pointer
                                                                            (some (Addr.mk w1.heap.size (0 : Nat) none))]
                                                                        w'_4 fun (x_8 : Int) (w'_5 : World) =>
                                                                        S w'_5 ∧
                                                                          canSt w'_5 (Addr.mk w'.heap.size (0 : Nat) none)
                                                                              (9 : Nat) ∧
                                                                            R_1 (some (Addr.mk w'.heap.size (0 : Nat) none))
                                                                              (setCells w'_5
                                                                                (Addr.mk w'.heap.size (0 : Nat) none)
                                                                                (0 : Nat)
                                                                                [Value.int IntKind.u64 x,
                                                                                  Value.int IntKind.u64 x_1,
                                                                                  Value.int IntKind.i64 x_2,
                                                                                  Value.int IntKind.i64 x_3,
                                                                                  Value.int IntKind.u64 x_4,
                                                                                  Value.int IntKind.u64 x_5,
                                                                                  Value.int IntKind.u64 x_6,
                                                                                  Value.int IntKind.u64 x_7,
                                                                                  Value.int IntKind.u64 x_8])) ∧
                                              let w1_2 :=
                                                w'.alloc
                                                  (Obj.cells
                                                    #[Value.int IntKind.u64 (0 : Int), Value.int IntKind.u64 (0 : Int),
                                                      Value.int IntKind.i64 (0 : Int), Value.int IntKind.i64 (0 : Int),
                                                      Value.int IntKind.u64 (0 : Int), Value.int IntKind.u64 (0 : Int),
                                                      Value.int IntKind.u64 (0 : Int), Value.int IntKind.u64 (0 : Int),
                                                      Value.int IntKind.u64 (0 : Int)]
                                                    (92 : Nat));
                                              S w1_2 ∧
                                                CallT [Ty.one (Sh.int IntKind.i64)] Try.prog (119 : Nat)
                                                  [Value.pointer (some (Addr.mk w1.heap.size (0 : Nat) none)),
                                                    Value.int IntKind.u64 (65536 : Int)]
                                                  w1_2 fun (x_3 : Int) (w'_1 : World) =>
                                                  S w'_1 ∧
                                                    CallT [Ty.one (Sh.int IntKind.u64)] Try.prog (118 : Nat)
                                                      [Value.pointer (some (Addr.mk w1.heap.size (0 : Nat) none))] w'_1
                                                      fun (x_4 : Int) (w'_2 : World) =>
                                                      S w'_2 ∧
                                                        CallT [Ty.one (Sh.int IntKind.u64)] Try.prog (118 : Nat)
                                                          [Value.pointer (some (Addr.mk w1.heap.size (0 : Nat) none))] w'_2
                                                          fun (x_5 : Int) (w'_3 : World) =>
                                                          S w'_3 ∧
                                                            CallT [Ty.one (Sh.int IntKind.u64)] Try.prog (118 : Nat)
                                                              [Value.pointer (some (Addr.mk w1.heap.size (0 : Nat) none))]
                                                              w'_3 fun (x_6 : Int) (w'_4 : World) =>
                                                              S w'_4 ∧
                                                                CallT [Ty.one (Sh.int IntKind.u64)] Try.prog (118 : Nat)
                                                                  [Value.pointer
                                                                      (some (Addr.mk w1.heap.size (0 : Nat) none))]
                                                                  w'_4 fun (x_7 : Int) (w'_5 : World) =>
                                                                  S w'_5 ∧
                                                                    CallT [Ty.one (Sh.int IntKind.u64)] Try.prog (118 : Nat)
                                                                      [Value.pointer
                                                                          (some (Addr.mk w1.heap.size (0 : Nat) none))]
                                                                      w'_5 fun (x_8 : Int) (w'_6 : World) =>
                                                                      S w'_6 ∧
                                                                        canSt w'_6 (Addr.mk w'.heap.size (0 : Nat) none)
                                                                            (9 : Nat) ∧
                                                                          R_1 (some (Addr.mk w'.heap.size (0 : Nat) none))
                                                                            (setCells w'_6
                                                                              (Addr.mk w'.heap.size (0 : Nat) none)
                                                                              (0 : Nat)
                                                                              [Value.int IntKind.u64 x,
                                                                                Value.int IntKind.u64 x_1,
                                                                                Value.int IntKind.i64 x_2,
                                                                                Value.int IntKind.i64 x_3,
                                                                                Value.int IntKind.u64 x_4,
                                                                                Value.int IntKind.u64 x_5,
                                                                                Value.int IntKind.u64 x_6,
                                                                                Value.int IntKind.u64 x_7,
                                                                                Value.int IntKind.u64 x_8])) ∧
                                        let w1_2 :=
                                          w'.alloc
                                            (Obj.cells
                                              #[Value.int IntKind.u64 (0 : Int), Value.int IntKind.u64 (0 : Int),
                                                Value.int IntKind.i64 (0 : Int), Value.int IntKind.i64 (0 : Int),
                                                Value.int IntKind.u64 (0 : Int), Value.int IntKind.u64 (0 : Int),
                                                Value.int IntKind.u64 (0 : Int), Value.int IntKind.u64 (0 : Int),
                                                Value.int IntKind.u64 (0 : Int)]
                                              (92 : Nat));
                                        S w1_2 ∧
                                          CallT [Ty.one (Sh.int IntKind.i64)] Try.prog (119 : Nat)
                                            [Value.pointer (some (Addr.mk w1.heap.size (0 : Nat) none)),
                                              Value.int IntKind.u64 (1 : Int)]
                                            w1_2 fun (x_2 : Int) (w'_1 : World) =>
                                            S w'_1 ∧
                                              CallT [Ty.one (Sh.int IntKind.i64)] Try.prog (119 : Nat)
                                                [Value.pointer (some (Addr.mk w1.heap.size (0 : Nat) none)),
                                                  Value.int IntKind.u64 (65536 : Int)]
                                                w'_1 fun (x_3 : Int) (w'_2 : World) =>
                                                S w'_2 ∧
                                                  CallT [Ty.one (Sh.int IntKind.u64)] Try.prog (118 : Nat)
                                                    [Value.pointer (some (Addr.mk w1.heap.size (0 : Nat) none))] w'_2
                                                    fun (x_4 : Int) (w'_3 : World) =>
                                                    S w'_3 ∧
                                                      CallT [Ty.one (Sh.int IntKind.u64)] Try.prog (118 : Nat)
                                                        [Value.pointer (some (Addr.mk w1.heap.size (0 : Nat) none))] w'_3
                                                        fun (x_5 : Int) (w'_4 : World) =>
                                                        S w'_4 ∧
                                                          CallT [Ty.one (Sh.int IntKind.u64)] Try.prog (118 : Nat)
                                                            [Value.pointer (some (Addr.mk w1.heap.size (0 : Nat) none))]
                                                            w'_4 fun (x_6 : Int) (w'_5 : World) =>
                                                            S w'_5 ∧
                                                              CallT [Ty.one (Sh.int IntKind.u64)] Try.prog (118 : Nat)
                                                                [Value.pointer (some (Addr.mk w1.heap.size (0 : Nat) none))]
                                                                w'_5 fun (x_7 : Int) (w'_6 : World) =>
                                                                S w'_6 ∧
                                                                  CallT [Ty.one (Sh.int IntKind.u64)] Try.prog (118 : Nat)
                                                                    [Value.pointer
                                                                        (some (Addr.mk w1.heap.size (0 : Nat) none))]
                                                                    w'_6 fun (x_8 : Int) (w'_7 : World) =>
                                                                    S w'_7 ∧
                                                                      canSt w'_7 (Addr.mk w'.heap.size (0 : Nat) none)
                                                                          (9 : Nat) ∧
                                                                        R_1 (some (Addr.mk w'.heap.size (0 : Nat) none))
                                                                          (setCells w'_7
                                                                            (Addr.mk w'.heap.size (0 : Nat) none) (0 : Nat)
                                                                            [Value.int IntKind.u64 x,
                                                                              Value.int IntKind.u64 x_1,
                                                                              Value.int IntKind.i64 x_2,
                                                                              Value.int IntKind.i64 x_3,
                                                                              Value.int IntKind.u64 x_4,
                                                                              Value.int IntKind.u64 x_5,
                                                                              Value.int IntKind.u64 x_6,
                                                                              Value.int IntKind.u64 x_7,
                                                                              Value.int IntKind.u64 x_8])) ∧
                                  let w1_2 :=
                                    w1_1.drew.alloc
                                      (Obj.cells
                                        #[Value.int IntKind.u64 (0 : Int), Value.int IntKind.u64 (0 : Int),
                                          Value.int IntKind.i64 (0 : Int), Value.int IntKind.i64 (0 : Int),
                                          Value.int IntKind.u64 (0 : Int), Value.int IntKind.u64 (0 : Int),
                                          Value.int IntKind.u64 (0 : Int), Value.int IntKind.u64 (0 : Int),
                                          Value.int IntKind.u64 (0 : Int)]
                                        (92 : Nat));
                                  S w1_2 ∧
                                    CallT [Ty.one (Sh.int IntKind.u64)] Try.prog (118 : Nat)
                                      [Value.pointer (some (Addr.mk w1.heap.size (0 : Nat) none))] w1_2
                                      fun (x_1 : Int) (w' : World) =>
                                      S w' ∧
                                        CallT [Ty.one (Sh.int IntKind.i64)] Try.prog (119 : Nat)
                                          [Value.pointer (some (Addr.mk w1.heap.size (0 : Nat) none)),
                                            Value.int IntKind.u64 (1 : Int)]
                                          w' fun (x_2 : Int) (w' : World) =>
                                          S w' ∧
                                            CallT [Ty.one (Sh.int IntKind.i64)] Try.prog (119 : Nat)
                                              [Value.pointer (some (Addr.mk w1.heap.size (0 : Nat) none)),
                                                Value.int IntKind.u64 (65536 : Int)]
                                              w' fun (x_3 : Int) (w' : World) =>
                                              S w' ∧
                                                CallT [Ty.one (Sh.int IntKind.u64)] Try.prog (118 : Nat)
                                                  [Value.pointer (some (Addr.mk w1.heap.size (0 : Nat) none))] w'
                                                  fun (x_4 : Int) (w' : World) =>
                                                  S w' ∧
                                                    CallT [Ty.one (Sh.int IntKind.u64)] Try.prog (118 : Nat)
                                                      [Value.pointer (some (Addr.mk w1.heap.size (0 : Nat) none))] w'
                                                      fun (x_5 : Int) (w' : World) =>
                                                      S w' ∧
                                                        CallT [Ty.one (Sh.int IntKind.u64)] Try.prog (118 : Nat)
                                                          [Value.pointer (some (Addr.mk w1.heap.size (0 : Nat) none))] w'
                                                          fun (x_6 : Int) (w' : World) =>
                                                          S w' ∧
                                                            CallT [Ty.one (Sh.int IntKind.u64)] Try.prog (118 : Nat)
                                                              [Value.pointer (some (Addr.mk w1.heap.size (0 : Nat) none))]
                                                              w' fun (x_7 : Int) (w' : World) =>
                                                              S w' ∧
                                                                CallT [Ty.one (Sh.int IntKind.u64)] Try.prog (118 : Nat)
                                                                  [Value.pointer
                                                                      (some (Addr.mk w1.heap.size (0 : Nat) none))]
                                                                  w' fun (x_8 : Int) (w' : World) =>
                                                                  S w' ∧
                                                                    canSt w' (Addr.mk w1_1.drew.heap.size (0 : Nat) none)
                                                                        (9 : Nat) ∧
                                                                      R_1
                                                                        (some (Addr.mk w1_1.drew.heap.size (0 : Nat) none))
                                                                        (setCells w'
                                                                          (Addr.mk w1_1.drew.heap.size (0 : Nat) none)
                                                                          (0 : Nat)
                                                                          [Value.int IntKind.u64 x,
                                                                            Value.int IntKind.u64 x_1,
                                                                            Value.int IntKind.i64 x_2,
                                                                            Value.int IntKind.i64 x_3,
                                                                            Value.int IntKind.u64 x_4,
                                                                            Value.int IntKind.u64 x_5,
                                                                            Value.int IntKind.u64 x_6,
                                                                            Value.int IntKind.u64 x_7,
                                                                            Value.int IntKind.u64 x_8])) ∧
                        ∀ (x : Option Addr) (j : Nat → Value) (w' : World),
                          R_1 x w' →
                            onP x fun (A : Addr) =>
                              ∃ (x_1 : Int × Int × Int × Int × Int × Int × Int × Int × Int),
                                cellsAt w' A
                                    [Value.int IntKind.u64 x_1.fst, Value.int IntKind.u64 x_1.snd.fst,
                                      Value.int IntKind.i64 x_1.snd.snd.fst, Value.int IntKind.i64 x_1.snd.snd.snd.fst,
                                      Value.int IntKind.u64 x_1.snd.snd.snd.snd.fst,
                                      Value.int IntKind.u64 x_1.snd.snd.snd.snd.snd.fst,
                                      Value.int IntKind.u64 x_1.snd.snd.snd.snd.snd.snd.fst,
                                      Value.int IntKind.u64 x_1.snd.snd.snd.snd.snd.snd.snd.fst,
                                      Value.int IntKind.u64 x_1.snd.snd.snd.snd.snd.snd.snd.snd] ∧
                                  CallT [Ty.one Sh.slice, Ty.one (Sh.int IntKind.i64)] Try.prog (74 : Nat)
                                    [Value.agg
                                        #[Value.int IntKind.u64 x_1.fst, Value.int IntKind.u64 x_1.snd.fst,
                                          Value.int IntKind.i64 x_1.snd.snd.fst, Value.int IntKind.i64 x_1.snd.snd.snd.fst,
                                          Value.int IntKind.u64 x_1.snd.snd.snd.snd.fst,
                                          Value.int IntKind.u64 x_1.snd.snd.snd.snd.snd.fst,
                                          Value.int IntKind.u64 x_1.snd.snd.snd.snd.snd.snd.fst,
                                          Value.int IntKind.u64 x_1.snd.snd.snd.snd.snd.snd.snd.fst,
                                          Value.int IntKind.u64 x_1.snd.snd.snd.snd.snd.snd.snd.snd]]
                                    w' fun (x_2 : SV × Int) (w' : World) =>
                                    ∃ (R_2 : Bool → World → Prop),
                                      (∃ (x : Int),
                                          w'.cell? ((Addr.mk w1.heap.size (0 : Nat) none).add (2 : Nat)) =
                                              some (Value.int IntKind.i64 x) ∧
                                            cnd (x != (0 : Int)) (R_2 true w')
                                              (cnd (x_2.snd != (0 : Int)) (R_2 true w')
                                                (CallT [Ty.one Sh.bool] Try.prog (33 : Nat)
                                                  [Value.slice x_2.fst.a x_2.fst.len x_2.fst.cap,
                                                    Value.slice s0.a s0.len s0.cap]
                                                  w' fun (x : Bool) (w' : World) => R_2 (!x) w'))) ∧
                                        ∀ (x_3 : Bool) (j : Nat → Value) (w' : World),
                                          R_2 x_3 w' →
                                            cnd x_3
                                              (canSt w' (Addr.mk w.heap.size (0 : Nat) none) (9 : Nat) ∧
                                                let w1 :=
                                                  setCells w' (Addr.mk w.heap.size (0 : Nat) none) (0 : Nat)
                                                    [Value.int IntKind.u64 (0 : Int), Value.int IntKind.u64 (0 : Int),
                                                      Value.int IntKind.i64 (0 : Int), Value.int IntKind.i64 (0 : Int),
                                                      Value.int IntKind.u64 (0 : Int), Value.int IntKind.u64 (0 : Int),
                                                      Value.int IntKind.u64 (0 : Int), Value.int IntKind.u64 (0 : Int),
                                                      Value.int IntKind.u64 (0 : Int)];
                                                ∃ (x : Int × Int × Int × Int × Int × Int × Int × Int × Int),
                                                  cellsAt w1 (Addr.mk w.heap.size (0 : Nat) none)
                                                      [Value.int IntKind.u64 x.fst, Value.int IntKind.u64 x.snd.fst,
                                                        Value.int IntKind.i64 x.snd.snd.fst,
                                                        Value.int IntKind.i64 x.snd.snd.snd.fst,
                                                        Value.int IntKind.u64 x.snd.snd.snd.snd.fst,
                                                        Value.int IntKind.u64 x.snd.snd.snd.snd.snd.fst,
                                                        Value.int IntKind.u64 x.snd.snd.snd.snd.snd.snd.fst,
                                                        Value.int IntKind.u64 x.snd.snd.snd.snd.snd.snd.snd.fst,
                                                        Value.int IntKind.u64 x.snd.snd.snd.snd.snd.snd.snd.snd] ∧
                                                    R
                                                      ((x.fst, x.snd.fst, x.snd.snd.fst, x.snd.snd.snd.fst,
                                                          x.snd.snd.snd.snd.fst, x.snd.snd.snd.snd.snd.fst,
                                                          x.snd.snd.snd.snd.snd.snd.fst, x.snd.snd.snd.snd.snd.snd.snd.fst,
                                                          x.snd.snd.snd.snd.snd.snd.snd.snd),
                                                        (11 : Int))
                                                      w1)
                                              (onP x fun (A : Addr) =>
                                                ∃ (x : Int × Int × Int × Int × Int × Int × Int × Int × Int),
                                                  cellsAt w' A
                                                      [Value.int IntKind.u64 x.fst, Value.int IntKind.u64 x.snd.fst,
                                                        Value.int IntKind.i64 x.snd.snd.fst,
                                                        Value.int IntKind.i64 x.snd.snd.snd.fst,
                                                        Value.int IntKind.u64 x.snd.snd.snd.snd.fst,
                                                        Value.int IntKind.u64 x.snd.snd.snd.snd.snd.fst,
                                                        Value.int IntKind.u64 x.snd.snd.snd.snd.snd.snd.fst,
                                                        Value.int IntKind.u64 x.snd.snd.snd.snd.snd.snd.snd.fst,
                                                        Value.int IntKind.u64 x.snd.snd.snd.snd.snd.snd.snd.snd] ∧
                                                    canSt w' (Addr.mk w.heap.size (0 : Nat) none) (9 : Nat) ∧
                                                      let w1 :=
                                                        setCells w' (Addr.mk w.heap.size (0 : Nat) none) (0 : Nat)
                                                          [Value.int IntKind.u64 x.fst, Value.int IntKind.u64 x.snd.fst,
                                                            Value.int IntKind.i64 x.snd.snd.fst,
                                                            Value.int IntKind.i64 x.snd.snd.snd.fst,
                                                            Value.int IntKind.u64 x.snd.snd.snd.snd.fst,
                                                            Value.int IntKind.u64 x.snd.snd.snd.snd.snd.fst,
                                                            Value.int IntKind.u64 x.snd.snd.snd.snd.snd.snd.fst,
                                                            Value.int IntKind.u64 x.snd.snd.snd.snd.snd.snd.snd.fst,
                                                            Value.int IntKind.u64 x.snd.snd.snd.snd.snd.snd.snd.snd];
                                                      ∃ (x : Int × Int × Int × Int × Int × Int × Int × Int × Int),
                                                        cellsAt w1 (Addr.mk w.heap.size (0 : Nat) none)
                                                            [Value.int IntKind.u64 x.fst, Value.int IntKind.u64 x.snd.fst,
                                                              Value.int IntKind.i64 x.snd.snd.fst,
                                                              Value.int IntKind.i64 x.snd.snd.snd.fst,
                                                              Value.int IntKind.u64 x.snd.snd.snd.snd.fst,
                                                              Value.int IntKind.u64 x.snd.snd.snd.snd.snd.fst,
                                                              Value.int IntKind.u64 x.snd.snd.snd.snd.snd.snd.fst,
                                                              Value.int IntKind.u64 x.snd.snd.snd.snd.snd.snd.snd.fst,
                                                              Value.int IntKind.u64 x.snd.snd.snd.snd.snd.snd.snd.snd] ∧
                                                          R
                                                            ((x.fst, x.snd.fst, x.snd.snd.fst, x.snd.snd.snd.fst,
                                                                x.snd.snd.snd.snd.fst, x.snd.snd.snd.snd.snd.fst,
                                                                x.snd.snd.snd.snd.snd.snd.fst,
                                                                x.snd.snd.snd.snd.snd.snd.snd.fst,
                                                                x.snd.snd.snd.snd.snd.snd.snd.snd),
                                                              (0 : Int))
                                                            w1))))
  : CallT [Ty.agg
    [Sh.int IntKind.u64, Sh.int IntKind.u64, Sh.int IntKind.i64, Sh.int IntKind.i64, Sh.int IntKind.u64,
      Sh.int IntKind.u64, Sh.int IntKind.u64, Sh.int IntKind.u64, Sh.int IntKind.u64],
  Ty.one (Sh.int IntKind.i64)] Try.prog 75 [Value.slice s0.a s0.len s0.cap] w R :=
  fnV_sound (h := HT.z.sq
  (HT.z.sq
    (HT.z.sq
      (HT.z.sq
        (HT.z.sq
          (HT.jn [((7 : Nat), Ty.one Sh.ptr)]
            (HT.dr
              (DT.take (0 : Nat)
                (DT.take (1 : Nat)
                  (DT.take (2 : Nat)
                    (DT.take (4 : Nat)
                      (DT.take (6 : Nat)
                        (DT.take (8 : Nat)
                          (DT.take (10 : Nat)
                            (DT.take (12 : Nat)
                              (DT.take (14 : Nat)
                                (DT.take (16 : Nat)
                                  (DT.alt (3 : Nat)
                                    (DT.alt (5 : Nat)
                                      (DT.alt (7 : Nat)
                                        (DT.alt (9 : Nat)
                                          (DT.alt (11 : Nat)
                                            (DT.alt (13 : Nat)
                                              (DT.alt (15 : Nat)
                                                (DT.alt (17 : Nat)
                                                  (DT.take (18 : Nat)
                                                    (DT.alt (19 : Nat) (DT.alt (20 : Nat) DT.fin DT.fin) DT.fin))
                                                  (DT.alt (19 : Nat)
                                                    (DT.alt (17 : Nat)
                                                      (DT.take (18 : Nat) (DT.alt (20 : Nat) DT.fin DT.fin)) DT.fin)
                                                    DT.fin))
                                                (DT.alt (19 : Nat)
                                                  (DT.alt (15 : Nat)
                                                    (DT.alt (17 : Nat)
                                                      (DT.take (18 : Nat) (DT.alt (20 : Nat) DT.fin DT.fin)) DT.fin)
                                                    DT.fin)
                                                  DT.fin))
                                              (DT.alt (19 : Nat)
                                                (DT.alt (13 : Nat)
                                                  (DT.alt (15 : Nat)
                                                    (DT.alt (17 : Nat)
                                                      (DT.take (18 : Nat) (DT.alt (20 : Nat) DT.fin DT.fin)) DT.fin)
                                                    DT.fin)
                                                  DT.fin)
                                                DT.fin))
                                            (DT.alt (19 : Nat)
                                              (DT.alt (11 : Nat)
                                                (DT.alt (13 : Nat)
                                                  (DT.alt (15 : Nat)
                                                    (DT.alt (17 : Nat)
                                                      (DT.take (18 : Nat) (DT.alt (20 : Nat) DT.fin DT.fin)) DT.fin)
                                                    DT.fin)
                                                  DT.fin)
                                                DT.fin)
                                              DT.fin))
                                          (DT.alt (19 : Nat)
                                            (DT.alt (9 : Nat)
                                              (DT.alt (11 : Nat)
                                                (DT.alt (13 : Nat)
                                                  (DT.alt (15 : Nat)
                                                    (DT.alt (17 : Nat)
                                                      (DT.take (18 : Nat) (DT.alt (20 : Nat) DT.fin DT.fin)) DT.fin)
                                                    DT.fin)
                                                  DT.fin)
                                                DT.fin)
                                              DT.fin)
                                            DT.fin))
                                        (DT.alt (19 : Nat)
                                          (DT.alt (7 : Nat)
                                            (DT.alt (9 : Nat)
                                              (DT.alt (11 : Nat)
                                                (DT.alt (13 : Nat)
                                                  (DT.alt (15 : Nat)
                                                    (DT.alt (17 : Nat)
                                                      (DT.take (18 : Nat) (DT.alt (20 : Nat) DT.fin DT.fin)) DT.fin)
                                                    DT.fin)
                                                  DT.fin)
                                                DT.fin)
                                              DT.fin)
                                            DT.fin)
                                          DT.fin))
                                      (DT.alt (19 : Nat)
                                        (DT.alt (5 : Nat)
                                          (DT.alt (7 : Nat)
                                            (DT.alt (9 : Nat)
                                              (DT.alt (11 : Nat)
                                                (DT.alt (13 : Nat)
                                                  (DT.alt (15 : Nat)
                                                    (DT.alt (17 : Nat)
                                                      (DT.take (18 : Nat) (DT.alt (20 : Nat) DT.fin DT.fin)) DT.fin)
                                                    DT.fin)
                                                  DT.fin)
                                                DT.fin)
                                              DT.fin)
                                            DT.fin)
                                          DT.fin)
                                        DT.fin))
                                    (DT.alt (19 : Nat)
                                      (DT.alt (3 : Nat)
                                        (DT.alt (5 : Nat)
                                          (DT.alt (7 : Nat)
                                            (DT.alt (9 : Nat)
                                              (DT.alt (11 : Nat)
                                                (DT.alt (13 : Nat)
                                                  (DT.alt (15 : Nat)
                                                    (DT.alt (17 : Nat)
                                                      (DT.take (18 : Nat) (DT.alt (20 : Nat) DT.fin DT.fin)) DT.fin)
                                                    DT.fin)
                                                  DT.fin)
                                                DT.fin)
                                              DT.fin)
                                            DT.fin)
                                          DT.fin)
                                        DT.fin)
                                      DT.fin)))))))))))))
            (HT.z.sq ((HT.jn [((64 : Nat), Ty.one Sh.bool)] HT.z HT.z).sq HT.z)))))))) Try.func75 (by kernel_rfl) (by kernel_rfl) (Eq.mp (by kernel_rfl) h)

/-- dunnage/dunnageref27.Choose -/
theorem dunnageref27_Choose.vc (s0 : SV) (s1 : SV) (w : World) (R : (Int × Int × Int × Int × Int × Int × Int × Int × Int) × Int × Int → World → Prop)
  (h : CallT
      [Ty.agg
          [Sh.int IntKind.u64, Sh.int IntKind.u64, Sh.int IntKind.i64, Sh.int IntKind.i64, Sh.int IntKind.u64,
            Sh.int IntKind.u64, Sh.int IntKind.u64, Sh.int IntKind.u64, Sh.int IntKind.u64],
        Ty.one (Sh.int IntKind.i64)]
      Try.prog (75 : Nat) [Value.slice s0.a s0.len s0.cap]
      (w.alloc
        (Obj.cells
          #[Value.int IntKind.u64 (0 : Int), Value.int IntKind.u64 (0 : Int), Value.int IntKind.i64 (0 : Int),
            Value.int IntKind.i64 (0 : Int), Value.int IntKind.u64 (0 : Int), Value.int IntKind.u64 (0 : Int),
            Value.int IntKind.u64 (0 : Int), Value.int IntKind.u64 (0 : Int), Value.int IntKind.u64 (0 : Int)]
          (92 : Nat)))
      fun (x : (Int × Int × Int × Int × Int × Int × Int × Int × Int) × Int) (w' : World) =>
      let e1 := x.snd;
      let w1 :=
        w'.alloc
          (Obj.cells
            #[Value.int IntKind.u64 (0 : Int), Value.int IntKind.u64 (0 : Int), Value.int IntKind.i64 (0 : Int),
              Value.int IntKind.i64 (0 : Int), Value.int IntKind.u64 (0 : Int), Value.int IntKind.u64 (0 : Int),
              Value.int IntKind.u64 (0 : Int), Value.int IntKind.u64 (0 : Int), Value.int IntKind.u64 (0 : Int)]
            (92 : Nat));
      canSt w1 (Addr.mk w'.heap.size (0 : Nat) none) (9 : Nat) ∧
        CallT
          [Ty.agg
              [Sh.int IntKind.u64, Sh.int IntKind.u64, Sh.int IntKind.i64, Sh.int IntKind.i64, Sh.int IntKind.u64,
                Sh.int IntKind.u64, Sh.int IntKind.u64, Sh.int IntKind.u64, Sh.int IntKind.u64],
            Ty.one (Sh.int IntKind.i64)]
          Try.prog (75 : Nat) [Value.slice s1.a s1.len s1.cap]
          (setCells w1 (Addr.mk w'.heap.size (0 : Nat) none) (0 : Nat)
            [Value.int IntKind.u64 x.fst.fst, Value.int IntKind.u64 x.fst.snd.fst, Value.int IntKind.i64 x.fst.snd.snd.fst,
              Value.int IntKind.i64 x.fst.snd.snd.snd.fst, Value.int IntKind.u64 x.fst.snd.snd.snd.snd.fst,
              Value.int IntKind.u64 x.fst.snd.snd.snd.snd.snd.fst, Value.int IntKind.u64 x.fst.snd.snd.snd.snd.snd.snd.fst,
              Value.int IntKind.u64 x.fst.snd.snd.snd.snd.snd.snd.snd.fst,
              Value.int IntKind.u64 x.fst.snd.snd.snd.snd.snd.snd.snd.snd])
          fun (x : (Int × Int × Int × Int × Int × Int × Int × Int × Int) × Int) (w'_1 : World) =>
          let e1_1 := x.snd;
          let w1 :=
            w'_1.alloc
              (Obj.cells
                #[Value.int IntKind.u64 (0 : Int), Value.int IntKind.u64 (0 : Int), Value.int IntKind.i64 (0 : Int),
                  Value.int IntKind.i64 (0 : Int), Value.int IntKind.u64 (0 : Int), Value.int IntKind.u64 (0 : Int),
                  Value.int IntKind.u64 (0 : Int), Value.int IntKind.u64 (0 : Int), Value.int IntKind.u64 (0 : Int)]
                (92 : Nat));
          canSt w1 (Addr.mk w'_1.heap.size (0 : Nat) none) (9 : Nat) ∧
            let w1 :=
              setCells w1 (Addr.mk w'_1.heap.size (0 : Nat) none) (0 : Nat)
                [Value.int IntKind.u64 x.fst.fst, Value.int IntKind.u64 x.fst.snd.fst,
                  Value.int IntKind.i64 x.fst.snd.snd.fst, Value.int IntKind.i64 x.fst.snd.snd.snd.fst,
                  Value.int IntKind.u64 x.fst.snd.snd.snd.snd.fst, Value.int IntKind.u64 x.fst.snd.snd.snd.snd.snd.fst,
                  Value.int IntKind.u64 x.fst.snd.snd.snd.snd.snd.snd.fst,
                  Value.int IntKind.u64 x.fst.snd.snd.snd.snd.snd.snd.snd.fst,
                  Value.int IntKind.u64 x.fst.snd.snd.snd.snd.snd.snd.snd.snd];
            ∃ (R_1 : Bool → World → Prop),
              cnd (e1 == (5 : Int)) (R_1 true w1) (R_1 (e1 == (11 : Int)) w1) ∧
                ∀ (x : Bool) (j : Nat → Value) (w'_2 : World),
                  R_1 x w'_2 →
                    cnd x
                      (canSt w'_2 (Addr.mk w.heap.size (0 : Nat) none) (9 : Nat) ∧
                        let w1 :=
                          setCells w'_2 (Addr.mk w.heap.size (0 : Nat) none) (0 : Nat)
                            [Value.int IntKind.u64 (0 : Int), Value.int IntKind.u64 (0 : Int),
                              Value.int IntKind.i64 (0 : Int), Value.int IntKind.i64 (0 : Int),
                              Value.int IntKind.u64 (0 : Int), Value.int IntKind.u64 (0 : Int),
                              Value.int IntKind.u64 (0 : Int), Value.int IntKind.u64 (0 : Int),
                              Value.int IntKind.u64 (0 : Int)];
                        ∃ (x : Int × Int × Int × Int × Int × Int × Int × Int × Int),
                          cellsAt w1 (Addr.mk w.heap.size (0 : Nat) none)
                              [Value.int IntKind.u64 x.fst, Value.int IntKind.u64 x.snd.fst,
                                Value.int IntKind.i64 x.snd.snd.fst, Value.int IntKind.i64 x.snd.snd.snd.fst,
                                Value.int IntKind.u64 x.snd.snd.snd.snd.fst,
                                Value.int IntKind.u64 x.snd.snd.snd.snd.snd.fst,
                                Value.int IntKind.u64 x.snd.snd.snd.snd.snd.snd.fst,
                                Value.int IntKind.u64 x.snd.snd.snd.snd.snd.snd.snd.fst,
                                Value.int IntKind.u64 x.snd.snd.snd.snd.snd.snd.snd.snd] ∧
                            R
                              ((x.fst, x.snd.fst, x.snd.snd.fst, x.snd.snd.snd.fst, x.snd.snd.snd.snd.fst,
                                  x.snd.snd.snd.snd.snd.fst, x.snd.snd.snd.snd.snd.snd.fst,
                                  x.snd.snd.snd.snd.snd.snd.snd.fst, x.snd.snd.snd.snd.snd.snd.snd.snd),
                                (0 : Int), e1)
                              w1)
                      (∃ (R_2 : Bool → World → Prop),
                        cnd (e1_1 == (5 : Int)) (R_2 true w'_2) (R_2 (e1_1 == (11 : Int)) w'_2) ∧
                          ∀ (x : Bool) (j : Nat → Value) (w'_3 : World),
                            R_2 x w'_3 →
                              cnd x
                                (canSt w'_3 (Addr.mk w.heap.size (0 : Nat) none) (9 : Nat) ∧
                                  let w1 :=
                                    setCells w'_3 (Addr.mk w.heap.size (0 : Nat) none) (0 : Nat)
                                      [Value.int IntKind.u64 (0 : Int), Value.int IntKind.u64 (0 : Int),
                                        Value.int IntKind.i64 (0 : Int), Value.int IntKind.i64 (0 : Int),
                                        Value.int IntKind.u64 (0 : Int), Value.int IntKind.u64 (0 : Int),
                                        Value.int IntKind.u64 (0 : Int), Value.int IntKind.u64 (0 : Int),
                                        Value.int IntKind.u64 (0 : Int)];
                                  ∃ (x : Int × Int × Int × Int × Int × Int × Int × Int × Int),
                                    cellsAt w1 (Addr.mk w.heap.size (0 : Nat) none)
                                        [Value.int IntKind.u64 x.fst, Value.int IntKind.u64 x.snd.fst,
                                          Value.int IntKind.i64 x.snd.snd.fst, Value.int IntKind.i64 x.snd.snd.snd.fst,
                                          Value.int IntKind.u64 x.snd.snd.snd.snd.fst,
                                          Value.int IntKind.u64 x.snd.snd.snd.snd.snd.fst,
                                          Value.int IntKind.u64 x.snd.snd.snd.snd.snd.snd.fst,
                                          Value.int IntKind.u64 x.snd.snd.snd.snd.snd.snd.snd.fst,
                                          Value.int IntKind.u64 x.snd.snd.snd.snd.snd.snd.snd.snd] ∧
                                      R
                                        ((x.fst, x.snd.fst, x.snd.snd.fst, x.snd.snd.snd.fst, x.snd.snd.snd.snd.fst,
                                            x.snd.snd.snd.snd.snd.fst, x.snd.snd.snd.snd.snd.snd.fst,
                                            x.snd.snd.snd.snd.snd.snd.snd.fst, x.snd.snd.snd.snd.snd.snd.snd.snd),
                                          (0 : Int), e1_1)
                                        w1)
                                (∃ (R_3 : Bool → World → Prop),
                                  cnd (e1 == (270 : Int)) (R_3 (e1_1 == (270 : Int)) w'_3) (R_3 false w'_3) ∧
                                    ∀ (x : Bool) (j : Nat → Value) (w'_4 : World),
                                      R_3 x w'_4 →
                                        cnd x
                                          (canSt w'_4 (Addr.mk w.heap.size (0 : Nat) none) (9 : Nat) ∧
                                            let w1 :=
                                              setCells w'_4 (Addr.mk w.heap.size (0 : Nat) none) (0 : Nat)
                                                [Value.int IntKind.u64 (0 : Int), Value.int IntKind.u64 (0 : Int),
                                                  Value.int IntKind.i64 (0 : Int), Value.int IntKind.i64 (0 : Int),
                                                  Value.int IntKind.u64 (0 : Int), Value.int IntKind.u64 (0 : Int),
                                                  Value.int IntKind.u64 (0 : Int), Value.int IntKind.u64 (0 : Int),
                                                  Value.int IntKind.u64 (0 : Int)];
                                            ∃ (x : Int × Int × Int × Int × Int × Int × Int × Int × Int),
                                              cellsAt w1 (Addr.mk w.heap.size (0 : Nat) none)
                                                  [Value.int IntKind.u64 x.fst, Value.int IntKind.u64 x.snd.fst,
                                                    Value.int IntKind.i64 x.snd.snd.fst,
                                                    Value.int IntKind.i64 x.snd.snd.snd.fst,
                                                    Value.int IntKind.u64 x.snd.snd.snd.snd.fst,
                                                    Value.int IntKind.u64 x.snd.snd.snd.snd.snd.fst,
                                                    Value.int IntKind.u64 x.snd.snd.snd.snd.snd.snd.fst,
                                                    Value.int IntKind.u64 x.snd.snd.snd.snd.snd.snd.snd.fst,
                                                    Value.int IntKind.u64 x.snd.snd.snd.snd.snd.snd.snd.snd] ∧
                                                R
                                                  ((x.fst, x.snd.fst, x.snd.snd.fst, x.snd.snd.snd.fst,
                                                      x.snd.snd.snd.snd.fst, x.snd.snd.snd.snd.snd.fst,
                                                      x.snd.snd.snd.snd.snd.snd.fst, x.snd.snd.snd.snd.snd.snd.snd.fst,
                                                      x.snd.snd.snd.snd.snd.snd.snd.snd),
                                                    (0 : Int), (270 : Int))
                                                  w1)
                                          (cnd (e1 == (270 : Int))
                                            (∃ (x : Int × Int × Int × Int × Int × Int × Int × Int × Int),
                                              cellsAt w'_4 (Addr.mk w'_1.heap.size (0 : Nat) none)
                                                  [Value.int IntKind.u64 x.fst, Value.int IntKind.u64 x.snd.fst,
                                                    Value.int IntKind.i64 x.snd.snd.fst,
                                                    Value.int IntKind.i64 x.snd.snd.snd.fst,
                                                    Value.int IntKind.u64 x.snd.snd.snd.snd.fst,
                                                    Value.int IntKind.u64 x.snd.snd.snd.snd.snd.fst,
                                                    Value.int IntKind.u64 x.snd.snd.snd.snd.snd.snd.fst,
                                                    Value.int IntKind.u64 x.snd.snd.snd.snd.snd.snd.snd.fst,
                                                    Value.int IntKind.u64 x.snd.snd.snd.snd.snd.snd.snd.snd] ∧
                                                canSt w'_4 (Addr.mk w.heap.size (0 : Nat) none) (9 : Nat) ∧
                                                  let w1 :=
                                                    setCells w'_4 (Addr.mk w.heap.size (0 : Nat) none) (0 : Nat)
                                                      [Value.int IntKind.u64 x.fst, Value.int IntKind.u64 x.snd.fst,
                                                        Value.int IntKind.i64 x.snd.snd.fst,
                                                        Value.int IntKind.i64 x.snd.snd.snd.fst,
                                                        Value.int IntKind.u64 x.snd.snd.snd.snd.fst,
                                                        Value.int IntKind.u64 x.snd.snd.snd.snd.snd.fst,
                                                        Value.int IntKind.u64 x.snd.snd.snd.snd.snd.snd.fst,
                                                        Value.int IntKind.u64 x.snd.snd.snd.snd.snd.snd.snd.fst,
                                                        Value.int IntKind.u64 x.snd.snd.snd.snd.snd.snd.snd.snd];
                                                  ∃ (x : Int × Int × Int × Int × Int × Int × Int × Int × Int),
                                                    cellsAt w1 (Addr.mk w.heap.size (0 : Nat) none)
                                                        [Value.int IntKind.u64 x.fst, Value.int IntKind.u64 x.snd.fst,
                                                          Value.int IntKind.i64 x.snd.snd.fst,
                                                          Value.int IntKind.i64 x.snd.snd.snd.fst,
                                                          Value.int IntKind.u64 x.snd.snd.snd.snd.fst,
                                                          Value.int IntKind.u64 x.snd.snd.snd.snd.snd.fst,
                                                          Value.int IntKind.u64 x.snd.snd.snd.snd.snd.snd.fst,
                                                          Value.int IntKind.u64 x.snd.snd.snd.snd.snd.snd.snd.fst,
                                                          Value.int IntKind.u64 x.snd.snd.snd.snd.snd.snd.snd.snd] ∧
                                                      R
                                                        ((x.fst, x.snd.fst, x.snd.snd.fst, x.snd.snd.snd.fst,
                                                            x.snd.snd.snd.snd.fst, x.snd.snd.snd.snd.snd.fst,
                                                            x.snd.snd.snd.snd.snd.snd.fst,
                                                            x.snd.snd.snd.snd.snd.snd.snd.fst,
                                                            x.snd.snd.snd.snd.snd.snd.snd.snd),
                                                          (1 : Int), (0 : Int))
                                                        w1)
                                            (cnd (e1_1 == (270 : Int))
                                              (∃ (x : Int × Int × Int × Int × Int × Int × Int × Int × Int),
                                                cellsAt w'_4 (Addr.mk w'.heap.size (0 : Nat) none)
                                                    [Value.int IntKind.u64 x.fst, Value.int IntKind.u64 x.snd.fst,
                                                      Value.int IntKind.i64 x.snd.snd.fst,
                                                      Value.int IntKind.i64 x.snd.snd.snd.fst,
                                                      Value.int IntKind.u64 x.snd.snd.snd.snd.fst,
                                                      Value.int IntKind.u64 x.snd.snd.snd.snd.snd.fst,
                                                      Value.int IntKind.u64 x.snd.snd.snd.snd.snd.snd.fst,
                                                      Value.int IntKind.u64 x.snd.snd.snd.snd.snd.snd.snd.fst,
                                                      Value.int IntKind.u64 x.snd.snd.snd.snd.snd.snd.snd.snd] ∧
                                                  canSt w'_4 (Addr.mk w.heap.size (0 : Nat) none) (9 : Nat) ∧
                                                    let w1 :=
                                                      setCells w'_4 (Addr.mk w.heap.size (0 : Nat) none) (0 : Nat)
                                                        [Value.int IntKind.u64 x.fst, Value.int IntKind.u64 x.snd.fst,
                                                          Value.int IntKind.i64 x.snd.snd.fst,
                                                          Value.int IntKind.i64 x.snd.snd.snd.fst,
                                                          Value.int IntKind.u64 x.snd.snd.snd.snd.fst,
                                                          Value.int IntKind.u64 x.snd.snd.snd.snd.snd.fst,
                                                          Value.int IntKind.u64 x.snd.snd.snd.snd.snd.snd.fst,
                                                          Value.int IntKind.u64 x.snd.snd.snd.snd.snd.snd.snd.fst,
                                                          Value.int IntKind.u64 x.snd.snd.snd.snd.snd.snd.snd.snd];
                                                    ∃ (x : Int × Int × Int × Int × Int × Int × Int × Int × Int),
                                                      cellsAt w1 (Addr.mk w.heap.size (0 : Nat) none)
                                                          [Value.int IntKind.u64 x.fst, Value.int IntKind.u64 x.snd.fst,
                                                            Value.int IntKind.i64 x.snd.snd.fst,
                                                            Value.int IntKind.i64 x.snd.snd.snd.fst,
                                                            Value.int IntKind.u64 x.snd.snd.snd.snd.fst,
                                                            Value.int IntKind.u64 x.snd.snd.snd.snd.snd.fst,
                                                            Value.int IntKind.u64 x.snd.snd.snd.snd.snd.snd.fst,
                                                            Value.int IntKind.u64 x.snd.snd.snd.snd.snd.snd.snd.fst,
                                                            Value.int IntKind.u64 x.snd.snd.snd.snd.snd.snd.snd.snd] ∧
                                                        R
                                                          ((x.fst, x.snd.fst, x.snd.snd.fst, x.snd.snd.snd.fst,
                                                              x.snd.snd.snd.snd.fst, x.snd.snd.snd.snd.snd.fst,
                                                              x.snd.snd.snd.snd.snd.snd.fst,
                                                              x.snd.snd.snd.snd.snd.snd.snd.fst,
                                                              x.snd.snd.snd.snd.snd.snd.snd.snd),
                                                            (0 : Int), (0 : Int))
                                                          w1)
                                              (∃ (x : Int),
                                                w'_4.cell? ((Addr.mk w'.heap.size (0 : Nat) none).add (0 : Nat)) =
                                                    some (Value.int IntKind.u64 x) ∧
                                                  ∃ (x_1 : Int),
                                                    w'_4.cell? ((Addr.mk w'_1.heap.size (0 : Nat) none).add (0 : Nat)) =
                                                        some (Value.int IntKind.u64 x_1) ∧
                                                      cnd (x == x_1)
                                                        (canSt w'_4 (Addr.mk w.heap.size (0 : Nat) none) (9 : Nat) ∧
                                                          let w1 :=
                                                            setCells w'_4 (Addr.mk w.heap.size (0 : Nat) none) (0 : Nat)
                                                              [Value.int IntKind.u64 (0 : Int),
                                                                Value.int IntKind.u64 (0 : Int),
                                                                Value.int IntKind.i64 (0 : Int),
                                                                Value.int IntKind.i64 (0 : Int),
                                                                Value.int IntKind.u64 (0 : Int),
                                                                Value.int IntKind.u64 (0 : Int),
                                                                Value.int IntKind.u64 (0 : Int),
                                                                Value.int IntKind.u64 (0 : Int),
                                                                Value.int IntKind.u64 (0 : Int)];
                                                          ∃ (x : Int × Int × Int × Int × Int × Int × Int × Int × Int),
                                                            cellsAt w1 (Addr.mk w.heap.size (0 : Nat) none)
                                                                [Value.int IntKind.u64 x.fst,
                                                                  Value.int IntKind.u64 x.snd.fst,
                                                                  Value.int IntKind.i64 x.snd.snd.fst,
                                                                  Value.int IntKind.i64 x.snd.snd.snd.fst,
                                                                  Value.int IntKind.u64 x.snd.snd.snd.snd.fst,
                                                                  Value.int IntKind.u64 x.snd.snd.snd.snd.snd.fst,
                                                                  Value.int IntKind.u64 x.snd.snd.snd.snd.snd.snd.fst,
                                                                  Value.int IntKind.u64 x.snd.snd.snd.snd.snd.snd.snd.fst,
                                                                  Value.int IntKind.u64 x.snd.snd.snd.snd.snd.snd.snd.snd] ∧
                                                              R
                                                                ((x.fst, x.snd.fst, x.snd.snd.fst, x.snd.snd.snd.fst,
                                                                    x.snd.snd.snd.snd.fst, x.snd.snd.snd.snd.snd.fst,
                                                                    x.snd.snd.snd.snd.snd.snd.fst,
                                                                    x.snd.snd.snd.snd.snd.snd.snd.fst,
                                                                    x.snd.snd.snd.snd.snd.snd.snd.snd),
                                                                  (0 : Int), (11 : Int))
                                                                w1)
                                                        (∃ (x : Int),
                                                          w'_4.cell? ((Addr.mk w'.heap.size (0 : Nat) none).add (0 : Nat)) =
                                                              some (Value.int IntKind.u64 x) ∧
                                                            ∃ (x_2 : Int),
                                                              w'_4.cell?
                                                                    ((Addr.mk w'_1.heap.size (0 : Nat) none).add
                                                                      (0 : Nat)) =
                                                                  some (Value.int IntKind.u64 x_2) ∧
                                                                cnd (decide (x > x_2))
                                                                  (∃ (x :
                                                                    Int × Int × Int × Int × Int × Int × Int × Int × Int),
                                                                    cellsAt w'_4 (Addr.mk w'.heap.size (0 : Nat) none)
                                                                        [Value.int IntKind.u64 x.fst,
                                                                          Value.int IntKind.u64 x.snd.fst,
                                                                          Value.int IntKind.i64 x.snd.snd.fst,
                                                                          Value.int IntKind.i64 x.snd.snd.snd.fst,
                                                                          Value.int IntKind.u64 x.snd.snd.snd.snd.fst,
                                                                          Value.int IntKind.u64 x.snd.snd.snd.snd.snd.fst,
                                                                          Value.int IntKind.u64
                                                                            x.snd.snd.snd.snd.snd.snd.fst,
                                                                          Value.int IntKind.u64
                                                                            x.snd.snd.snd.snd.snd.snd.snd.fst,
                                                                          Value.int IntKind.u64
                                                                            x.snd.snd.snd.snd.snd.snd.snd.snd] ∧
                                                                      canSt w'_4 (Addr.mk w.heap.size (0 : Nat) none)
                                                                          (9 : Nat) ∧
                                                                        let w1 :=
                                                                          setCells w'_4 (Addr.mk w.heap.size (0 : Nat) none)
                                                                            (0 : Nat)
                                                                            [Value.int IntKind.u64 x.fst,
                                                                              Value.int IntKind.u64 x.snd.fst,
                                                                              Value.int IntKind.i64 x.snd.snd.fst,
                                                                              Value.int IntKind.i64 x.snd.snd.snd.fst,
                                                                              Value.int IntKind.u64 x.snd.snd.snd.snd.fst,
                                                                              Value.int IntKind.u64
                                                                                x.snd.snd.snd.snd.snd.fst,
                                                                              Value.int IntKind.u64
                                                                                x.snd.snd.snd.snd.snd.snd.fst,
                                                                              Value.int IntKind.u64
                                                                                x.snd.snd.snd.snd.snd.snd.snd.fst,
                                                                              Value.int IntKind.u64
                                                                                x.snd.snd.snd.snd.snd.snd.snd.snd];
                                                                        ∃ (x :
                                                                          Int ×
                                                                            Int × Int × Int × Int × Int × Int × Int × Int),
                                                                          cellsAt w1 (Addr.mk w.heap.size (0 : Nat) none)
                                                                              [Value.int IntKind.u64 x.fst,
                                                                                Value.int IntKind.u64 x.snd.fst,
                                                                                Value.int IntKind.i64 x.snd.snd.fst,
                                                                                Value.int IntKind.i64 x.snd.snd.snd.fst,
                                                                                Value.int IntKind.u64 x.snd.snd.snd.snd.fst,
                                                                                Value.int IntKind.u64
                                                                                  x.snd.snd.snd.snd.snd.fst,
                                                                                Value.int IntKind.u64
                                                                                  x.snd.snd.snd.snd.snd.snd.fst,
                                                                                Value.int IntKind.u64
                                                                                  x.snd.snd.snd.snd.snd.snd.snd.fst,
                                                                                Value.int IntKind.u64
                                                                                  x.snd.snd.snd.snd.snd.snd.snd.snd] ∧
                                                                            R
                                                                              ((x.fst, x.snd.fst, x.snd.snd.fst,
                                                                                  x.snd.snd.snd.fst, x.snd.snd.snd.snd.fst,
                                                                                  x.snd.snd.snd.snd.snd.fst,
                                                                                  x.snd.snd.snd.snd.snd.snd.fst,
                                                                                  x.snd.snd.snd.snd.snd.snd.snd.fst,
                                                                                  x.snd.snd.snd.snd.snd.snd.snd.snd),
                                                                                (0 : Int), (0 : Int))
                                                                              w1)
                                                                  (∃ (x :
                                                                    Int × Int × Int × Int × Int × Int × Int × Int × Int),
                                                                    cellsAt w'_4 (Addr.mk w'_1.heap.size (0 : Nat) none)
                                                                        [Value.int IntKind.u64 x.fst,
                                                                          Value.int IntKind.u64 x.snd.fst,
                                                                          Value.int IntKind.i64 x.snd.snd.fst,
                                                                          Value.int IntKind.i64 x.snd.snd.snd.fst,
                                                                          Value.int IntKind.u64 x.snd.snd.snd.snd.fst,
                                                                          Value.int IntKind.u64 x.snd.snd.snd.snd.snd.fst,
                                                                          Value.int IntKind.u64
                                                                            x.snd.snd.snd.snd.snd.snd.fst,
                                                                          Value.int IntKind.u64
                                                                            x.snd.snd.snd.snd.snd.snd.snd.fst,
                                                                          Value.int IntKind.u64
                                                                            x.snd.snd.snd.snd.snd.snd.snd.snd] ∧
                                                                      canSt w'_4 (Addr.mk w.heap.size (0 : Nat) none)
                                                                          (9 : Nat) ∧
                                                                        let w1 :=
                                                                          setCells w'_4 (Addr.mk w.heap.size (0 : Nat) none)
                                                                            (0 : Nat)
                                                                            [Value.int IntKind.u64 x.fst,
                                                                              Value.int IntKind.u64 x.snd.fst,
                                                                              Value.int IntKind.i64 x.snd.snd.fst,
                                                                              Value.int IntKind.i64 x.snd.snd.snd.fst,
                                                                              Value.int IntKind.u64 x.snd.snd.snd.snd.fst,
                                                                              Value.int IntKind.u64
                                                                                x.snd.snd.snd.snd.snd.fst,
                                                                              Value.int IntKind.u64
                                                                                x.snd.snd.snd.snd.snd.snd.fst,
                                                                              Value.int IntKind.u64
                                                                                x.snd.snd.snd.snd.snd.snd.snd.fst,
                                                                              Value.int IntKind.u64
                                                                                x.snd.snd.snd.snd.snd.snd.snd.snd];
                                                                        ∃ (x :
                                                                          Int ×
                                                                            Int × Int × Int × Int × Int × Int × Int × Int),
                                                                          cellsAt w1 (Addr.mk w.heap.size (0 : Nat) none)
                                                                              [Value.int IntKind.u64 x.fst,
                                                                                Value.int IntKind.u64 x.snd.fst,
                                                                                Value.int IntKind.i64 x.snd.snd.fst,
                                                                                Value.int IntKind.i64 x.snd.snd.snd.fst,
                                                                                Value.int IntKind.u64 x.snd.snd.snd.snd.fst,
                                                                                Value.int IntKind.u64
                                                                                  x.snd.snd.snd.snd.snd.fst,
                                                                                Value.int IntKind.u64
                                                                                  x.snd.snd.snd.snd.snd.snd.fst,
                                                                                Value.int IntKind.u64
                                                                                  x.snd.snd.snd.snd.snd.snd.snd.fst,
                                                                                Value.int IntKind.u64
                                                                                  x.snd.snd.snd.snd.snd.snd.snd.snd] ∧
                                                                            R
                                                                              ((x.fst, x.snd.fst, x.snd.snd.fst,
                                                                                  x.snd.snd.snd.fst, x.snd.snd.snd.snd.fst,
                                                                                  x.snd.snd.snd.snd.snd.fst,
                                                                                  x.snd.snd.snd.snd.snd.snd.fst,
                                                                                  x.snd.snd.snd.snd.snd.snd.snd.fst,
                                                                                  x.snd.snd.snd.snd.snd.snd.snd.snd),
                                                                                (1 : Int), (0 : Int))
                                                                              w1))))))))
  : CallT [Ty.agg
    [Sh.int IntKind.u64, Sh.int IntKind.u64, Sh.int IntKind.i64, Sh.int IntKind.i64, Sh.int IntKind.u64,
      Sh.int IntKind.u64, Sh.int IntKind.u64, Sh.int IntKind.u64, Sh.int IntKind.u64],
  Ty.one (Sh.int IntKind.i64), Ty.one (Sh.int IntKind.i64)] Try.prog 76 [Value.slice s0.a s0.len s0.cap, Value.slice s1.a s1.len s1.cap] w R :=
  fnV_sound (h := HT.z.sq
  (HT.z.sq
    (HT.z.sq
      ((HT.jn [((21 : Nat), Ty.one Sh.bool)] HT.z
              (HT.z.cd
                (HT.jn [((30 : Nat), Ty.one Sh.bool)] HT.z
                  (HT.z.cd (HT.jn [((39 : Nat), Ty.one Sh.bool)] HT.z HT.z))))).bl.sq
        HT.z)))) Try.func76 (by kernel_rfl) (by kernel_rfl) (Eq.mp (by kernel_rfl) h)

end Go.Proofs
/- The conditions of the seat's functions, written by a program (VcTool, genvc.py) off 'vc' reduced; each is tied to 'vc' by the kernel. Conditions: none. -/
set_option linter.unusedVariables false
set_option maxRecDepth 100000
namespace Go.Proofs
open Go Go.Vc
/-- dunnage/manifest.Next -/
theorem manifest_Next.vc (x0 : Int × Int × Int × Int × Int × Int × Int × Int × Int) (n1 : Int) (w : World) (R : (Int × Int × Int × Int × Int × Int × Int × Int × Int) × Int → World → Prop)
  (h : let w1 :=
      w.alloc
        (Obj.cells
          #[Value.int IntKind.u64 x0.fst, Value.int IntKind.u64 x0.snd.fst, Value.int IntKind.i64 x0.snd.snd.fst,
            Value.int IntKind.i64 x0.snd.snd.snd.fst, Value.int IntKind.u64 x0.snd.snd.snd.snd.fst,
            Value.int IntKind.u64 x0.snd.snd.snd.snd.snd.fst, Value.int IntKind.u64 x0.snd.snd.snd.snd.snd.snd.fst,
            Value.int IntKind.u64 x0.snd.snd.snd.snd.snd.snd.snd.fst,
            Value.int IntKind.u64 x0.snd.snd.snd.snd.snd.snd.snd.snd]
          (92 : Nat));
    let w1_1 :=
      w1.alloc
        (Obj.cells
          #[Value.int IntKind.u64 (0 : Int), Value.int IntKind.u64 (0 : Int), Value.int IntKind.i64 (0 : Int),
            Value.int IntKind.i64 (0 : Int), Value.int IntKind.u64 (0 : Int), Value.int IntKind.u64 (0 : Int),
            Value.int IntKind.u64 (0 : Int), Value.int IntKind.u64 (0 : Int), Value.int IntKind.u64 (0 : Int)]
          (92 : Nat));
    ∃ (x : Int × Int × Int × Int × Int × Int × Int × Int × Int),
      cellsAt w1_1 (Addr.mk w.heap.size (0 : Nat) none)
          [Value.int IntKind.u64 x.fst, Value.int IntKind.u64 x.snd.fst, Value.int IntKind.i64 x.snd.snd.fst,
            Value.int IntKind.i64 x.snd.snd.snd.fst, Value.int IntKind.u64 x.snd.snd.snd.snd.fst,
            Value.int IntKind.u64 x.snd.snd.snd.snd.snd.fst, Value.int IntKind.u64 x.snd.snd.snd.snd.snd.snd.fst,
            Value.int IntKind.u64 x.snd.snd.snd.snd.snd.snd.snd.fst,
            Value.int IntKind.u64 x.snd.snd.snd.snd.snd.snd.snd.snd] ∧
        CallT [Ty.one Sh.bool] Try.prog (70 : Nat)
          [Value.agg
              #[Value.int IntKind.u64 x.fst, Value.int IntKind.u64 x.snd.fst, Value.int IntKind.i64 x.snd.snd.fst,
                Value.int IntKind.i64 x.snd.snd.snd.fst, Value.int IntKind.u64 x.snd.snd.snd.snd.fst,
                Value.int IntKind.u64 x.snd.snd.snd.snd.snd.fst, Value.int IntKind.u64 x.snd.snd.snd.snd.snd.snd.fst,
                Value.int IntKind.u64 x.snd.snd.snd.snd.snd.snd.snd.fst,
                Value.int IntKind.u64 x.snd.snd.snd.snd.snd.snd.snd.snd]]
          w1_1 fun (x : Bool) (w' : World) =>
          cnd (!x)
            (canSt w' (Addr.mk w1.heap.size (0 : Nat) none) (9 : Nat) ∧
              let w1_2 :=
                setCells w' (Addr.mk w1.heap.size (0 : Nat) none) (0 : Nat)
                  [Value.int IntKind.u64 (0 : Int), Value.int IntKind.u64 (0 : Int), Value.int IntKind.i64 (0 : Int),
                    Value.int IntKind.i64 (0 : Int), Value.int IntKind.u64 (0 : Int), Value.int IntKind.u64 (0 : Int),
                    Value.int IntKind.u64 (0 : Int), Value.int IntKind.u64 (0 : Int), Value.int IntKind.u64 (0 : Int)];
              ∃ (x : Int × Int × Int × Int × Int × Int × Int × Int × Int),
                cellsAt w1_2 (Addr.mk w1.heap.size (0 : Nat) none)
                    [Value.int IntKind.u64 x.fst, Value.int IntKind.u64 x.snd.fst, Value.int IntKind.i64 x.snd.snd.fst,
                      Value.int IntKind.i64 x.snd.snd.snd.fst, Value.int IntKind.u64 x.snd.snd.snd.snd.fst,
                      Value.int IntKind.u64 x.snd.snd.snd.snd.snd.fst, Value.int IntKind.u64 x.snd.snd.snd.snd.snd.snd.fst,
                      Value.int IntKind.u64 x.snd.snd.snd.snd.snd.snd.snd.fst,
                      Value.int IntKind.u64 x.snd.snd.snd.snd.snd.snd.snd.snd] ∧
                  R
                    ((x.fst, x.snd.fst, x.snd.snd.fst, x.snd.snd.snd.fst, x.snd.snd.snd.snd.fst, x.snd.snd.snd.snd.snd.fst,
                        x.snd.snd.snd.snd.snd.snd.fst, x.snd.snd.snd.snd.snd.snd.snd.fst,
                        x.snd.snd.snd.snd.snd.snd.snd.snd),
                      (0 : Int))
                    w1_2)
            (∃ (x : Int),
              w'.cell? ((Addr.mk w.heap.size (0 : Nat) none).add (0 : Nat)) = some (Value.int IntKind.u64 x) ∧
                (w'.cell? ((Addr.mk w.heap.size (0 : Nat) none).add (0 : Nat))).isSome = true ∧
                  w'.frozen? ((Addr.mk w.heap.size (0 : Nat) none).add (0 : Nat)) = false ∧
                    let w1_2 :=
                      w'.setCell ((Addr.mk w.heap.size (0 : Nat) none).add (0 : Nat))
                        (Value.int IntKind.u64 (IntKind.u64.wrap (x + (1 : Int))));
                    cnd (n1 == (0 : Int))
                      (∃ (x : Int × Int × Int × Int × Int × Int × Int × Int × Int),
                        cellsAt w1_2 (Addr.mk w.heap.size (0 : Nat) none)
                            [Value.int IntKind.u64 x.fst, Value.int IntKind.u64 x.snd.fst,
                              Value.int IntKind.i64 x.snd.snd.fst, Value.int IntKind.i64 x.snd.snd.snd.fst,
                              Value.int IntKind.u64 x.snd.snd.snd.snd.fst, Value.int IntKind.u64 x.snd.snd.snd.snd.snd.fst,
                              Value.int IntKind.u64 x.snd.snd.snd.snd.snd.snd.fst,
                              Value.int IntKind.u64 x.snd.snd.snd.snd.snd.snd.snd.fst,
                              Value.int IntKind.u64 x.snd.snd.snd.snd.snd.snd.snd.snd] ∧
                          canSt w1_2 (Addr.mk w1.heap.size (0 : Nat) none) (9 : Nat) ∧
                            let w1_3 :=
                              setCells w1_2 (Addr.mk w1.heap.size (0 : Nat) none) (0 : Nat)
                                [Value.int IntKind.u64 x.fst, Value.int IntKind.u64 x.snd.fst,
                                  Value.int IntKind.i64 x.snd.snd.fst, Value.int IntKind.i64 x.snd.snd.snd.fst,
                                  Value.int IntKind.u64 x.snd.snd.snd.snd.fst,
                                  Value.int IntKind.u64 x.snd.snd.snd.snd.snd.fst,
                                  Value.int IntKind.u64 x.snd.snd.snd.snd.snd.snd.fst,
                                  Value.int IntKind.u64 x.snd.snd.snd.snd.snd.snd.snd.fst,
                                  Value.int IntKind.u64 x.snd.snd.snd.snd.snd.snd.snd.snd];
                            ∃ (x : Int × Int × Int × Int × Int × Int × Int × Int × Int),
                              cellsAt w1_3 (Addr.mk w1.heap.size (0 : Nat) none)
                                  [Value.int IntKind.u64 x.fst, Value.int IntKind.u64 x.snd.fst,
                                    Value.int IntKind.i64 x.snd.snd.fst, Value.int IntKind.i64 x.snd.snd.snd.fst,
                                    Value.int IntKind.u64 x.snd.snd.snd.snd.fst,
                                    Value.int IntKind.u64 x.snd.snd.snd.snd.snd.fst,
                                    Value.int IntKind.u64 x.snd.snd.snd.snd.snd.snd.fst,
                                    Value.int IntKind.u64 x.snd.snd.snd.snd.snd.snd.snd.fst,
                                    Value.int IntKind.u64 x.snd.snd.snd.snd.snd.snd.snd.snd] ∧
                                R
                                  ((x.fst, x.snd.fst, x.snd.snd.fst, x.snd.snd.snd.fst, x.snd.snd.snd.snd.fst,
                                      x.snd.snd.snd.snd.snd.fst, x.snd.snd.snd.snd.snd.snd.fst,
                                      x.snd.snd.snd.snd.snd.snd.snd.fst, x.snd.snd.snd.snd.snd.snd.snd.snd),
                                    (1 : Int))
                                  w1_3)
                      (∃ (x : Int × Int × Int × Int × Int × Int × Int × Int × Int),
                        cellsAt w1_2 (Addr.mk w.heap.size (0 : Nat) none)
                            [Value.int IntKind.u64 x.fst, Value.int IntKind.u64 x.snd.fst,
                              Value.int IntKind.i64 x.snd.snd.fst, Value.int IntKind.i64 x.snd.snd.snd.fst,
                              Value.int IntKind.u64 x.snd.snd.snd.snd.fst, Value.int IntKind.u64 x.snd.snd.snd.snd.snd.fst,
                              Value.int IntKind.u64 x.snd.snd.snd.snd.snd.snd.fst,
                              Value.int IntKind.u64 x.snd.snd.snd.snd.snd.snd.snd.fst,
                              Value.int IntKind.u64 x.snd.snd.snd.snd.snd.snd.snd.snd] ∧
                          canSt w1_2 (Addr.mk w1.heap.size (0 : Nat) none) (9 : Nat) ∧
                            let w1_3 :=
                              setCells w1_2 (Addr.mk w1.heap.size (0 : Nat) none) (0 : Nat)
                                [Value.int IntKind.u64 x.fst, Value.int IntKind.u64 x.snd.fst,
                                  Value.int IntKind.i64 x.snd.snd.fst, Value.int IntKind.i64 x.snd.snd.snd.fst,
                                  Value.int IntKind.u64 x.snd.snd.snd.snd.fst,
                                  Value.int IntKind.u64 x.snd.snd.snd.snd.snd.fst,
                                  Value.int IntKind.u64 x.snd.snd.snd.snd.snd.snd.fst,
                                  Value.int IntKind.u64 x.snd.snd.snd.snd.snd.snd.snd.fst,
                                  Value.int IntKind.u64 x.snd.snd.snd.snd.snd.snd.snd.snd];
                            ∃ (x : Int × Int × Int × Int × Int × Int × Int × Int × Int),
                              cellsAt w1_3 (Addr.mk w1.heap.size (0 : Nat) none)
                                  [Value.int IntKind.u64 x.fst, Value.int IntKind.u64 x.snd.fst,
                                    Value.int IntKind.i64 x.snd.snd.fst, Value.int IntKind.i64 x.snd.snd.snd.fst,
                                    Value.int IntKind.u64 x.snd.snd.snd.snd.fst,
                                    Value.int IntKind.u64 x.snd.snd.snd.snd.snd.fst,
                                    Value.int IntKind.u64 x.snd.snd.snd.snd.snd.snd.fst,
                                    Value.int IntKind.u64 x.snd.snd.snd.snd.snd.snd.snd.fst,
                                    Value.int IntKind.u64 x.snd.snd.snd.snd.snd.snd.snd.snd] ∧
                                R
                                  ((x.fst, x.snd.fst, x.snd.snd.fst, x.snd.snd.snd.fst, x.snd.snd.snd.snd.fst,
                                      x.snd.snd.snd.snd.snd.fst, x.snd.snd.snd.snd.snd.snd.fst,
                                      x.snd.snd.snd.snd.snd.snd.snd.fst, x.snd.snd.snd.snd.snd.snd.snd.snd),
                                    (0 : Int))
                                  w1_3)))
  : CallT [Ty.agg
    [Sh.int IntKind.u64, Sh.int IntKind.u64, Sh.int IntKind.i64, Sh.int IntKind.i64, Sh.int IntKind.u64,
      Sh.int IntKind.u64, Sh.int IntKind.u64, Sh.int IntKind.u64, Sh.int IntKind.u64],
  Ty.one (Sh.int IntKind.i64)] Try.prog 77 [Value.agg
    #[Value.int IntKind.u64 x0.fst, Value.int IntKind.u64 x0.snd.fst, Value.int IntKind.i64 x0.snd.snd.fst,
      Value.int IntKind.i64 x0.snd.snd.snd.fst, Value.int IntKind.u64 x0.snd.snd.snd.snd.fst,
      Value.int IntKind.u64 x0.snd.snd.snd.snd.snd.fst, Value.int IntKind.u64 x0.snd.snd.snd.snd.snd.snd.fst,
      Value.int IntKind.u64 x0.snd.snd.snd.snd.snd.snd.snd.fst,
      Value.int IntKind.u64 x0.snd.snd.snd.snd.snd.snd.snd.snd],
  Value.int IntKind.i64 n1] w R :=
  fnV_sound (h := HT.z) Try.func77 (by kernel_rfl) (by kernel_rfl) (Eq.mp (by kernel_rfl) h)

/-- dunnage/dunnageref27.Next -/
theorem dunnageref27_Next.vc (x0 : Int × Int × Int × Int × Int × Int × Int × Int × Int) (n1 : Int) (w : World) (R : (Int × Int × Int × Int × Int × Int × Int × Int × Int) × Int → World → Prop)
  (h : let w1 :=
      w.alloc
        (Obj.cells
          #[Value.int IntKind.u64 x0.fst, Value.int IntKind.u64 x0.snd.fst, Value.int IntKind.i64 x0.snd.snd.fst,
            Value.int IntKind.i64 x0.snd.snd.snd.fst, Value.int IntKind.u64 x0.snd.snd.snd.snd.fst,
            Value.int IntKind.u64 x0.snd.snd.snd.snd.snd.fst, Value.int IntKind.u64 x0.snd.snd.snd.snd.snd.snd.fst,
            Value.int IntKind.u64 x0.snd.snd.snd.snd.snd.snd.snd.fst,
            Value.int IntKind.u64 x0.snd.snd.snd.snd.snd.snd.snd.snd]
          (92 : Nat));
    let w1_1 :=
      w1.alloc
        (Obj.cells
          #[Value.int IntKind.u64 (0 : Int), Value.int IntKind.u64 (0 : Int), Value.int IntKind.i64 (0 : Int),
            Value.int IntKind.i64 (0 : Int), Value.int IntKind.u64 (0 : Int), Value.int IntKind.u64 (0 : Int),
            Value.int IntKind.u64 (0 : Int), Value.int IntKind.u64 (0 : Int), Value.int IntKind.u64 (0 : Int)]
          (92 : Nat));
    ∃ (x : Int × Int × Int × Int × Int × Int × Int × Int × Int),
      cellsAt w1_1 (Addr.mk w.heap.size (0 : Nat) none)
          [Value.int IntKind.u64 x.fst, Value.int IntKind.u64 x.snd.fst, Value.int IntKind.i64 x.snd.snd.fst,
            Value.int IntKind.i64 x.snd.snd.snd.fst, Value.int IntKind.u64 x.snd.snd.snd.snd.fst,
            Value.int IntKind.u64 x.snd.snd.snd.snd.snd.fst, Value.int IntKind.u64 x.snd.snd.snd.snd.snd.snd.fst,
            Value.int IntKind.u64 x.snd.snd.snd.snd.snd.snd.snd.fst,
            Value.int IntKind.u64 x.snd.snd.snd.snd.snd.snd.snd.snd] ∧
        CallT [Ty.one Sh.bool] Try.prog (79 : Nat)
          [Value.agg
              #[Value.int IntKind.u64 x.fst, Value.int IntKind.u64 x.snd.fst, Value.int IntKind.i64 x.snd.snd.fst,
                Value.int IntKind.i64 x.snd.snd.snd.fst, Value.int IntKind.u64 x.snd.snd.snd.snd.fst,
                Value.int IntKind.u64 x.snd.snd.snd.snd.snd.fst, Value.int IntKind.u64 x.snd.snd.snd.snd.snd.snd.fst,
                Value.int IntKind.u64 x.snd.snd.snd.snd.snd.snd.snd.fst,
                Value.int IntKind.u64 x.snd.snd.snd.snd.snd.snd.snd.snd]]
          w1_1 fun (x : Bool) (w' : World) =>
          cnd (!x)
            (canSt w' (Addr.mk w1.heap.size (0 : Nat) none) (9 : Nat) ∧
              let w1_2 :=
                setCells w' (Addr.mk w1.heap.size (0 : Nat) none) (0 : Nat)
                  [Value.int IntKind.u64 (0 : Int), Value.int IntKind.u64 (0 : Int), Value.int IntKind.i64 (0 : Int),
                    Value.int IntKind.i64 (0 : Int), Value.int IntKind.u64 (0 : Int), Value.int IntKind.u64 (0 : Int),
                    Value.int IntKind.u64 (0 : Int), Value.int IntKind.u64 (0 : Int), Value.int IntKind.u64 (0 : Int)];
              ∃ (x : Int × Int × Int × Int × Int × Int × Int × Int × Int),
                cellsAt w1_2 (Addr.mk w1.heap.size (0 : Nat) none)
                    [Value.int IntKind.u64 x.fst, Value.int IntKind.u64 x.snd.fst, Value.int IntKind.i64 x.snd.snd.fst,
                      Value.int IntKind.i64 x.snd.snd.snd.fst, Value.int IntKind.u64 x.snd.snd.snd.snd.fst,
                      Value.int IntKind.u64 x.snd.snd.snd.snd.snd.fst, Value.int IntKind.u64 x.snd.snd.snd.snd.snd.snd.fst,
                      Value.int IntKind.u64 x.snd.snd.snd.snd.snd.snd.snd.fst,
                      Value.int IntKind.u64 x.snd.snd.snd.snd.snd.snd.snd.snd] ∧
                  R
                    ((x.fst, x.snd.fst, x.snd.snd.fst, x.snd.snd.snd.fst, x.snd.snd.snd.snd.fst, x.snd.snd.snd.snd.snd.fst,
                        x.snd.snd.snd.snd.snd.snd.fst, x.snd.snd.snd.snd.snd.snd.snd.fst,
                        x.snd.snd.snd.snd.snd.snd.snd.snd),
                      (0 : Int))
                    w1_2)
            (∃ (x : Int),
              w'.cell? ((Addr.mk w.heap.size (0 : Nat) none).add (0 : Nat)) = some (Value.int IntKind.u64 x) ∧
                (w'.cell? ((Addr.mk w.heap.size (0 : Nat) none).add (0 : Nat))).isSome = true ∧
                  w'.frozen? ((Addr.mk w.heap.size (0 : Nat) none).add (0 : Nat)) = false ∧
                    let w1_2 :=
                      w'.setCell ((Addr.mk w.heap.size (0 : Nat) none).add (0 : Nat))
                        (Value.int IntKind.u64 (IntKind.u64.wrap (x + (1 : Int))));
                    cnd (n1 == (0 : Int))
                      (∃ (x : Int × Int × Int × Int × Int × Int × Int × Int × Int),
                        cellsAt w1_2 (Addr.mk w.heap.size (0 : Nat) none)
                            [Value.int IntKind.u64 x.fst, Value.int IntKind.u64 x.snd.fst,
                              Value.int IntKind.i64 x.snd.snd.fst, Value.int IntKind.i64 x.snd.snd.snd.fst,
                              Value.int IntKind.u64 x.snd.snd.snd.snd.fst, Value.int IntKind.u64 x.snd.snd.snd.snd.snd.fst,
                              Value.int IntKind.u64 x.snd.snd.snd.snd.snd.snd.fst,
                              Value.int IntKind.u64 x.snd.snd.snd.snd.snd.snd.snd.fst,
                              Value.int IntKind.u64 x.snd.snd.snd.snd.snd.snd.snd.snd] ∧
                          canSt w1_2 (Addr.mk w1.heap.size (0 : Nat) none) (9 : Nat) ∧
                            let w1_3 :=
                              setCells w1_2 (Addr.mk w1.heap.size (0 : Nat) none) (0 : Nat)
                                [Value.int IntKind.u64 x.fst, Value.int IntKind.u64 x.snd.fst,
                                  Value.int IntKind.i64 x.snd.snd.fst, Value.int IntKind.i64 x.snd.snd.snd.fst,
                                  Value.int IntKind.u64 x.snd.snd.snd.snd.fst,
                                  Value.int IntKind.u64 x.snd.snd.snd.snd.snd.fst,
                                  Value.int IntKind.u64 x.snd.snd.snd.snd.snd.snd.fst,
                                  Value.int IntKind.u64 x.snd.snd.snd.snd.snd.snd.snd.fst,
                                  Value.int IntKind.u64 x.snd.snd.snd.snd.snd.snd.snd.snd];
                            ∃ (x : Int × Int × Int × Int × Int × Int × Int × Int × Int),
                              cellsAt w1_3 (Addr.mk w1.heap.size (0 : Nat) none)
                                  [Value.int IntKind.u64 x.fst, Value.int IntKind.u64 x.snd.fst,
                                    Value.int IntKind.i64 x.snd.snd.fst, Value.int IntKind.i64 x.snd.snd.snd.fst,
                                    Value.int IntKind.u64 x.snd.snd.snd.snd.fst,
                                    Value.int IntKind.u64 x.snd.snd.snd.snd.snd.fst,
                                    Value.int IntKind.u64 x.snd.snd.snd.snd.snd.snd.fst,
                                    Value.int IntKind.u64 x.snd.snd.snd.snd.snd.snd.snd.fst,
                                    Value.int IntKind.u64 x.snd.snd.snd.snd.snd.snd.snd.snd] ∧
                                R
                                  ((x.fst, x.snd.fst, x.snd.snd.fst, x.snd.snd.snd.fst, x.snd.snd.snd.snd.fst,
                                      x.snd.snd.snd.snd.snd.fst, x.snd.snd.snd.snd.snd.snd.fst,
                                      x.snd.snd.snd.snd.snd.snd.snd.fst, x.snd.snd.snd.snd.snd.snd.snd.snd),
                                    (1 : Int))
                                  w1_3)
                      (∃ (x : Int × Int × Int × Int × Int × Int × Int × Int × Int),
                        cellsAt w1_2 (Addr.mk w.heap.size (0 : Nat) none)
                            [Value.int IntKind.u64 x.fst, Value.int IntKind.u64 x.snd.fst,
                              Value.int IntKind.i64 x.snd.snd.fst, Value.int IntKind.i64 x.snd.snd.snd.fst,
                              Value.int IntKind.u64 x.snd.snd.snd.snd.fst, Value.int IntKind.u64 x.snd.snd.snd.snd.snd.fst,
                              Value.int IntKind.u64 x.snd.snd.snd.snd.snd.snd.fst,
                              Value.int IntKind.u64 x.snd.snd.snd.snd.snd.snd.snd.fst,
                              Value.int IntKind.u64 x.snd.snd.snd.snd.snd.snd.snd.snd] ∧
                          canSt w1_2 (Addr.mk w1.heap.size (0 : Nat) none) (9 : Nat) ∧
                            let w1_3 :=
                              setCells w1_2 (Addr.mk w1.heap.size (0 : Nat) none) (0 : Nat)
                                [Value.int IntKind.u64 x.fst, Value.int IntKind.u64 x.snd.fst,
                                  Value.int IntKind.i64 x.snd.snd.fst, Value.int IntKind.i64 x.snd.snd.snd.fst,
                                  Value.int IntKind.u64 x.snd.snd.snd.snd.fst,
                                  Value.int IntKind.u64 x.snd.snd.snd.snd.snd.fst,
                                  Value.int IntKind.u64 x.snd.snd.snd.snd.snd.snd.fst,
                                  Value.int IntKind.u64 x.snd.snd.snd.snd.snd.snd.snd.fst,
                                  Value.int IntKind.u64 x.snd.snd.snd.snd.snd.snd.snd.snd];
                            ∃ (x : Int × Int × Int × Int × Int × Int × Int × Int × Int),
                              cellsAt w1_3 (Addr.mk w1.heap.size (0 : Nat) none)
                                  [Value.int IntKind.u64 x.fst, Value.int IntKind.u64 x.snd.fst,
                                    Value.int IntKind.i64 x.snd.snd.fst, Value.int IntKind.i64 x.snd.snd.snd.fst,
                                    Value.int IntKind.u64 x.snd.snd.snd.snd.fst,
                                    Value.int IntKind.u64 x.snd.snd.snd.snd.snd.fst,
                                    Value.int IntKind.u64 x.snd.snd.snd.snd.snd.snd.fst,
                                    Value.int IntKind.u64 x.snd.snd.snd.snd.snd.snd.snd.fst,
                                    Value.int IntKind.u64 x.snd.snd.snd.snd.snd.snd.snd.snd] ∧
                                R
                                  ((x.fst, x.snd.fst, x.snd.snd.fst, x.snd.snd.snd.fst, x.snd.snd.snd.snd.fst,
                                      x.snd.snd.snd.snd.snd.fst, x.snd.snd.snd.snd.snd.snd.fst,
                                      x.snd.snd.snd.snd.snd.snd.snd.fst, x.snd.snd.snd.snd.snd.snd.snd.snd),
                                    (0 : Int))
                                  w1_3)))
  : CallT [Ty.agg
    [Sh.int IntKind.u64, Sh.int IntKind.u64, Sh.int IntKind.i64, Sh.int IntKind.i64, Sh.int IntKind.u64,
      Sh.int IntKind.u64, Sh.int IntKind.u64, Sh.int IntKind.u64, Sh.int IntKind.u64],
  Ty.one (Sh.int IntKind.i64)] Try.prog 78 [Value.agg
    #[Value.int IntKind.u64 x0.fst, Value.int IntKind.u64 x0.snd.fst, Value.int IntKind.i64 x0.snd.snd.fst,
      Value.int IntKind.i64 x0.snd.snd.snd.fst, Value.int IntKind.u64 x0.snd.snd.snd.snd.fst,
      Value.int IntKind.u64 x0.snd.snd.snd.snd.snd.fst, Value.int IntKind.u64 x0.snd.snd.snd.snd.snd.snd.fst,
      Value.int IntKind.u64 x0.snd.snd.snd.snd.snd.snd.snd.fst,
      Value.int IntKind.u64 x0.snd.snd.snd.snd.snd.snd.snd.snd],
  Value.int IntKind.i64 n1] w R :=
  fnV_sound (h := HT.z) Try.func78 (by kernel_rfl) (by kernel_rfl) (Eq.mp (by kernel_rfl) h)

/-- dunnage/dunnageref27.May -/
theorem dunnageref27_May.vc (x0 : Int × Int × Int × Int × Int × Int × Int × Int × Int) (w : World) (R : Bool → World → Prop)
  (h : let w1 :=
      w.alloc
        (Obj.cells
          #[Value.int IntKind.u64 x0.fst, Value.int IntKind.u64 x0.snd.fst, Value.int IntKind.i64 x0.snd.snd.fst,
            Value.int IntKind.i64 x0.snd.snd.snd.fst, Value.int IntKind.u64 x0.snd.snd.snd.snd.fst,
            Value.int IntKind.u64 x0.snd.snd.snd.snd.snd.fst, Value.int IntKind.u64 x0.snd.snd.snd.snd.snd.snd.fst,
            Value.int IntKind.u64 x0.snd.snd.snd.snd.snd.snd.snd.fst,
            Value.int IntKind.u64 x0.snd.snd.snd.snd.snd.snd.snd.snd]
          (92 : Nat));
    ∃ (x : Int),
      w1.cell? ((Addr.mk w.heap.size (0 : Nat) none).add (0 : Nat)) = some (Value.int IntKind.u64 x) ∧
        cnd (decide (x ≥ (1 : Int)))
          (∃ (x : Int),
            w1.cell? ((Addr.mk w.heap.size (0 : Nat) none).add (0 : Nat)) = some (Value.int IntKind.u64 x) ∧
              cnd (decide (x ≤ (4611686018427387904 : Int)))
                (∃ (x : Int),
                  w1.cell? ((Addr.mk w.heap.size (0 : Nat) none).add (1 : Nat)) = some (Value.int IntKind.u64 x) ∧
                    cnd (decide (x ≤ (4611686018427387904 : Int)))
                      (∃ (x : Int),
                        w1.cell? ((Addr.mk w.heap.size (0 : Nat) none).add (4 : Nat)) = some (Value.int IntKind.u64 x) ∧
                          cnd (decide (x ≤ (4611686018427387904 : Int)))
                            (∃ (x : Int),
                              w1.cell? ((Addr.mk w.heap.size (0 : Nat) none).add (5 : Nat)) =
                                  some (Value.int IntKind.u64 x) ∧
                                cnd (decide (x ≤ (4611686018427387904 : Int)))
                                  (∃ (x : Int),
                                    w1.cell? ((Addr.mk w.heap.size (0 : Nat) none).add (6 : Nat)) =
                                        some (Value.int IntKind.u64 x) ∧
                                      cnd (decide (x ≤ (4611686018427387904 : Int)))
                                        (∃ (x : Int),
                                          w1.cell? ((Addr.mk w.heap.size (0 : Nat) none).add (7 : Nat)) =
                                              some (Value.int IntKind.u64 x) ∧
                                            cnd (decide (x ≤ (4611686018427387904 : Int)))
                                              (∃ (x : Int),
                                                w1.cell? ((Addr.mk w.heap.size (0 : Nat) none).add (8 : Nat)) =
                                                    some (Value.int IntKind.u64 x) ∧
                                                  cnd (decide (x ≤ (4611686018427387904 : Int)))
                                                    (∃ (x : Int),
                                                      w1.cell? ((Addr.mk w.heap.size (0 : Nat) none).add (2 : Nat)) =
                                                          some (Value.int IntKind.i64 x) ∧
                                                        cnd (x == (0 : Int))
                                                          (∃ (x : Int),
                                                            w1.cell? ((Addr.mk w.heap.size (0 : Nat) none).add (3 : Nat)) =
                                                                some (Value.int IntKind.i64 x) ∧
                                                              cnd (decide (x ≥ (0 : Int)))
                                                                (∃ (x : Int),
                                                                  w1.cell?
                                                                        ((Addr.mk w.heap.size (0 : Nat) none).add
                                                                          (3 : Nat)) =
                                                                      some (Value.int IntKind.i64 x) ∧
                                                                    R (decide (x ≤ (65536 : Int))) w1)
                                                                (R false w1))
                                                          (∃ (x : Int),
                                                            w1.cell? ((Addr.mk w.heap.size (0 : Nat) none).add (2 : Nat)) =
                                                                some (Value.int IntKind.i64 x) ∧
                                                              cnd (x == (1 : Int))
                                                                (∃ (x : Int),
                                                                  w1.cell?
                                                                        ((Addr.mk w.heap.size (0 : Nat) none).add
                                                                          (3 : Nat)) =
                                                                      some (Value.int IntKind.i64 x) ∧
                                                                    cnd (decide (x ≥ (0 : Int)))
                                                                      (∃ (x : Int),
                                                                        w1.cell?
                                                                              ((Addr.mk w.heap.size (0 : Nat) none).add
                                                                                (3 : Nat)) =
                                                                            some (Value.int IntKind.i64 x) ∧
                                                                          R (decide (x ≤ (65536 : Int))) w1)
                                                                      (R false w1))
                                                                (R false w1)))
                                                    (R false w1))
                                              (R false w1))
                                        (R false w1))
                                  (R false w1))
                            (R false w1))
                      (R false w1))
                (R false w1))
          (R false w1))
  : CallT [Ty.one Sh.bool] Try.prog 79 [Value.agg
    #[Value.int IntKind.u64 x0.fst, Value.int IntKind.u64 x0.snd.fst, Value.int IntKind.i64 x0.snd.snd.fst,
      Value.int IntKind.i64 x0.snd.snd.snd.fst, Value.int IntKind.u64 x0.snd.snd.snd.snd.fst,
      Value.int IntKind.u64 x0.snd.snd.snd.snd.snd.fst, Value.int IntKind.u64 x0.snd.snd.snd.snd.snd.snd.fst,
      Value.int IntKind.u64 x0.snd.snd.snd.snd.snd.snd.snd.fst,
      Value.int IntKind.u64 x0.snd.snd.snd.snd.snd.snd.snd.snd]] w R :=
  fnV_sound (h := HT.z) Try.func79 (by kernel_rfl) (by kernel_rfl) (Eq.mp (by kernel_rfl) h)

end Go.Proofs
/- The conditions of the seat's functions, written by a program (VcTool, genvc.py) off 'vc' reduced; each is tied to 'vc' by the kernel. Conditions: none. -/
set_option linter.unusedVariables false
set_option maxRecDepth 100000
namespace Go.Proofs
open Go Go.Vc
/-- dunnage/manifest.fields -/
theorem manifest_fields.vc (x0 : Int × Int × Int × Int × Int × Int × Int × Int × Int) (v1 : Value) (w : World) (R : PUnit → World → Prop)
  (h : let w1 :=
      w.alloc
        (Obj.cells
          #[Value.int IntKind.u64 x0.fst, Value.int IntKind.u64 x0.snd.fst, Value.int IntKind.i64 x0.snd.snd.fst,
            Value.int IntKind.i64 x0.snd.snd.snd.fst, Value.int IntKind.u64 x0.snd.snd.snd.snd.fst,
            Value.int IntKind.u64 x0.snd.snd.snd.snd.snd.fst, Value.int IntKind.u64 x0.snd.snd.snd.snd.snd.snd.fst,
            Value.int IntKind.u64 x0.snd.snd.snd.snd.snd.snd.snd.fst,
            Value.int IntKind.u64 x0.snd.snd.snd.snd.snd.snd.snd.snd]
          (92 : Nat));
    ∃ (x : Int),
      w1.cell? ((Addr.mk w.heap.size (0 : Nat) none).add (1 : Nat)) = some (Value.int IntKind.u64 x) ∧
        ∃ (x_1 : Int),
          w1.cell? ((Addr.mk w.heap.size (0 : Nat) none).add (2 : Nat)) = some (Value.int IntKind.i64 x_1) ∧
            ∃ (x_2 : Int),
              w1.cell? ((Addr.mk w.heap.size (0 : Nat) none).add (3 : Nat)) = some (Value.int IntKind.i64 x_2) ∧
                ∃ (x_3 : Int),
                  w1.cell? ((Addr.mk w.heap.size (0 : Nat) none).add (4 : Nat)) = some (Value.int IntKind.u64 x_3) ∧
                    ∃ (x_4 : Int),
                      w1.cell? ((Addr.mk w.heap.size (0 : Nat) none).add (5 : Nat)) = some (Value.int IntKind.u64 x_4) ∧
                        ∃ (x_5 : Int),
                          w1.cell? ((Addr.mk w.heap.size (0 : Nat) none).add (6 : Nat)) = some (Value.int IntKind.u64 x_5) ∧
                            ∃ (x_6 : Int),
                              w1.cell? ((Addr.mk w.heap.size (0 : Nat) none).add (7 : Nat)) =
                                  some (Value.int IntKind.u64 x_6) ∧
                                ∃ (x_7 : Int),
                                  w1.cell? ((Addr.mk w.heap.size (0 : Nat) none).add (8 : Nat)) =
                                      some (Value.int IntKind.u64 x_7) ∧
                                    ∃ (I : Nat → Int → World → Prop),
                                      (∃ (n : Nat),
                                          I n (0 : Int)
                                            (w1.alloc
                                              (Obj.cells
                                                #[Value.int IntKind.u64 x, Value.int IntKind.u64 (IntKind.u64.wrap x_1),
                                                  Value.int IntKind.u64 (IntKind.u64.wrap x_2), Value.int IntKind.u64 x_3,
                                                  Value.int IntKind.u64 x_4, Value.int IntKind.u64 x_5,
                                                  Value.int IntKind.u64 x_6, Value.int IntKind.u64 x_7]
                                                (22 : Nat)))) ∧
                                        ∀ (n : Nat) (x : Int) (j : Nat → Value) (w' : World),
                                          I n x w' →
                                            cnd (decide (x < (↑(8 : Nat) : Int)))
                                              ((0 : Int) ≤ x ∧
                                                x < (↑(8 : Nat) : Int) ∧
                                                  ∃ (x_8 : Int),
                                                    w'.cell?
                                                          ((Addr.mk w1.heap.size (0 : Nat) none).add
                                                            (x.toNat * (1 : Nat))) =
                                                        some (Value.int IntKind.u64 x_8) ∧
                                                      callVal [] Try.prog v1 [Value.int IntKind.u64 x_8] w'
                                                        fun (x_9 : PUnit) (w' : World) =>
                                                        ∃ (m : Nat), m < n ∧ I m (IntKind.i64.wrap (x + (1 : Int))) w')
                                              (R () w'))
  : CallT [] Try.prog 135 [Value.agg
    #[Value.int IntKind.u64 x0.fst, Value.int IntKind.u64 x0.snd.fst, Value.int IntKind.i64 x0.snd.snd.fst,
      Value.int IntKind.i64 x0.snd.snd.snd.fst, Value.int IntKind.u64 x0.snd.snd.snd.snd.fst,
      Value.int IntKind.u64 x0.snd.snd.snd.snd.snd.fst, Value.int IntKind.u64 x0.snd.snd.snd.snd.snd.snd.fst,
      Value.int IntKind.u64 x0.snd.snd.snd.snd.snd.snd.snd.fst,
      Value.int IntKind.u64 x0.snd.snd.snd.snd.snd.snd.snd.snd],
  v1] w R :=
  fnV_sound (h := HT.z.sq (HT.z.sq (HT.lp [((26 : Nat), Ty.one (Sh.int IntKind.i64))] HT.z).bl)) Try.func135 (by kernel_rfl) (by kernel_rfl) (Eq.mp (by kernel_rfl) h)

/-- (*dunnage/manifest.writer).num -/
theorem manifest_writer_num.vc (p0 : Option Addr) (n1 : Int) (w : World) (R : PUnit → World → Prop)
  (h : ∃ (S : World → Prop),
      S w.drew ∧
        onP p0 fun (a : Addr) =>
          ∃ (x : SV),
            (∀ (w : World), S w → w.cell? (a.add (0 : Nat)) = some (Value.slice x.a x.len x.cap)) ∧
              CallT [Ty.one Sh.slice] Try.prog (114 : Nat) [Value.int IntKind.u64 n1] w.drew fun (x_1 : SV) (w' : World) =>
                S w' ∧
                  appV Try.prog [(23 : Nat), (23 : Nat)] (23 : Nat)
                    [Value.slice x.a x.len x.cap, Value.slice x_1.a x_1.len x_1.cap] w' fun (s : SV) (w' : World) =>
                    onP p0 fun (a : Addr) =>
                      (w'.cell? (a.add (0 : Nat))).isSome = true ∧
                        w'.frozen? (a.add (0 : Nat)) = false ∧
                          R () (w'.setCell (a.add (0 : Nat)) (Value.slice s.a s.len s.cap)))
  : CallT [] Try.prog 136 [Value.pointer p0, Value.int IntKind.u64 n1] w R :=
  fnV_sound (h := HT.dr
  (DT.take (0 : Nat)
    (DT.take (1 : Nat)
      (DT.take (2 : Nat)
        (DT.take (3 : Nat)
          (DT.take (4 : Nat)
            (DT.take (5 : Nat)
              (DT.alt (6 : Nat)
                (DT.alt (7 : Nat) (DT.take (8 : Nat) (DT.take (9 : Nat) (DT.alt (10 : Nat) DT.fin DT.fin))) DT.fin)
                DT.fin)))))))) Try.func136 (by kernel_rfl) (by kernel_rfl) (Eq.mp (by kernel_rfl) h)

/-- dunnage/sector.Seal -/
theorem sector_Seal.vc (n0 : Int) (n1 : Int) (s2 : SV) (w : World) (R : SV × Int → World → Prop)
  (h : CallT [Ty.one Sh.bool] Try.prog (170 : Nat) [Value.int IntKind.u8 n0] w fun (x : Bool) (w' : World) =>
      cnd (!x) (R (SV.mk none (0 : Nat) (0 : Nat), (1 : Int)) w')
        (cnd (decide ((↑s2.len : Int) > (496 : Int))) (R (SV.mk none (0 : Nat) (0 : Nat), (4 : Int)) w')
          (let w1 := w'.alloc (Obj.cells (zc Try.prog (153 : Nat)).toArray (153 : Nat));
          (0 : Int) ≤ (0 : Int) ∧
            (0 : Int) < (↑(512 : Nat) : Int) ∧
              (w1.cell? ((Addr.mk w'.heap.size (0 : Nat) none).add (Int.toNat (0 : Int) * (1 : Nat)))).isSome = true ∧
                w1.frozen? ((Addr.mk w'.heap.size (0 : Nat) none).add (Int.toNat (0 : Int) * (1 : Nat))) = false ∧
                  CallT [] Try.prog (171 : Nat)
                    [Value.slice (subA (some (Addr.mk w'.heap.size (0 : Nat) none)) (0 : Nat) (1 : Nat) (512 : Nat))
                        ((512 : Nat) - (0 : Nat)) ((512 : Nat) - (0 : Nat)),
                      Value.int IntKind.i64 (2 : Int), Value.int IntKind.i64 (2 : Int),
                      Value.int IntKind.u64 (IntKind.u64.wrap (↑s2.len : Int))]
                    (w1.setCell ((Addr.mk w'.heap.size (0 : Nat) none).add (Int.toNat (0 : Int) * (1 : Nat)))
                      (Value.int IntKind.u8 n0))
                    fun (x : PUnit) (w'_1 : World) =>
                    CallT [] Try.prog (171 : Nat)
                      [Value.slice (subA (some (Addr.mk w'.heap.size (0 : Nat) none)) (0 : Nat) (1 : Nat) (512 : Nat))
                          ((512 : Nat) - (0 : Nat)) ((512 : Nat) - (0 : Nat)),
                        Value.int IntKind.i64 (4 : Int), Value.int IntKind.i64 (8 : Int), Value.int IntKind.u64 n1]
                      w'_1 fun (x : PUnit) (w'_2 : World) =>
                      (0 : Int) ≤ (508 : Int) ∧
                        (508 : Int) ≤ (↑(512 : Nat) : Int) ∧
                          (0 : Int) ≤ (508 : Int) ∧
                            (508 : Int) ≤ (↑(Int.toNat (508 : Int)) : Int) ∧
                              (0 : Int) ≤ (12 : Int) ∧
                                (12 : Int) ≤ (↑(Int.toNat (508 : Int)) : Int) ∧
                                  cpyV Try.prog [(23 : Nat), (23 : Nat)] (3 : Nat)
                                    [Value.slice
                                        (subA (some (Addr.mk w'.heap.size (0 : Nat) none)) (Int.toNat (12 : Int)) (1 : Nat)
                                          (Int.toNat (508 : Int)))
                                        (Int.toNat (508 : Int) - Int.toNat (12 : Int))
                                        (Int.toNat (508 : Int) - Int.toNat (12 : Int)),
                                      Value.slice s2.a s2.len s2.cap]
                                    w'_2 fun (n : Int) (w'_3 : World) =>
                                    ∃ (S : World → Prop),
                                      S w'_3.drew ∧
                                        (0 : Int) ≤ (508 : Int) ∧
                                          (508 : Int) ≤ (↑(512 : Nat) : Int) ∧
                                            CallT [Ty.one (Sh.int IntKind.u32)] Try.prog (172 : Nat)
                                              [Value.slice
                                                  (subA (some (Addr.mk w'.heap.size (0 : Nat) none)) (0 : Nat) (1 : Nat)
                                                    (512 : Nat))
                                                  (Int.toNat (508 : Int) - (0 : Nat)) ((512 : Nat) - (0 : Nat))]
                                              w'_3.drew fun (x : Int) (w'_4 : World) =>
                                              CallT [] Try.prog (171 : Nat)
                                                [Value.slice
                                                    (subA (some (Addr.mk w'.heap.size (0 : Nat) none)) (0 : Nat) (1 : Nat)
                                                      (512 : Nat))
                                                    ((512 : Nat) - (0 : Nat)) ((512 : Nat) - (0 : Nat)),
                                                  Value.int IntKind.i64 (508 : Int), Value.int IntKind.i64 (4 : Int),
                                                  Value.int IntKind.u64 (IntKind.u64.wrap x)]
                                                w'_4 fun (x : PUnit) (w'_5 : World) =>
                                                R
                                                  (SV.mk
                                                      (subA (some (Addr.mk w'.heap.size (0 : Nat) none)) (0 : Nat) (1 : Nat)
                                                        (512 : Nat))
                                                      ((512 : Nat) - (0 : Nat)) ((512 : Nat) - (0 : Nat)),
                                                    (0 : Int))
                                                  w'_5)))
  : CallT [Ty.one Sh.slice, Ty.one (Sh.int IntKind.i64)] Try.prog 137 [Value.int IntKind.u8 n0, Value.int IntKind.u64 n1, Value.slice s2.a s2.len s2.cap] w R :=
  fnV_sound (h := HT.z.sq
  (HT.z.sq
    (HT.z.sq
      (HT.z.sq
        (HT.z.sq
          (HT.z.sq
            (HT.z.sq
              (HT.z.sq
                ((HT.dr
                      (DT.take (0 : Nat)
                        (DT.take (1 : Nat)
                          (DT.alt (2 : Nat) (DT.take (3 : Nat) (DT.alt (4 : Nat) DT.fin DT.fin)) DT.fin)))).sq
                  HT.z))))))))) Try.func137 (by kernel_rfl) (by kernel_rfl) (Eq.mp (by kernel_rfl) h)

/-- dunnage/sector.Open -/
theorem sector_Open.vc (s0 : SV) (w : World) (R : (Int × Int × SV) × Int → World → Prop)
  (h : let w1 :=
      w.alloc
        (Obj.cells #[Value.int IntKind.u8 (0 : Int), Value.int IntKind.u64 (0 : Int), Value.slice none (0 : Nat) (0 : Nat)]
          (184 : Nat));
    cnd ((↑s0.len : Int) != (512 : Int))
      (canSt w1 (Addr.mk w.heap.size (0 : Nat) none) (3 : Nat) ∧
        let w1 :=
          setCells w1 (Addr.mk w.heap.size (0 : Nat) none) (0 : Nat)
            [Value.int IntKind.u8 (0 : Int), Value.int IntKind.u64 (0 : Int), Value.slice none (0 : Nat) (0 : Nat)];
        ∃ (x : Int × Int × SV),
          cellsAt w1 (Addr.mk w.heap.size (0 : Nat) none)
              [Value.int IntKind.u8 x.fst, Value.int IntKind.u64 x.snd.fst,
                Value.slice x.snd.snd.a x.snd.snd.len x.snd.snd.cap] ∧
            R ((x.fst, x.snd.fst, x.snd.snd), (1 : Int)) w1)
      (CallT [Ty.one Sh.bool] Try.prog (173 : Nat) [Value.slice s0.a s0.len s0.cap] w1 fun (x : Bool) (w' : World) =>
        cnd x
          (canSt w' (Addr.mk w.heap.size (0 : Nat) none) (3 : Nat) ∧
            let w1 :=
              setCells w' (Addr.mk w.heap.size (0 : Nat) none) (0 : Nat)
                [Value.int IntKind.u8 (0 : Int), Value.int IntKind.u64 (0 : Int), Value.slice none (0 : Nat) (0 : Nat)];
            ∃ (x : Int × Int × SV),
              cellsAt w1 (Addr.mk w.heap.size (0 : Nat) none)
                  [Value.int IntKind.u8 x.fst, Value.int IntKind.u64 x.snd.fst,
                    Value.slice x.snd.snd.a x.snd.snd.len x.snd.snd.cap] ∧
                R ((x.fst, x.snd.fst, x.snd.snd), (0 : Int)) w1)
          (CallT [Ty.one (Sh.int IntKind.u64), Ty.one (Sh.int IntKind.i64)] Try.prog (174 : Nat)
            [Value.slice s0.a s0.len s0.cap, Value.int IntKind.i64 (508 : Int), Value.int IntKind.i64 (4 : Int)] w'
            fun (x : Int × Int) (w' : World) =>
            (0 : Int) ≤ (508 : Int) ∧
              (508 : Int) ≤ (↑s0.cap : Int) ∧
                CallT [Ty.one (Sh.int IntKind.u32)] Try.prog (172 : Nat)
                  [Value.slice (subA s0.a (0 : Nat) (1 : Nat) s0.cap) (Int.toNat (508 : Int) - (0 : Nat))
                      (s0.cap - (0 : Nat))]
                  w' fun (x_1 : Int) (w' : World) =>
                  cnd (x.fst != IntKind.u64.wrap x_1)
                    (canSt w' (Addr.mk w.heap.size (0 : Nat) none) (3 : Nat) ∧
                      let w1 :=
                        setCells w' (Addr.mk w.heap.size (0 : Nat) none) (0 : Nat)
                          [Value.int IntKind.u8 (0 : Int), Value.int IntKind.u64 (0 : Int),
                            Value.slice none (0 : Nat) (0 : Nat)];
                      ∃ (x : Int × Int × SV),
                        cellsAt w1 (Addr.mk w.heap.size (0 : Nat) none)
                            [Value.int IntKind.u8 x.fst, Value.int IntKind.u64 x.snd.fst,
                              Value.slice x.snd.snd.a x.snd.snd.len x.snd.snd.cap] ∧
                          R ((x.fst, x.snd.fst, x.snd.snd), (30 : Int)) w1)
                    (CallT [Ty.one (Sh.int IntKind.u64), Ty.one (Sh.int IntKind.i64)] Try.prog (174 : Nat)
                      [Value.slice s0.a s0.len s0.cap, Value.int IntKind.i64 (2 : Int), Value.int IntKind.i64 (2 : Int)] w'
                      fun (x : Int × Int) (w' : World) =>
                      ∃ (R_1 : PUnit → World → Prop),
                        (∃ (R_2 : Bool → World → Prop),
                            ((0 : Int) ≤ (0 : Int) ∧
                                (0 : Int) < (↑s0.len : Int) ∧
                                  onP s0.a fun (A : Addr) =>
                                    ∃ (x_2 : Int),
                                      w'.cell? (A.add (Int.toNat (0 : Int) * (1 : Nat))) = some (Value.int IntKind.u8 x_2) ∧
                                        CallT [Ty.one Sh.bool] Try.prog (170 : Nat) [Value.int IntKind.u8 x_2] w'
                                          fun (x_3 : Bool) (w' : World) =>
                                          cnd (!x_3) (R_2 true w')
                                            ((0 : Int) ≤ (1 : Int) ∧
                                              (1 : Int) < (↑s0.len : Int) ∧
                                                onP s0.a fun (A : Addr) =>
                                                  ∃ (x_4 : Int),
                                                    w'.cell? (A.add (Int.toNat (1 : Int) * (1 : Nat))) =
                                                        some (Value.int IntKind.u8 x_4) ∧
                                                      cnd (x_4 != (0 : Int)) (R_2 true w')
                                                        (cnd (decide (x.fst > (496 : Int))) (R_2 true w')
                                                          (let e1 := IntKind.u64.wrap ((12 : Int) + x.fst);
                                                          (0 : Int) ≤ (508 : Int) ∧
                                                            (508 : Int) ≤ (↑s0.cap : Int) ∧
                                                              (0 : Int) ≤ e1 ∧
                                                                e1 ≤ (↑(Int.toNat (508 : Int)) : Int) ∧
                                                                  CallT [Ty.one Sh.bool] Try.prog (173 : Nat)
                                                                    [Value.slice (subA s0.a e1.toNat (1 : Nat) s0.cap)
                                                                        (Int.toNat (508 : Int) - e1.toNat)
                                                                        (s0.cap - e1.toNat)]
                                                                    w' fun (x : Bool) (w' : World) => R_2 (!x) w')))) ∧
                              ∀ (x : Bool) (j : Nat → Value) (w' : World),
                                R_2 x w' →
                                  cnd x
                                    (canSt w' (Addr.mk w.heap.size (0 : Nat) none) (3 : Nat) ∧
                                      let w1 :=
                                        setCells w' (Addr.mk w.heap.size (0 : Nat) none) (0 : Nat)
                                          [Value.int IntKind.u8 (0 : Int), Value.int IntKind.u64 (0 : Int),
                                            Value.slice none (0 : Nat) (0 : Nat)];
                                      ∃ (x : Int × Int × SV),
                                        cellsAt w1 (Addr.mk w.heap.size (0 : Nat) none)
                                            [Value.int IntKind.u8 x.fst, Value.int IntKind.u64 x.snd.fst,
                                              Value.slice x.snd.snd.a x.snd.snd.len x.snd.snd.cap] ∧
                                          R ((x.fst, x.snd.fst, x.snd.snd), (11 : Int)) w1)
                                    (R_1 () w')) ∧
                          ∀ (x_2 : PUnit) (j : Nat → Value) (w' : World),
                            R_1 x_2 w' →
                              CallT [Ty.one (Sh.int IntKind.u64), Ty.one (Sh.int IntKind.i64)] Try.prog (174 : Nat)
                                [Value.slice s0.a s0.len s0.cap, Value.int IntKind.i64 (4 : Int),
                                  Value.int IntKind.i64 (8 : Int)]
                                w' fun (x_3 : Int × Int) (w' : World) =>
                                ∃ (S : World → Prop),
                                  S w'.drew ∧
                                    (0 : Int) ≤ (0 : Int) ∧
                                      (0 : Int) < (↑s0.len : Int) ∧
                                        onP s0.a fun (A : Addr) =>
                                          ∃ (x_4 : Int),
                                            (∀ (w : World),
                                                S w →
                                                  w.cell? (A.add (Int.toNat (0 : Int) * (1 : Nat))) =
                                                    some (Value.int IntKind.u8 x_4)) ∧
                                              let e1 := IntKind.u64.wrap ((12 : Int) + x.fst);
                                              (0 : Int) ≤ e1 ∧
                                                e1 ≤ (↑s0.cap : Int) ∧
                                                  (0 : Int) ≤ (12 : Int) ∧
                                                    (12 : Int) ≤ (↑e1.toNat : Int) ∧
                                                      CallT [Ty.one Sh.slice] Try.prog (111 : Nat)
                                                        [Value.slice (subA s0.a (Int.toNat (12 : Int)) (1 : Nat) s0.cap)
                                                            (e1.toNat - Int.toNat (12 : Int))
                                                            (s0.cap - Int.toNat (12 : Int))]
                                                        w'.drew fun (x : SV) (w' : World) =>
                                                        S w' ∧
                                                          canSt w' (Addr.mk w.heap.size (0 : Nat) none) (3 : Nat) ∧
                                                            let w1 :=
                                                              setCells w' (Addr.mk w.heap.size (0 : Nat) none) (0 : Nat)
                                                                [Value.int IntKind.u8 x_4, Value.int IntKind.u64 x_3.fst,
                                                                  Value.slice x.a x.len x.cap];
                                                            ∃ (x : Int × Int × SV),
                                                              cellsAt w1 (Addr.mk w.heap.size (0 : Nat) none)
                                                                  [Value.int IntKind.u8 x.fst,
                                                                    Value.int IntKind.u64 x.snd.fst,
                                                                    Value.slice x.snd.snd.a x.snd.snd.len x.snd.snd.cap] ∧
                                                                R ((x.fst, x.snd.fst, x.snd.snd), (0 : Int)) w1))))
  : CallT [Ty.agg [Sh.int IntKind.u8, Sh.int IntKind.u64, Sh.slice], Ty.one (Sh.int IntKind.i64)] Try.prog 138 [Value.slice s0.a s0.len s0.cap] w R :=
  fnV_sound (h := HT.z.sq
  (HT.z.sq
    (HT.z.sq
      (HT.z.sq
        (HT.z.sq
          (HT.jn [] (HT.jn [((56 : Nat), Ty.one Sh.bool)] HT.z HT.z)
            (HT.z.sq
              ((HT.dr
                    (DT.take (0 : Nat)
                      (DT.take (1 : Nat)
                        (DT.take (2 : Nat)
                          (DT.take (3 : Nat)
                            (DT.take (4 : Nat)
                              (DT.take (5 : Nat)
                                (DT.take (6 : Nat)
                                  (DT.take (7 : Nat)
                                    (DT.alt (8 : Nat)
                                      (DT.take (9 : Nat) (DT.alt (10 : Nat) (DT.take (11 : Nat) DT.fin) DT.fin))
                                      DT.fin)))))))))).sq
                HT.z)))))))) Try.func138 (by kernel_rfl) (by kernel_rfl) (Eq.mp (by kernel_rfl) h)

/-- bytes.Equal -/
theorem bytes_Equal.vc (s0 : SV) (s1 : SV) (w : World) (R : Bool → World → Prop)
  (h : ∃ (bs : List UInt8),
      bs.length = s0.len ∧
        (∀ (A : Addr),
            s0.a = some A →
              ∀ (i : Nat),
                i < s0.len → w.cell? (A.add i) = some (Value.int IntKind.u8 (↑(bs.getD i (0 : UInt8)).toNat : Int))) ∧
          (s0.a = none → bs = []) ∧
            ∃ (bs_1 : List UInt8),
              bs_1.length = s1.len ∧
                (∀ (A : Addr),
                    s1.a = some A →
                      ∀ (i : Nat),
                        i < s1.len →
                          w.cell? (A.add i) = some (Value.int IntKind.u8 (↑(bs_1.getD i (0 : UInt8)).toNat : Int))) ∧
                  (s1.a = none → bs_1 = []) ∧ R ((ByteArray.mk bs.toArray).toList == (ByteArray.mk bs_1.toArray).toList) w)
  : CallT [Ty.one Sh.bool] Try.prog 139 [Value.slice s0.a s0.len s0.cap, Value.slice s1.a s1.len s1.cap] w R :=
  fnV_sound (h := HT.z) Try.func139 (by kernel_rfl) (by kernel_rfl) (Eq.mp (by kernel_rfl) h)

/-- dunnage/dunnageref03.Seal -/
theorem dunnageref03_Seal.vc (n0 : Int) (n1 : Int) (s2 : SV) (w : World) (R : SV × Int → World → Prop)
  (h : CallT [Ty.one Sh.bool] Try.prog (175 : Nat) [Value.int IntKind.u8 n0] w fun (x : Bool) (w' : World) =>
      cnd (!x) (R (SV.mk none (0 : Nat) (0 : Nat), (1 : Int)) w')
        (cnd (decide ((↑s2.len : Int) > (496 : Int))) (R (SV.mk none (0 : Nat) (0 : Nat), (4 : Int)) w')
          (CallT [Ty.one Sh.slice] Try.prog (176 : Nat)
            [Value.slice (some (Addr.mk w'.heap.size (0 : Nat) none)) (2 : Nat) (2 : Nat),
              Value.int IntKind.u64 (IntKind.u64.wrap (↑s2.len : Int)), Value.int IntKind.i64 (2 : Int)]
            (w'.alloc (Obj.cells #[Value.int IntKind.u8 n0, Value.int IntKind.u8 (0 : Int)] (5 : Nat)))
            fun (x : SV) (w' : World) =>
            CallT [Ty.one Sh.slice] Try.prog (176 : Nat)
              [Value.slice x.a x.len x.cap, Value.int IntKind.u64 n1, Value.int IntKind.i64 (8 : Int)] w'
              fun (x : SV) (w' : World) =>
              appV Try.prog [(23 : Nat), (23 : Nat)] (23 : Nat)
                [Value.slice x.a x.len x.cap, Value.slice s2.a s2.len s2.cap] w' fun (s : SV) (w' : World) =>
                ∃ (I : Nat → SV → World → Prop),
                  (∃ (n : Nat), I n s w') ∧
                    ∀ (n : Nat) (x : SV) (j : Nat → Value) (w' : World),
                      I n x w' →
                        cnd (decide ((↑x.len : Int) < (508 : Int)))
                          (appV Try.prog [(23 : Nat), (23 : Nat)] (23 : Nat)
                            [Value.slice x.a x.len x.cap,
                              Value.slice (some (Addr.mk w'.heap.size (0 : Nat) none)) (1 : Nat) (1 : Nat)]
                            (w'.alloc (Obj.cells #[Value.int IntKind.u8 (0 : Int)] (5 : Nat))) fun (s : SV) (w' : World) =>
                            ∃ (m : Nat), m < n ∧ I m s w')
                          (CallT [Ty.one (Sh.int IntKind.u32)] Try.prog (177 : Nat) [Value.slice x.a x.len x.cap] w'
                            fun (x_1 : Int) (w' : World) =>
                            CallT [Ty.one Sh.slice] Try.prog (176 : Nat)
                              [Value.slice x.a x.len x.cap, Value.int IntKind.u64 (IntKind.u64.wrap x_1),
                                Value.int IntKind.i64 (4 : Int)]
                              w' fun (x : SV) (w' : World) => R (x, (0 : Int)) w'))))
  : CallT [Ty.one Sh.slice, Ty.one (Sh.int IntKind.i64)] Try.prog 140 [Value.int IntKind.u8 n0, Value.int IntKind.u64 n1, Value.slice s2.a s2.len s2.cap] w R :=
  fnV_sound (h := HT.z.sq (HT.z.sq (HT.z.sq (HT.z.sq (HT.z.sq (HT.z.sq ((HT.lp [((8 : Nat), Ty.one Sh.slice)] HT.z).bl.sq HT.z))))))) Try.func140 (by kernel_rfl) (by kernel_rfl) (Eq.mp (by kernel_rfl) h)

/-- dunnage/dunnageref03.Open -/
theorem dunnageref03_Open.vc (s0 : SV) (w : World) (R : (Int × Int × SV) × Int → World → Prop)
  (h : let w1 :=
      w.alloc
        (Obj.cells #[Value.int IntKind.u8 (0 : Int), Value.int IntKind.u64 (0 : Int), Value.slice none (0 : Nat) (0 : Nat)]
          (184 : Nat));
    cnd ((↑s0.len : Int) != (512 : Int))
      (canSt w1 (Addr.mk w.heap.size (0 : Nat) none) (3 : Nat) ∧
        let w1 :=
          setCells w1 (Addr.mk w.heap.size (0 : Nat) none) (0 : Nat)
            [Value.int IntKind.u8 (0 : Int), Value.int IntKind.u64 (0 : Int), Value.slice none (0 : Nat) (0 : Nat)];
        ∃ (x : Int × Int × SV),
          cellsAt w1 (Addr.mk w.heap.size (0 : Nat) none)
              [Value.int IntKind.u8 x.fst, Value.int IntKind.u64 x.snd.fst,
                Value.slice x.snd.snd.a x.snd.snd.len x.snd.snd.cap] ∧
            R ((x.fst, x.snd.fst, x.snd.snd), (1 : Int)) w1)
      (CallT [Ty.one Sh.bool] Try.prog (178 : Nat) [Value.slice s0.a s0.len s0.cap] w1 fun (x : Bool) (w' : World) =>
        cnd x
          (canSt w' (Addr.mk w.heap.size (0 : Nat) none) (3 : Nat) ∧
            let w1 :=
              setCells w' (Addr.mk w.heap.size (0 : Nat) none) (0 : Nat)
                [Value.int IntKind.u8 (0 : Int), Value.int IntKind.u64 (0 : Int), Value.slice none (0 : Nat) (0 : Nat)];
            ∃ (x : Int × Int × SV),
              cellsAt w1 (Addr.mk w.heap.size (0 : Nat) none)
                  [Value.int IntKind.u8 x.fst, Value.int IntKind.u64 x.snd.fst,
                    Value.slice x.snd.snd.a x.snd.snd.len x.snd.snd.cap] ∧
                R ((x.fst, x.snd.fst, x.snd.snd), (0 : Int)) w1)
          (CallT [Ty.one (Sh.int IntKind.u64), Ty.one (Sh.int IntKind.i64)] Try.prog (179 : Nat)
            [Value.slice s0.a s0.len s0.cap, Value.int IntKind.i64 (508 : Int), Value.int IntKind.i64 (4 : Int)] w'
            fun (x : Int × Int) (w' : World) =>
            (0 : Int) ≤ (508 : Int) ∧
              (508 : Int) ≤ (↑s0.cap : Int) ∧
                CallT [Ty.one (Sh.int IntKind.u32)] Try.prog (177 : Nat)
                  [Value.slice (subA s0.a (0 : Nat) (1 : Nat) s0.cap) (Int.toNat (508 : Int) - (0 : Nat))
                      (s0.cap - (0 : Nat))]
                  w' fun (x_1 : Int) (w' : World) =>
                  cnd (IntKind.u32.wrap x.fst != x_1)
                    (canSt w' (Addr.mk w.heap.size (0 : Nat) none) (3 : Nat) ∧
                      let w1 :=
                        setCells w' (Addr.mk w.heap.size (0 : Nat) none) (0 : Nat)
                          [Value.int IntKind.u8 (0 : Int), Value.int IntKind.u64 (0 : Int),
                            Value.slice none (0 : Nat) (0 : Nat)];
                      ∃ (x : Int × Int × SV),
                        cellsAt w1 (Addr.mk w.heap.size (0 : Nat) none)
                            [Value.int IntKind.u8 x.fst, Value.int IntKind.u64 x.snd.fst,
                              Value.slice x.snd.snd.a x.snd.snd.len x.snd.snd.cap] ∧
                          R ((x.fst, x.snd.fst, x.snd.snd), (30 : Int)) w1)
                    (CallT [Ty.one (Sh.int IntKind.u64), Ty.one (Sh.int IntKind.i64)] Try.prog (179 : Nat)
                      [Value.slice s0.a s0.len s0.cap, Value.int IntKind.i64 (2 : Int), Value.int IntKind.i64 (2 : Int)] w'
                      fun (x : Int × Int) (w' : World) =>
                      CallT [Ty.one (Sh.int IntKind.u64), Ty.one (Sh.int IntKind.i64)] Try.prog (179 : Nat)
                        [Value.slice s0.a s0.len s0.cap, Value.int IntKind.i64 (4 : Int), Value.int IntKind.i64 (8 : Int)]
                        w' fun (x_2 : Int × Int) (w' : World) =>
                        ∃ (R_1 : PUnit → World → Prop),
                          (∃ (R_2 : Bool → World → Prop),
                              ((0 : Int) ≤ (0 : Int) ∧
                                  (0 : Int) < (↑s0.len : Int) ∧
                                    onP s0.a fun (A : Addr) =>
                                      ∃ (x_3 : Int),
                                        w'.cell? (A.add (Int.toNat (0 : Int) * (1 : Nat))) =
                                            some (Value.int IntKind.u8 x_3) ∧
                                          CallT [Ty.one Sh.bool] Try.prog (175 : Nat) [Value.int IntKind.u8 x_3] w'
                                            fun (x_4 : Bool) (w' : World) =>
                                            cnd (!x_4) (R_2 true w')
                                              ((0 : Int) ≤ (1 : Int) ∧
                                                (1 : Int) < (↑s0.len : Int) ∧
                                                  onP s0.a fun (A : Addr) =>
                                                    ∃ (x_5 : Int),
                                                      w'.cell? (A.add (Int.toNat (1 : Int) * (1 : Nat))) =
                                                          some (Value.int IntKind.u8 x_5) ∧
                                                        cnd (x_5 != (0 : Int)) (R_2 true w')
                                                          (R_2 (decide (x.fst > (496 : Int))) w'))) ∧
                                ∀ (x : Bool) (j : Nat → Value) (w' : World),
                                  R_2 x w' →
                                    cnd x
                                      (canSt w' (Addr.mk w.heap.size (0 : Nat) none) (3 : Nat) ∧
                                        let w1 :=
                                          setCells w' (Addr.mk w.heap.size (0 : Nat) none) (0 : Nat)
                                            [Value.int IntKind.u8 (0 : Int), Value.int IntKind.u64 (0 : Int),
                                              Value.slice none (0 : Nat) (0 : Nat)];
                                        ∃ (x : Int × Int × SV),
                                          cellsAt w1 (Addr.mk w.heap.size (0 : Nat) none)
                                              [Value.int IntKind.u8 x.fst, Value.int IntKind.u64 x.snd.fst,
                                                Value.slice x.snd.snd.a x.snd.snd.len x.snd.snd.cap] ∧
                                            R ((x.fst, x.snd.fst, x.snd.snd), (11 : Int)) w1)
                                      (R_1 () w')) ∧
                            ∀ (x_3 : PUnit) (j : Nat → Value) (w' : World),
                              R_1 x_3 w' →
                                let e1 := IntKind.i64.wrap ((12 : Int) + IntKind.i64.wrap x.fst);
                                (0 : Int) ≤ (508 : Int) ∧
                                  (508 : Int) ≤ (↑s0.cap : Int) ∧
                                    (0 : Int) ≤ e1 ∧
                                      e1 ≤ (↑(Int.toNat (508 : Int)) : Int) ∧
                                        CallT [Ty.one Sh.bool] Try.prog (178 : Nat)
                                          [Value.slice (subA s0.a e1.toNat (1 : Nat) s0.cap)
                                              (Int.toNat (508 : Int) - e1.toNat) (s0.cap - e1.toNat)]
                                          w' fun (x_4 : Bool) (w' : World) =>
                                          cnd (!x_4)
                                            (canSt w' (Addr.mk w.heap.size (0 : Nat) none) (3 : Nat) ∧
                                              let w1 :=
                                                setCells w' (Addr.mk w.heap.size (0 : Nat) none) (0 : Nat)
                                                  [Value.int IntKind.u8 (0 : Int), Value.int IntKind.u64 (0 : Int),
                                                    Value.slice none (0 : Nat) (0 : Nat)];
                                              ∃ (x : Int × Int × SV),
                                                cellsAt w1 (Addr.mk w.heap.size (0 : Nat) none)
                                                    [Value.int IntKind.u8 x.fst, Value.int IntKind.u64 x.snd.fst,
                                                      Value.slice x.snd.snd.a x.snd.snd.len x.snd.snd.cap] ∧
                                                  R ((x.fst, x.snd.fst, x.snd.snd), (11 : Int)) w1)
                                            (∃ (S : World → Prop),
                                              S w'.drew ∧
                                                (0 : Int) ≤ (0 : Int) ∧
                                                  (0 : Int) < (↑s0.len : Int) ∧
                                                    onP s0.a fun (A : Addr) =>
                                                      ∃ (x_5 : Int),
                                                        (∀ (w : World),
                                                            S w →
                                                              w.cell? (A.add (Int.toNat (0 : Int) * (1 : Nat))) =
                                                                some (Value.int IntKind.u8 x_5)) ∧
                                                          let e1 := IntKind.i64.wrap ((12 : Int) + IntKind.i64.wrap x.fst);
                                                          (0 : Int) ≤ e1 ∧
                                                            e1 ≤ (↑s0.cap : Int) ∧
                                                              (0 : Int) ≤ (12 : Int) ∧
                                                                (12 : Int) ≤ (↑e1.toNat : Int) ∧
                                                                  appV Try.prog [(23 : Nat), (23 : Nat)] (23 : Nat)
                                                                    [Value.slice none (0 : Nat) (0 : Nat),
                                                                      Value.slice
                                                                        (subA s0.a (Int.toNat (12 : Int)) (1 : Nat) s0.cap)
                                                                        (e1.toNat - Int.toNat (12 : Int))
                                                                        (s0.cap - Int.toNat (12 : Int))]
                                                                    w'.drew fun (s : SV) (w' : World) =>
                                                                    S w' ∧
                                                                      canSt w' (Addr.mk w.heap.size (0 : Nat) none)
                                                                          (3 : Nat) ∧
                                                                        let w1 :=
                                                                          setCells w' (Addr.mk w.heap.size (0 : Nat) none)
                                                                            (0 : Nat)
                                                                            [Value.int IntKind.u8 x_5,
                                                                              Value.int IntKind.u64 x_2.fst,
                                                                              Value.slice s.a s.len s.cap];
                                                                        ∃ (x : Int × Int × SV),
                                                                          cellsAt w1 (Addr.mk w.heap.size (0 : Nat) none)
                                                                              [Value.int IntKind.u8 x.fst,
                                                                                Value.int IntKind.u64 x.snd.fst,
                                                                                Value.slice x.snd.snd.a x.snd.snd.len
                                                                                  x.snd.snd.cap] ∧
                                                                            R ((x.fst, x.snd.fst, x.snd.snd), (0 : Int))
                                                                              w1)))))
  : CallT [Ty.agg [Sh.int IntKind.u8, Sh.int IntKind.u64, Sh.slice], Ty.one (Sh.int IntKind.i64)] Try.prog 141 [Value.slice s0.a s0.len s0.cap] w R :=
  fnV_sound (h := HT.z.sq
  (HT.z.sq
    (HT.z.sq
      (HT.z.sq
        (HT.z.sq
          (HT.z.sq
            (HT.z.sq
              (HT.jn [] (HT.jn [((53 : Nat), Ty.one Sh.bool)] HT.z HT.z)
                (HT.z.sq
                  ((HT.dr
                        (DT.take (0 : Nat)
                          (DT.take (1 : Nat)
                            (DT.take (2 : Nat)
                              (DT.take (3 : Nat)
                                (DT.take (4 : Nat)
                                  (DT.take (5 : Nat)
                                    (DT.take (6 : Nat)
                                      (DT.take (7 : Nat)
                                        (DT.take (8 : Nat)
                                          (DT.alt (9 : Nat)
                                            (DT.take (10 : Nat) (DT.alt (11 : Nat) (DT.take (12 : Nat) DT.fin) DT.fin))
                                            DT.fin))))))))))).sq
                    HT.z)))))))))) Try.func141 (by kernel_rfl) (by kernel_rfl) (Eq.mp (by kernel_rfl) h)

/-- dunnage/dunnagehelp.Same[byte] -/
theorem dunnagehelp_Same_byte.vc (s0 : SV) (s1 : SV) (v2 : Value) (w : World) (R : Bool → World → Prop)
  (h : cnd ((↑s0.len : Int) != (↑s1.len : Int)) (R false w)
      (∃ (I : Nat → Int → World → Prop),
        (∃ (n : Nat), I n (0 : Int) w) ∧
          ∀ (n : Nat) (x : Int) (j : Nat → Value) (w' : World),
            I n x w' →
              cnd (decide (x < (↑s0.len : Int)))
                ((0 : Int) ≤ x ∧
                  x < (↑s0.len : Int) ∧
                    onP s0.a fun (A : Addr) =>
                      ∃ (x_1 : Int),
                        w'.drew.cell? (A.add (x.toNat * (1 : Nat))) = some (Value.int IntKind.u8 x_1) ∧
                          (0 : Int) ≤ x ∧
                            x < (↑s1.len : Int) ∧
                              onP s1.a fun (A : Addr) =>
                                ∃ (x_2 : Int),
                                  w'.drew.cell? (A.add (x.toNat * (1 : Nat))) = some (Value.int IntKind.u8 x_2) ∧
                                    callVal [Ty.one Sh.bool] Try.prog v2
                                      [Value.int IntKind.u8 x_1, Value.int IntKind.u8 x_2] w'.drew
                                      fun (x_3 : Bool) (w' : World) =>
                                      cnd (!x_3) (R false w')
                                        (∃ (m : Nat), m < n ∧ I m (IntKind.i64.wrap (x + (1 : Int))) w'))
                (R true w')))
  : CallT [Ty.one Sh.bool] Try.prog 160 [Value.slice s0.a s0.len s0.cap, Value.slice s1.a s1.len s1.cap, v2] w R :=
  fnV_sound (h := HT.z.sq
  (HT.z.sq
    ((HT.z.sq
          (HT.lp [((7 : Nat), Ty.one (Sh.int IntKind.i64))] (HT.z.sq (((HT.rg (9 : Nat)).sq HT.z).bl.sq HT.z))).bl).sq
      HT.z))) Try.func160 (by kernel_rfl) (by kernel_rfl) (Eq.mp (by kernel_rfl) h)

/-- dunnage/dunnagehelp.Plain[byte]$1 -/
theorem dunnagehelp_Plain_byte_1.vc (n0 : Int) (n1 : Int) (w : World) (R : Bool → World → Prop)
  (h : R (n0 == n1) w)
  : CallT [Ty.one Sh.bool] Try.prog 161 [Value.int IntKind.u8 n0, Value.int IntKind.u8 n1] w R :=
  fnV_sound (h := HT.z) Try.func161 (by kernel_rfl) (by kernel_rfl) (Eq.mp (by kernel_rfl) h)

/-- dunnage/word.ReadVar$1 -/
theorem word_ReadVar_1.vc (n0 : Int) (p1 : Option Addr) (p2 : Option Addr) (p3 : Option Addr) (w : World) (R : Bool → World → Prop)
  (h : ∃ (R_1 : PUnit → World → Prop),
      (onP p1 fun (A : Addr) =>
          ∃ (x : Int),
            w.cell? A = some (Value.int IntKind.i64 x) ∧
              cnd (x == (9 : Int))
                (cnd (decide (n0 > (1 : Int)))
                  (onP p2 fun (A : Addr) =>
                    (w.cell? A).isSome = true ∧ w.frozen? A = false ∧ R false (w.setCell A (Value.bool false)))
                  (onP p1 fun (A : Addr) =>
                    ∃ (x : Int),
                      w.cell? A = some (Value.int IntKind.i64 x) ∧
                        cnd (decide (x > (0 : Int)))
                          (cnd (n0 == (0 : Int))
                            (onP p2 fun (A : Addr) =>
                              (w.cell? A).isSome = true ∧ w.frozen? A = false ∧ R false (w.setCell A (Value.bool false)))
                            (R_1 () w))
                          (R_1 () w)))
                (onP p1 fun (A : Addr) =>
                  ∃ (x : Int),
                    w.cell? A = some (Value.int IntKind.i64 x) ∧
                      cnd (decide (x > (0 : Int)))
                        (cnd (n0 == (0 : Int))
                          (onP p2 fun (A : Addr) =>
                            (w.cell? A).isSome = true ∧ w.frozen? A = false ∧ R false (w.setCell A (Value.bool false)))
                          (R_1 () w))
                        (R_1 () w))) ∧
        ∀ (x : PUnit) (j : Nat → Value) (w' : World),
          R_1 x w' →
            onP p3 fun (A : Addr) =>
              ∃ (x : Int),
                w'.drew.cell? A = some (Value.int IntKind.u64 x) ∧
                  onP p1 fun (A : Addr) =>
                    ∃ (x_1 : Int),
                      w'.drew.cell? A = some (Value.int IntKind.i64 x_1) ∧
                        (0 : Int) ≤ IntKind.i64.wrap ((7 : Int) * x_1) ∧
                          onP p3 fun (A : Addr) =>
                            (w'.drew.cell? A).isSome = true ∧
                              w'.drew.frozen? A = false ∧
                                let w1 :=
                                  w'.drew.setCell A
                                    (Value.int IntKind.u64
                                      (bor IntKind.u64 x
                                        (shl IntKind.u64 (IntKind.u64.wrap (band IntKind.u8 n0 (127 : Int)))
                                          (IntKind.i64.wrap ((7 : Int) * x_1)))));
                                onP p1 fun (A : Addr) =>
                                  ∃ (x : Int),
                                    w1.cell? A = some (Value.int IntKind.i64 x) ∧
                                      onP p1 fun (A : Addr) =>
                                        (w1.cell? A).isSome = true ∧
                                          w1.frozen? A = false ∧
                                            R (decide (n0 ≥ (128 : Int)))
                                              (w1.setCell A (Value.int IntKind.i64 (IntKind.i64.wrap (x + (1 : Int))))))
  : CallT [Ty.one Sh.bool] Try.prog 163 [Value.int IntKind.u8 n0, Value.pointer p1, Value.pointer p2, Value.pointer p3] w R :=
  fnV_sound (h := HT.z.sq (HT.jn [] HT.z ((HT.rg (8 : Nat)).sq HT.z))) Try.func163 (by kernel_rfl) (by kernel_rfl) (Eq.mp (by kernel_rfl) h)

/-- (dunnage/word.walk).over -/
theorem word_walk_over.vc (x0 : Value) (s1 : SV) (n2 : Int) (w : World) (R : Int × Bool → World → Prop)
  (h : ∃ (I : Nat → Int → World → Prop),
      (∃ (n : Nat), I n n2 (w.alloc (Obj.cells #[x0] (211 : Nat)))) ∧
        ∀ (n : Nat) (x : Int) (j : Nat → Value) (w' : World),
          I n x w' →
            cnd (decide (x < (↑s1.len : Int)))
              (∃ (x_1 : Value),
                w'.drew.cell? ((Addr.mk w.heap.size (0 : Nat) none).add (0 : Nat)) = some x_1 ∧
                  let e1 := IntKind.i64.wrap (IntKind.i64.wrap (x + (1 : Int)) - (1 : Int));
                  (0 : Int) ≤ e1 ∧
                    e1 < (↑s1.len : Int) ∧
                      onP s1.a fun (A : Addr) =>
                        ∃ (x_2 : Int),
                          w'.drew.cell? (A.add (e1.toNat * (1 : Nat))) = some (Value.int IntKind.u8 x_2) ∧
                            callVal [Ty.one Sh.bool] Try.prog x_1 [Value.int IntKind.u8 x_2] w'.drew
                              fun (x_3 : Bool) (w' : World) =>
                              cnd (!x_3) (R (IntKind.i64.wrap (x + (1 : Int)), false) w')
                                (∃ (m : Nat), m < n ∧ I m (IntKind.i64.wrap (x + (1 : Int))) w'))
              (R (x, true) w'))
  : CallT [Ty.one (Sh.int IntKind.i64), Ty.one Sh.bool] Try.prog 164 [Value.agg #[x0], Value.slice s1.a s1.len s1.cap, Value.int IntKind.i64 n2] w R :=
  fnV_sound (h := HT.z.sq
  ((HT.lp [((2 : Nat), Ty.one (Sh.int IntKind.i64))] (HT.z.sq (HT.z.sq ((HT.rg (7 : Nat)).sq HT.z)).bl)).bl.sq HT.z)) Try.func164 (by kernel_rfl) (by kernel_rfl) (Eq.mp (by kernel_rfl) h)

/-- dunnage/dunnageref01.ReadVar -/
theorem dunnageref01_ReadVar.vc (s0 : SV) (n1 : Int) (w : World) (R : Int × Int × Int → World → Prop)
  (h : cnd (decide (n1 < (0 : Int))) (R ((0 : Int), (0 : Int), (1 : Int)) w)
      (∃ (I : Nat → Int × Int → World → Prop),
        (∃ (n : Nat), I n ((0 : Int), (0 : Int)) w) ∧
          ∀ (n : Nat) (x : Int × Int) (j : Nat → Value) (w' : World),
            I n x w' →
              let e1 := x.snd;
              cnd (decide (e1 < (10 : Int)))
                (∃ (R_1 : PUnit → World → Prop),
                  cnd (decide (n1 ≥ (↑s0.len : Int))) (R ((0 : Int), (0 : Int), (10 : Int)) w')
                      (let e1 := x.snd;
                      cnd (decide (IntKind.i64.wrap (n1 + e1) ≥ (↑s0.len : Int))) (R ((0 : Int), (0 : Int), (10 : Int)) w')
                        (R_1 () w')) ∧
                    ∀ (x_1 : PUnit) (j : Nat → Value) (w' : World),
                      R_1 x_1 w' →
                        let e1 := x.snd;
                        (0 : Int) ≤ IntKind.i64.wrap (n1 + e1) ∧
                          IntKind.i64.wrap (n1 + e1) < (↑s0.len : Int) ∧
                            onP s0.a fun (A : Addr) =>
                              ∃ (x_2 : Int),
                                w'.cell? (A.add ((IntKind.i64.wrap (n1 + e1)).toNat * (1 : Nat))) =
                                    some (Value.int IntKind.u8 x_2) ∧
                                  ∃ (R_2 : PUnit → World → Prop),
                                    cnd (x.snd == (9 : Int))
                                        (cnd (decide (x_2 > (1 : Int))) (R ((0 : Int), (0 : Int), (11 : Int)) w')
                                          (let e1 := x.snd;
                                          cnd (decide (e1 > (0 : Int)))
                                            (cnd (x_2 == (0 : Int)) (R ((0 : Int), (0 : Int), (11 : Int)) w') (R_2 () w'))
                                            (R_2 () w')))
                                        (let e1 := x.snd;
                                        cnd (decide (e1 > (0 : Int)))
                                          (cnd (x_2 == (0 : Int)) (R ((0 : Int), (0 : Int), (11 : Int)) w') (R_2 () w'))
                                          (R_2 () w')) ∧
                                      ∀ (x_3 : PUnit) (j : Nat → Value) (w' : World),
                                        R_2 x_3 w' →
                                          let e1 := x.fst;
                                          let e1_1 := x.snd;
                                          (0 : Int) ≤ IntKind.u64.wrap ((7 : Int) * IntKind.u64.wrap e1_1) ∧
                                            let e1_2 :=
                                              shl IntKind.u64 (IntKind.u64.wrap (band IntKind.u8 x_2 (127 : Int)))
                                                (IntKind.u64.wrap ((7 : Int) * IntKind.u64.wrap e1_1));
                                            cnd (decide (x_2 < (128 : Int)))
                                              (R
                                                (bor IntKind.u64 e1 e1_2,
                                                  IntKind.i64.wrap (IntKind.i64.wrap (n1 + x.snd) + (1 : Int)), (0 : Int))
                                                w')
                                              (∃ (m : Nat),
                                                m < n ∧
                                                  I m (bor IntKind.u64 e1 e1_2, IntKind.i64.wrap (x.snd + (1 : Int))) w'))
                (R ((0 : Int), (0 : Int), (11 : Int)) w')))
  : CallT [Ty.one (Sh.int IntKind.u64), Ty.one (Sh.int IntKind.i64), Ty.one (Sh.int IntKind.i64)] Try.prog 165 [Value.slice s0.a s0.len s0.cap, Value.int IntKind.i64 n1] w R :=
  fnV_sound (h := HT.z.sq
  (HT.z.sq
    (HT.z.sq
      ((HT.z.sq
            (HT.lp [((7 : Nat), Ty.one (Sh.int IntKind.u64)), ((8 : Nat), Ty.one (Sh.int IntKind.i64))]
                (HT.z.sq ((HT.jn [] HT.z (HT.z.sq (HT.jn [] HT.z HT.z))).bl.sq HT.z))).bl).sq
        HT.z)))) Try.func165 (by kernel_rfl) (by kernel_rfl) (Eq.mp (by kernel_rfl) h)

/-- dunnage/sector.Known -/
theorem sector_Known.vc (n0 : Int) (w : World) (R : Bool → World → Prop)
  (h : cnd (n0 == (23 : Int)) (cnd (n0 == (23 : Int)) (R true w) (R false w))
      (cnd (n0 == (43 : Int)) (cnd (n0 == (43 : Int)) (R true w) (R false w))
        (cnd (n0 == (77 : Int)) (cnd (n0 == (77 : Int)) (R true w) (R false w))
          (cnd (n0 == (142 : Int)) (cnd (n0 == (142 : Int)) (R true w) (R false w))
            (cnd (n0 == (113 : Int)) (cnd (n0 == (113 : Int)) (R true w) (R false w))
              (cnd (n0 == (178 : Int)) (R true w) (R false w)))))))
  : CallT [Ty.one Sh.bool] Try.prog 170 [Value.int IntKind.u8 n0] w R :=
  fnV_sound (h := HT.z) Try.func170 (by kernel_rfl) (by kernel_rfl) (Eq.mp (by kernel_rfl) h)

end Go.Proofs
