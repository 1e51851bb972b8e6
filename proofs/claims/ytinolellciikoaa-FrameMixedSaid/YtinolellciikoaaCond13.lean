/- The conditions of the seat's functions, written by a program (VcTool, genvc.py) off 'vc' reduced; each is tied to 'vc' by the kernel. Conditions: none. -/
import Derived.Test.YtinolellciikoaaVcSound5
import Derived.Test.YtinolellciikoaaProg
set_option linter.unusedVariables false
set_option maxRecDepth 100000
namespace Go.Proofs
open Go Go.Vc
/-- dunnage/wal.Open -/
theorem wal_Open.vc (p0 : Option Addr) (x1 : Int × Int × Int × Int × Int × Int × Int × Int × Int) (n2 : Int) (n3 : Int) (n4 : Int) (w : World) (R : Option Addr × SV × Int → World → Prop)
  (h : let w1 :=
      w.alloc
        (Obj.cells
          #[Value.int IntKind.i64 x1.fst, Value.int IntKind.i64 x1.snd.fst, Value.int IntKind.i64 x1.snd.snd.fst,
            Value.int IntKind.i64 x1.snd.snd.snd.fst, Value.int IntKind.i64 x1.snd.snd.snd.snd.fst,
            Value.int IntKind.i64 x1.snd.snd.snd.snd.snd.fst, Value.int IntKind.i64 x1.snd.snd.snd.snd.snd.snd.fst,
            Value.int IntKind.i64 x1.snd.snd.snd.snd.snd.snd.snd.fst,
            Value.int IntKind.i64 x1.snd.snd.snd.snd.snd.snd.snd.snd]
          (83 : Nat));
    cnd p0.isNone (R (none, SV.mk none (0 : Nat) (0 : Nat), (2 : Int)) w1)
      (∃ (R_1 : PUnit → World → Prop),
        (CallT [Ty.one (Sh.int IntKind.i64)] Try.prog (61 : Nat) [Value.pointer p0] w1 fun (x : Int) (w' : World) =>
            CallT
              [Ty.agg
                  [Sh.int IntKind.i64, Sh.int IntKind.i64, Sh.int IntKind.i64, Sh.int IntKind.i64, Sh.int IntKind.i64,
                    Sh.int IntKind.i64, Sh.int IntKind.i64, Sh.int IntKind.i64, Sh.int IntKind.i64],
                Ty.one (Sh.int IntKind.i64)]
              Try.prog (132 : Nat) [Value.int IntKind.i64 x] w'
              fun (x : (Int × Int × Int × Int × Int × Int × Int × Int × Int) × Int) (w' : World) =>
              let w1 :=
                w'.alloc
                  (Obj.cells
                    #[Value.int IntKind.i64 (0 : Int), Value.int IntKind.i64 (0 : Int), Value.int IntKind.i64 (0 : Int),
                      Value.int IntKind.i64 (0 : Int), Value.int IntKind.i64 (0 : Int), Value.int IntKind.i64 (0 : Int),
                      Value.int IntKind.i64 (0 : Int), Value.int IntKind.i64 (0 : Int), Value.int IntKind.i64 (0 : Int)]
                    (83 : Nat));
              canSt w1 (Addr.mk w'.heap.size (0 : Nat) none) (9 : Nat) ∧
                let w1 :=
                  setCells w1 (Addr.mk w'.heap.size (0 : Nat) none) (0 : Nat)
                    [Value.int IntKind.i64 x.fst.fst, Value.int IntKind.i64 x.fst.snd.fst,
                      Value.int IntKind.i64 x.fst.snd.snd.fst, Value.int IntKind.i64 x.fst.snd.snd.snd.fst,
                      Value.int IntKind.i64 x.fst.snd.snd.snd.snd.fst, Value.int IntKind.i64 x.fst.snd.snd.snd.snd.snd.fst,
                      Value.int IntKind.i64 x.fst.snd.snd.snd.snd.snd.snd.fst,
                      Value.int IntKind.i64 x.fst.snd.snd.snd.snd.snd.snd.snd.fst,
                      Value.int IntKind.i64 x.fst.snd.snd.snd.snd.snd.snd.snd.snd];
                cnd (x.snd != (0 : Int)) (R (none, SV.mk none (0 : Nat) (0 : Nat), (1 : Int)) w1)
                  (∃ (x : Int × Int × Int × Int × Int × Int × Int × Int × Int),
                    cellsAt w1 (Addr.mk w'.heap.size (0 : Nat) none)
                        [Value.int IntKind.i64 x.fst, Value.int IntKind.i64 x.snd.fst, Value.int IntKind.i64 x.snd.snd.fst,
                          Value.int IntKind.i64 x.snd.snd.snd.fst, Value.int IntKind.i64 x.snd.snd.snd.snd.fst,
                          Value.int IntKind.i64 x.snd.snd.snd.snd.snd.fst,
                          Value.int IntKind.i64 x.snd.snd.snd.snd.snd.snd.fst,
                          Value.int IntKind.i64 x.snd.snd.snd.snd.snd.snd.snd.fst,
                          Value.int IntKind.i64 x.snd.snd.snd.snd.snd.snd.snd.snd] ∧
                      ∃ (x_1 : Int × Int × Int × Int × Int × Int × Int × Int × Int),
                        cellsAt w1 (Addr.mk w.heap.size (0 : Nat) none)
                            [Value.int IntKind.i64 x_1.fst, Value.int IntKind.i64 x_1.snd.fst,
                              Value.int IntKind.i64 x_1.snd.snd.fst, Value.int IntKind.i64 x_1.snd.snd.snd.fst,
                              Value.int IntKind.i64 x_1.snd.snd.snd.snd.fst,
                              Value.int IntKind.i64 x_1.snd.snd.snd.snd.snd.fst,
                              Value.int IntKind.i64 x_1.snd.snd.snd.snd.snd.snd.fst,
                              Value.int IntKind.i64 x_1.snd.snd.snd.snd.snd.snd.snd.fst,
                              Value.int IntKind.i64 x_1.snd.snd.snd.snd.snd.snd.snd.snd] ∧
                          cnd
                            (!(x.fst == x_1.fst &&
                                (x.snd.fst == x_1.snd.fst &&
                                  (x.snd.snd.fst == x_1.snd.snd.fst &&
                                    (x.snd.snd.snd.fst == x_1.snd.snd.snd.fst &&
                                      (x.snd.snd.snd.snd.fst == x_1.snd.snd.snd.snd.fst &&
                                          (x.snd.snd.snd.snd.snd.fst == x_1.snd.snd.snd.snd.snd.fst && true) &&
                                        (x.snd.snd.snd.snd.snd.snd.fst == x_1.snd.snd.snd.snd.snd.snd.fst &&
                                          (x.snd.snd.snd.snd.snd.snd.snd.fst == x_1.snd.snd.snd.snd.snd.snd.snd.fst &&
                                            (x.snd.snd.snd.snd.snd.snd.snd.snd == x_1.snd.snd.snd.snd.snd.snd.snd.snd &&
                                              true)))))))))
                            (R (none, SV.mk none (0 : Nat) (0 : Nat), (1 : Int)) w1)
                            (cnd (decide (n4 < (1 : Int))) (R (none, SV.mk none (0 : Nat) (0 : Nat), (1 : Int)) w1)
                              (cnd (decide (n3 > n4)) (R (none, SV.mk none (0 : Nat) (0 : Nat), (1 : Int)) w1)
                                (cnd (decide (n2 > (4611686018427387904 : Int)))
                                  (R (none, SV.mk none (0 : Nat) (0 : Nat), (1 : Int)) w1) (R_1 () w1)))))) ∧
          ∀ (x : PUnit) (j : Nat → Value) (w' : World),
            R_1 x w' →
              CallT [Ty.one Sh.bool] Try.prog (43 : Nat) [Value.pointer p0] w' fun (x : Bool) (w' : World) =>
                cnd x (R (none, SV.mk none (0 : Nat) (0 : Nat), (40 : Int)) w')
                  (∃ (x : Int × Int × Int × Int × Int × Int × Int × Int × Int),
                    cellsAt w' (Addr.mk w.heap.size (0 : Nat) none)
                        [Value.int IntKind.i64 x.fst, Value.int IntKind.i64 x.snd.fst, Value.int IntKind.i64 x.snd.snd.fst,
                          Value.int IntKind.i64 x.snd.snd.snd.fst, Value.int IntKind.i64 x.snd.snd.snd.snd.fst,
                          Value.int IntKind.i64 x.snd.snd.snd.snd.snd.fst,
                          Value.int IntKind.i64 x.snd.snd.snd.snd.snd.snd.fst,
                          Value.int IntKind.i64 x.snd.snd.snd.snd.snd.snd.snd.fst,
                          Value.int IntKind.i64 x.snd.snd.snd.snd.snd.snd.snd.snd] ∧
                      ∃ (I : Nat → SV × Int → World → Prop),
                        (∃ (n : Nat),
                            I n (SV.mk none (0 : Nat) (0 : Nat), n3)
                              (w'.alloc
                                (Obj.cells
                                  #[Value.pointer p0, Value.int IntKind.i64 x.fst, Value.int IntKind.i64 x.snd.fst,
                                    Value.int IntKind.i64 x.snd.snd.fst, Value.int IntKind.i64 x.snd.snd.snd.fst,
                                    Value.int IntKind.i64 x.snd.snd.snd.snd.fst,
                                    Value.int IntKind.i64 x.snd.snd.snd.snd.snd.fst,
                                    Value.int IntKind.i64 x.snd.snd.snd.snd.snd.snd.fst,
                                    Value.int IntKind.i64 x.snd.snd.snd.snd.snd.snd.snd.fst,
                                    Value.int IntKind.i64 x.snd.snd.snd.snd.snd.snd.snd.snd, Value.int IntKind.u64 n2,
                                    Value.int IntKind.u64 n2, Value.int IntKind.u64 n4,
                                    Value.slice none (0 : Nat) (0 : Nat), Value.bool false]
                                  (197 : Nat)))) ∧
                          ∀ (n : Nat) (x : SV × Int) (j : Nat → Value) (w'_1 : World),
                            I n x w'_1 →
                              ∃ (R_2 : SV × Option Addr × Bool × Int → World → Prop),
                                (∃ (S : World → Prop),
                                    S w'_1.drew ∧
                                      ∃ (x_1 : Int),
                                        (∀ (w : World),
                                            S w →
                                              w.cell? ((Addr.mk w'.heap.size (0 : Nat) none).add (11 : Nat)) =
                                                some (Value.int IntKind.u64 x_1)) ∧
                                          let e1 := x.snd;
                                          (CallT [Ty.one (Sh.int IntKind.i64)] Try.prog (93 : Nat)
                                              [Value.pointer (some (Addr.mk w'.heap.size (0 : Nat) none))] w'_1.drew
                                              fun (x : Int) (w'_2 : World) =>
                                              S w'_2 ∧
                                                (CallT
                                                    [Ty.one Sh.slice,
                                                      Ty.agg
                                                        [Sh.int IntKind.u64, Sh.int IntKind.u64, Sh.int IntKind.i64,
                                                          Sh.slice],
                                                      Ty.one Sh.bool, Ty.one (Sh.int IntKind.i64)]
                                                    Try.prog (155 : Nat)
                                                    [Value.pointer (some (Addr.mk w'.heap.size (0 : Nat) none)),
                                                      Value.int IntKind.u64 x_1, Value.int IntKind.u64 e1,
                                                      Value.int IntKind.i64 x]
                                                    w'_2 fun (x : SV × (Int × Int × Int × SV) × Bool × Int) (w' : World) =>
                                                    let w1 :=
                                                      w'.alloc
                                                        (Obj.cells
                                                          #[Value.int IntKind.u64 (0 : Int),
                                                            Value.int IntKind.u64 (0 : Int),
                                                            Value.int IntKind.i64 (0 : Int),
                                                            Value.slice none (0 : Nat) (0 : Nat)]
                                                          (51 : Nat));
                                                    S w1 ∧
                                                      canSt w1 (Addr.mk w'.heap.size (0 : Nat) none) (4 : Nat) ∧
                                                        R_2
                                                          (x.fst, some (Addr.mk w'.heap.size (0 : Nat) none), x.snd.snd.fst,
                                                            x.snd.snd.snd)
                                                          (setCells w1 (Addr.mk w'.heap.size (0 : Nat) none) (0 : Nat)
                                                            [Value.int IntKind.u64 x.snd.fst.fst,
                                                              Value.int IntKind.u64 x.snd.fst.snd.fst,
                                                              Value.int IntKind.i64 x.snd.fst.snd.snd.fst,
                                                              Value.slice x.snd.fst.snd.snd.snd.a x.snd.fst.snd.snd.snd.len
                                                                x.snd.fst.snd.snd.snd.cap])) ∧
                                                  let w1 :=
                                                    w'_2.alloc
                                                      (Obj.cells
                                                        #[Value.int IntKind.u64 (0 : Int), Value.int IntKind.u64 (0 : Int),
                                                          Value.int IntKind.i64 (0 : Int),
                                                          Value.slice none (0 : Nat) (0 : Nat)]
                                                        (51 : Nat));
                                                  S w1 ∧
                                                    CallT
                                                      [Ty.one Sh.slice,
                                                        Ty.agg
                                                          [Sh.int IntKind.u64, Sh.int IntKind.u64, Sh.int IntKind.i64,
                                                            Sh.slice],
                                                        Ty.one Sh.bool, Ty.one (Sh.int IntKind.i64)]
                                                      Try.prog (155 : Nat)
                                                      [Value.pointer (some (Addr.mk w'.heap.size (0 : Nat) none)),
                                                        Value.int IntKind.u64 x_1, Value.int IntKind.u64 e1,
                                                        Value.int IntKind.i64 x]
                                                      w1 fun (x : SV × (Int × Int × Int × SV) × Bool × Int) (w' : World) =>
                                                      canSt w' (Addr.mk w'_2.heap.size (0 : Nat) none) (4 : Nat) ∧
                                                        R_2
                                                          (x.fst, some (Addr.mk w'_2.heap.size (0 : Nat) none),
                                                            x.snd.snd.fst, x.snd.snd.snd)
                                                          (setCells w' (Addr.mk w'_2.heap.size (0 : Nat) none) (0 : Nat)
                                                            [Value.int IntKind.u64 x.snd.fst.fst,
                                                              Value.int IntKind.u64 x.snd.fst.snd.fst,
                                                              Value.int IntKind.i64 x.snd.fst.snd.snd.fst,
                                                              Value.slice x.snd.fst.snd.snd.snd.a x.snd.fst.snd.snd.snd.len
                                                                x.snd.fst.snd.snd.snd.cap])) ∧
                                            let w1 :=
                                              w'_1.drew.alloc
                                                (Obj.cells
                                                  #[Value.int IntKind.u64 (0 : Int), Value.int IntKind.u64 (0 : Int),
                                                    Value.int IntKind.i64 (0 : Int), Value.slice none (0 : Nat) (0 : Nat)]
                                                  (51 : Nat));
                                            S w1 ∧
                                              CallT [Ty.one (Sh.int IntKind.i64)] Try.prog (93 : Nat)
                                                [Value.pointer (some (Addr.mk w'.heap.size (0 : Nat) none))] w1
                                                fun (x : Int) (w'_2 : World) =>
                                                S w'_2 ∧
                                                  CallT
                                                    [Ty.one Sh.slice,
                                                      Ty.agg
                                                        [Sh.int IntKind.u64, Sh.int IntKind.u64, Sh.int IntKind.i64,
                                                          Sh.slice],
                                                      Ty.one Sh.bool, Ty.one (Sh.int IntKind.i64)]
                                                    Try.prog (155 : Nat)
                                                    [Value.pointer (some (Addr.mk w'.heap.size (0 : Nat) none)),
                                                      Value.int IntKind.u64 x_1, Value.int IntKind.u64 e1,
                                                      Value.int IntKind.i64 x]
                                                    w'_2 fun (x : SV × (Int × Int × Int × SV) × Bool × Int) (w' : World) =>
                                                    canSt w' (Addr.mk w'_1.drew.heap.size (0 : Nat) none) (4 : Nat) ∧
                                                      R_2
                                                        (x.fst, some (Addr.mk w'_1.drew.heap.size (0 : Nat) none),
                                                          x.snd.snd.fst, x.snd.snd.snd)
                                                        (setCells w' (Addr.mk w'_1.drew.heap.size (0 : Nat) none) (0 : Nat)
                                                          [Value.int IntKind.u64 x.snd.fst.fst,
                                                            Value.int IntKind.u64 x.snd.fst.snd.fst,
                                                            Value.int IntKind.i64 x.snd.fst.snd.snd.fst,
                                                            Value.slice x.snd.fst.snd.snd.snd.a x.snd.fst.snd.snd.snd.len
                                                              x.snd.fst.snd.snd.snd.cap])) ∧
                                  ∀ (x_1 : SV × Option Addr × Bool × Int) (j : Nat → Value) (w'_2 : World),
                                    R_2 x_1 w'_2 →
                                      cnd (x_1.snd.snd.snd != (0 : Int))
                                        (R (none, SV.mk none (0 : Nat) (0 : Nat), x_1.snd.snd.snd) w'_2)
                                        (cnd (!x_1.snd.snd.fst)
                                          (R (some (Addr.mk w'.heap.size (0 : Nat) none), x.fst, (0 : Int)) w'_2)
                                          (appV Try.prog [(25 : Nat), (25 : Nat)] (25 : Nat)
                                            [Value.slice x.fst.a x.fst.len x.fst.cap,
                                              Value.slice (some (Addr.mk w'_2.heap.size (0 : Nat) none)) (1 : Nat)
                                                (1 : Nat)]
                                            (w'_2.alloc
                                              (Obj.cells #[Value.slice x_1.fst.a x_1.fst.len x_1.fst.cap] (23 : Nat)))
                                            fun (s : SV) (w'_3 : World) =>
                                            onP x_1.snd.fst fun (A : Addr) =>
                                              ∃ (x : Int),
                                                w'_3.cell? (A.add (0 : Nat)) = some (Value.int IntKind.u64 x) ∧
                                                  ∃ (S : World → Prop),
                                                    S w'_3.drew ∧
                                                      ∃ (x_2 : SV),
                                                        (∀ (w : World),
                                                            S w →
                                                              w.cell?
                                                                  ((Addr.mk w'.heap.size (0 : Nat) none).add (13 : Nat)) =
                                                                some (Value.slice x_2.a x_2.len x_2.cap)) ∧
                                                          ∃ (x_3 : Int),
                                                            (∀ (w : World),
                                                                S w →
                                                                  w.cell?
                                                                      ((Addr.mk w'.heap.size (0 : Nat) none).add
                                                                        (11 : Nat)) =
                                                                    some (Value.int IntKind.u64 x_3)) ∧
                                                              onP x_1.snd.fst fun (A : Addr) =>
                                                                ∃ (x_4 : Int),
                                                                  (∀ (w : World),
                                                                      S w →
                                                                        w.cell? (A.add (0 : Nat)) =
                                                                          some (Value.int IntKind.u64 x_4)) ∧
                                                                    let w1 :=
                                                                      w'_3.drew.alloc
                                                                        (Obj.cells
                                                                          #[Value.int IntKind.u64 x_3,
                                                                            Value.int IntKind.u64 x_4]
                                                                          (201 : Nat));
                                                                    S w1 ∧
                                                                      appV Try.prog [(195 : Nat), (195 : Nat)] (195 : Nat)
                                                                        [Value.slice x_2.a x_2.len x_2.cap,
                                                                          Value.slice
                                                                            (some
                                                                              (Addr.mk w'_3.drew.heap.size (0 : Nat) none))
                                                                            (1 : Nat) (1 : Nat)]
                                                                        w1 fun (s_1 : SV) (w'_4 : World) =>
                                                                        S w'_4 ∧
                                                                          (w'_4.cell?
                                                                                  ((Addr.mk w'.heap.size (0 : Nat) none).add
                                                                                    (13 : Nat))).isSome =
                                                                              true ∧
                                                                            w'_4.frozen?
                                                                                  ((Addr.mk w'.heap.size (0 : Nat) none).add
                                                                                    (13 : Nat)) =
                                                                                false ∧
                                                                              let w1 :=
                                                                                w'_4.setCell
                                                                                  ((Addr.mk w'.heap.size (0 : Nat) none).add
                                                                                    (13 : Nat))
                                                                                  (Value.slice s_1.a s_1.len s_1.cap);
                                                                              ∃ (x_5 : Int),
                                                                                w1.drew.cell?
                                                                                      ((Addr.mk w'.heap.size (0 : Nat)
                                                                                            none).add
                                                                                        (11 : Nat)) =
                                                                                    some (Value.int IntKind.u64 x_5) ∧
                                                                                  onP x_1.snd.fst fun (A : Addr) =>
                                                                                    ∃ (x_6 : Int),
                                                                                      w1.drew.cell? (A.add (2 : Nat)) =
                                                                                          some (Value.int IntKind.i64 x_6) ∧
                                                                                        (w1.drew.cell?
                                                                                                ((Addr.mk w'.heap.size
                                                                                                      (0 : Nat) none).add
                                                                                                  (11 : Nat))).isSome =
                                                                                            true ∧
                                                                                          w1.drew.frozen?
                                                                                                ((Addr.mk w'.heap.size
                                                                                                      (0 : Nat) none).add
                                                                                                  (11 : Nat)) =
                                                                                              false ∧
                                                                                            ∃ (m : Nat),
                                                                                              m < n ∧
                                                                                                I m (s, x)
                                                                                                  (w1.drew.setCell
                                                                                                    ((Addr.mk w'.heap.size
                                                                                                          (0 : Nat)
                                                                                                          none).add
                                                                                                      (11 : Nat))
                                                                                                    (Value.int IntKind.u64
                                                                                                      (IntKind.u64.wrap
                                                                                                        (x_5 +
                                                                                                          IntKind.u64.wrap
                                                                                                            x_6)))))))))
  : CallT [Ty.one Sh.ptr, Ty.one Sh.slice, Ty.one (Sh.int IntKind.i64)] Try.prog 97 [Value.pointer p0,
  Value.agg
    #[Value.int IntKind.i64 x1.fst, Value.int IntKind.i64 x1.snd.fst, Value.int IntKind.i64 x1.snd.snd.fst,
      Value.int IntKind.i64 x1.snd.snd.snd.fst, Value.int IntKind.i64 x1.snd.snd.snd.snd.fst,
      Value.int IntKind.i64 x1.snd.snd.snd.snd.snd.fst, Value.int IntKind.i64 x1.snd.snd.snd.snd.snd.snd.fst,
      Value.int IntKind.i64 x1.snd.snd.snd.snd.snd.snd.snd.fst,
      Value.int IntKind.i64 x1.snd.snd.snd.snd.snd.snd.snd.snd],
  Value.int IntKind.u64 n2, Value.int IntKind.u64 n3, Value.int IntKind.u64 n4] w R :=
  fnV_sound (h := HT.z.sq
  (HT.z.sq
    (HT.jn [] HT.z
      (HT.z.sq
        (HT.z.sq
          (HT.z.sq
            (HT.z.sq
              (HT.lp [((16 : Nat), Ty.one Sh.slice), ((17 : Nat), Ty.one (Sh.int IntKind.u64))]
                  (HT.jn
                      [((18 : Nat), Ty.one Sh.slice), ((19 : Nat), Ty.one Sh.ptr), ((20 : Nat), Ty.one Sh.bool),
                        ((21 : Nat), Ty.one (Sh.int IntKind.i64))]
                      (HT.dr
                        (DT.take (0 : Nat)
                          (DT.take (1 : Nat)
                            (DT.take (2 : Nat)
                              (DT.take (3 : Nat)
                                (DT.take (4 : Nat)
                                  (DT.take (5 : Nat)
                                    (DT.take (6 : Nat)
                                      (DT.alt (7 : Nat)
                                        (DT.alt (8 : Nat)
                                          (DT.take (9 : Nat)
                                            (DT.take (10 : Nat)
                                              (DT.take (11 : Nat)
                                                (DT.take (12 : Nat)
                                                  (DT.take (13 : Nat)
                                                    (DT.alt (14 : Nat)
                                                      (DT.take (15 : Nat)
                                                        (DT.alt (16 : Nat)
                                                          (DT.take (17 : Nat) (DT.take (18 : Nat) DT.fin)) DT.fin))
                                                      DT.fin))))))
                                          (DT.alt (14 : Nat)
                                            (DT.alt (8 : Nat)
                                              (DT.take (9 : Nat)
                                                (DT.take (10 : Nat)
                                                  (DT.take (11 : Nat)
                                                    (DT.take (12 : Nat)
                                                      (DT.take (13 : Nat)
                                                        (DT.take (15 : Nat)
                                                          (DT.alt (16 : Nat)
                                                            (DT.take (17 : Nat) (DT.take (18 : Nat) DT.fin))
                                                            DT.fin)))))))
                                              DT.fin)
                                            DT.fin))
                                        (DT.alt (14 : Nat)
                                          (DT.alt (7 : Nat)
                                            (DT.alt (8 : Nat)
                                              (DT.take (9 : Nat)
                                                (DT.take (10 : Nat)
                                                  (DT.take (11 : Nat)
                                                    (DT.take (12 : Nat)
                                                      (DT.take (13 : Nat)
                                                        (DT.take (15 : Nat)
                                                          (DT.alt (16 : Nat)
                                                            (DT.take (17 : Nat) (DT.take (18 : Nat) DT.fin))
                                                            DT.fin)))))))
                                              DT.fin)
                                            DT.fin)
                                          DT.fin))))))))))
                      (HT.z.sq
                        (HT.z.sq
                          (HT.z.sq
                            (HT.z.sq
                              ((HT.dr
                                    (DT.take (0 : Nat)
                                      (DT.take (1 : Nat)
                                        (DT.take (2 : Nat)
                                          (DT.take (3 : Nat)
                                            (DT.take (4 : Nat)
                                              (DT.take (5 : Nat)
                                                (DT.take (6 : Nat)
                                                  (DT.take (7 : Nat)
                                                    (DT.take (8 : Nat)
                                                      (DT.take (9 : Nat)
                                                        (DT.take (10 : Nat)
                                                          (DT.take (11 : Nat)
                                                            (DT.alt (12 : Nat)
                                                              (DT.alt (13 : Nat)
                                                                (DT.take (14 : Nat)
                                                                  (DT.take (15 : Nat)
                                                                    (DT.alt (16 : Nat) DT.fin DT.fin)))
                                                                DT.fin)
                                                              DT.fin)))))))))))))).sq
                                (HT.rg (10 : Nat)))))))).bl).bl))))))) Try.func97 (by kernel_rfl) (by kernel_rfl) (Eq.mp (by kernel_rfl) h)

/-- (*dunnage/wal.Log).Free -/
theorem wal_Log_Free.vc (p0 : Option Addr) (n1 : Int) (w : World) (R : Int → World → Prop)
  (h : let w1 := w.alloc (Obj.cells #[Value.int IntKind.u64 n1] (22 : Nat));
    cnd p0.isNone (R (2 : Int) w1)
      (onP p0 fun (a : Addr) =>
        ∃ (x : SV),
          w1.cell? (a.add (13 : Nat)) = some (Value.slice x.a x.len x.cap) ∧
            CallT [Ty.one (Sh.int IntKind.i64)] Try.prog (156 : Nat)
              [Value.slice x.a x.len x.cap,
                Value.func (Fn.func (157 : Nat)) #[] #[Value.pointer (some (Addr.mk w.heap.size (0 : Nat) none))]]
              w1 fun (x : Int) (w' : World) =>
              ∃ (R_1 : PUnit → World → Prop),
                cnd (decide (x ≥ (0 : Int)))
                    (onP p0 fun (a : Addr) =>
                      ∃ (x_1 : SV),
                        w'.cell? (a.add (13 : Nat)) = some (Value.slice x_1.a x_1.len x_1.cap) ∧
                          (0 : Int) ≤ x ∧
                            x ≤ (↑x_1.len : Int) ∧
                              CallT [Ty.one Sh.slice] Try.prog (158 : Nat)
                                [Value.slice (subA x_1.a x.toNat (2 : Nat) x_1.cap) (x_1.len - x.toNat) (x_1.cap - x.toNat)]
                                w' fun (x : SV) (w' : World) =>
                                onP p0 fun (a : Addr) =>
                                  (w'.cell? (a.add (13 : Nat))).isSome = true ∧
                                    w'.frozen? (a.add (13 : Nat)) = false ∧
                                      R_1 () (w'.setCell (a.add (13 : Nat)) (Value.slice x.a x.len x.cap)))
                    (∃ (x : Int),
                      w'.drew.cell? (Addr.mk w.heap.size (0 : Nat) none) = some (Value.int IntKind.u64 x) ∧
                        onP p0 fun (a : Addr) =>
                          ∃ (x_1 : Int),
                            w'.drew.cell? (a.add (11 : Nat)) = some (Value.int IntKind.u64 x_1) ∧
                              cnd (x == x_1)
                                (let w1 := w'.drew;
                                onP p0 fun (a : Addr) =>
                                  (w1.cell? (a.add (13 : Nat))).isSome = true ∧
                                    w1.frozen? (a.add (13 : Nat)) = false ∧
                                      R_1 () (w1.setCell (a.add (13 : Nat)) (Value.slice none (0 : Nat) (0 : Nat))))
                                (R (1 : Int) w'.drew)) ∧
                  ∀ (x : PUnit) (j : Nat → Value) (w' : World),
                    R_1 x w' →
                      ∃ (x : Int),
                        w'.cell? (Addr.mk w.heap.size (0 : Nat) none) = some (Value.int IntKind.u64 x) ∧
                          onP p0 fun (a : Addr) =>
                            (w'.cell? (a.add (10 : Nat))).isSome = true ∧
                              w'.frozen? (a.add (10 : Nat)) = false ∧
                                R (0 : Int) (w'.setCell (a.add (10 : Nat)) (Value.int IntKind.u64 x))))
  : CallT [Ty.one (Sh.int IntKind.i64)] Try.prog 98 [Value.pointer p0, Value.int IntKind.u64 n1] w R :=
  fnV_sound (h := HT.z.sq (HT.z.sq (HT.z.sq (HT.jn [] (HT.z.sq (HT.z.cd ((HT.rg (7 : Nat)).sq HT.z))).bl HT.z)))) Try.func98 (by kernel_rfl) (by kernel_rfl) (Eq.mp (by kernel_rfl) h)

/-- (*dunnage/wal.Log).Append -/
theorem wal_Log_Append.vc (p0 : Option Addr) (s1 : SV) (w : World) (R : Int → World → Prop)
  (h : cnd p0.isNone (R (2 : Int) w)
      (cnd (decide ((↑s1.len : Int) > (8192 : Int))) (R (4 : Int) w)
        (CallT [Ty.one (Sh.int IntKind.i64)] Try.prog (153 : Nat) [Value.pointer p0] w fun (x : Int) (w' : World) =>
          cnd (x != (0 : Int)) (R x w')
            (CallT [Ty.one (Sh.int IntKind.i64)] Try.prog (51 : Nat) [Value.int IntKind.i64 (↑s1.len : Int)] w'
              fun (x : Int) (w' : World) =>
              CallT [Ty.one (Sh.int IntKind.i64)] Try.prog (93 : Nat) [Value.pointer p0] w' fun (x_1 : Int) (w' : World) =>
                cnd (decide (x > x_1)) (R (3 : Int) w')
                  (∃ (S : World → Prop),
                    S w'.drew ∧
                      onP p0 fun (a : Addr) =>
                        ∃ (x : Int),
                          (∀ (w : World), S w → w.cell? (a.add (12 : Nat)) = some (Value.int IntKind.u64 x)) ∧
                            onP p0 fun (a : Addr) =>
                              ∃ (x_2 : Int),
                                (∀ (w : World), S w → w.cell? (a.add (11 : Nat)) = some (Value.int IntKind.u64 x_2)) ∧
                                  CallT [Ty.one Sh.slice, Ty.one (Sh.int IntKind.i64)] Try.prog (28 : Nat)
                                    [Value.int IntKind.u64 x, Value.int IntKind.u64 x_2, Value.slice s1.a s1.len s1.cap]
                                    w'.drew fun (x : SV × Int) (w' : World) =>
                                    cnd (x.snd != (0 : Int)) (R x.snd w')
                                      (onP p0 fun (a : Addr) =>
                                        ∃ (x_3 : Option Addr),
                                          w'.cell? (a.add (0 : Nat)) = some (Value.pointer x_3) ∧
                                            CallT [Ty.one (Sh.int IntKind.i64)] Try.prog (159 : Nat)
                                              [Value.pointer p0, Value.slice x.fst.a x.fst.len x.fst.cap,
                                                Value.func (Fn.func (41 : Nat)) #[Value.pointer x_3] #[]]
                                              w' fun (x_4 : Int) (w' : World) =>
                                              cnd (x_4 != (0 : Int)) (R x_4 w')
                                                (∃ (S : World → Prop),
                                                  S w'.drew ∧
                                                    onP p0 fun (a : Addr) =>
                                                      ∃ (x_5 : SV),
                                                        (∀ (w : World),
                                                            S w →
                                                              w.cell? (a.add (13 : Nat)) =
                                                                some (Value.slice x_5.a x_5.len x_5.cap)) ∧
                                                          onP p0 fun (a : Addr) =>
                                                            ∃ (x_6 : Int),
                                                              (∀ (w : World),
                                                                  S w →
                                                                    w.cell? (a.add (11 : Nat)) =
                                                                      some (Value.int IntKind.u64 x_6)) ∧
                                                                onP p0 fun (a : Addr) =>
                                                                  ∃ (x_7 : Int),
                                                                    (∀ (w : World),
                                                                        S w →
                                                                          w.cell? (a.add (12 : Nat)) =
                                                                            some (Value.int IntKind.u64 x_7)) ∧
                                                                      let w1 :=
                                                                        w'.drew.alloc
                                                                          (Obj.cells
                                                                            #[Value.int IntKind.u64 x_6,
                                                                              Value.int IntKind.u64 x_7]
                                                                            (201 : Nat));
                                                                      S w1 ∧
                                                                        appV Try.prog [(195 : Nat), (195 : Nat)] (195 : Nat)
                                                                          [Value.slice x_5.a x_5.len x_5.cap,
                                                                            Value.slice
                                                                              (some
                                                                                (Addr.mk w'.drew.heap.size (0 : Nat) none))
                                                                              (1 : Nat) (1 : Nat)]
                                                                          w1 fun (s : SV) (w' : World) =>
                                                                          S w' ∧
                                                                            onP p0 fun (a : Addr) =>
                                                                              (w'.cell? (a.add (13 : Nat))).isSome = true ∧
                                                                                w'.frozen? (a.add (13 : Nat)) = false ∧
                                                                                  let w1 :=
                                                                                    w'.setCell (a.add (13 : Nat))
                                                                                      (Value.slice s.a s.len s.cap);
                                                                                  onP p0 fun (a : Addr) =>
                                                                                    ∃ (x_8 : Int),
                                                                                      w1.cell? (a.add (11 : Nat)) =
                                                                                          some (Value.int IntKind.u64 x_8) ∧
                                                                                        onP p0 fun (a : Addr) =>
                                                                                          (w1.cell?
                                                                                                  (a.add
                                                                                                    (11 : Nat))).isSome =
                                                                                              true ∧
                                                                                            w1.frozen? (a.add (11 : Nat)) =
                                                                                                false ∧
                                                                                              R (0 : Int)
                                                                                                (w1.setCell
                                                                                                  (a.add (11 : Nat))
                                                                                                  (Value.int IntKind.u64
                                                                                                    (IntKind.u64.wrap
                                                                                                      (x_8 +
                                                                                                        IntKind.u64.wrap
                                                                                                          (↑x.fst.len :
                                                                                                            Int))))))))))))
  : CallT [Ty.one (Sh.int IntKind.i64)] Try.prog 99 [Value.pointer p0, Value.slice s1.a s1.len s1.cap] w R :=
  fnV_sound (h := HT.z.sq
  (HT.z.sq
    (HT.z.sq
      (HT.z.sq
        (HT.z.sq
          ((HT.dr
                (DT.take (0 : Nat)
                  (DT.take (1 : Nat)
                    (DT.take (2 : Nat)
                      (DT.take (3 : Nat)
                        (DT.take (4 : Nat)
                          (DT.take (5 : Nat)
                            (DT.take (6 : Nat)
                              (DT.take (7 : Nat)
                                (DT.take (8 : Nat)
                                  (DT.alt (9 : Nat)
                                    (DT.take (10 : Nat)
                                      (DT.take (11 : Nat)
                                        (DT.take (12 : Nat) (DT.take (13 : Nat) (DT.take (14 : Nat) DT.fin)))))
                                    DT.fin))))))))))).sq
            (HT.z.sq
              (HT.z.sq
                ((HT.dr
                      (DT.take (0 : Nat)
                        (DT.take (1 : Nat)
                          (DT.take (2 : Nat)
                            (DT.take (3 : Nat)
                              (DT.take (4 : Nat)
                                (DT.take (5 : Nat)
                                  (DT.take (6 : Nat)
                                    (DT.take (7 : Nat)
                                      (DT.take (8 : Nat)
                                        (DT.take (9 : Nat)
                                          (DT.take (10 : Nat)
                                            (DT.take (11 : Nat)
                                              (DT.take (12 : Nat)
                                                (DT.take (13 : Nat)
                                                  (DT.alt (14 : Nat)
                                                    (DT.alt (15 : Nat)
                                                      (DT.take (16 : Nat)
                                                        (DT.take (17 : Nat) (DT.alt (18 : Nat) DT.fin DT.fin)))
                                                      DT.fin)
                                                    DT.fin)))))))))))))))).sq
                  HT.z))))))))) Try.func99 (by kernel_rfl) (by kernel_rfl) (Eq.mp (by kernel_rfl) h)

/-- (*dunnage/wal.Log).First -/
theorem wal_Log_First.vc (p0 : Option Addr) (w : World) (R : Int → World → Prop)
  (h : cnd p0.isNone (R (0 : Int) w)
      (onP p0 fun (a : Addr) => ∃ (x : Int), w.cell? (a.add (10 : Nat)) = some (Value.int IntKind.u64 x) ∧ R x w))
  : CallT [Ty.one (Sh.int IntKind.u64)] Try.prog 100 [Value.pointer p0] w R :=
  fnV_sound (h := HT.z) Try.func100 (by kernel_rfl) (by kernel_rfl) (Eq.mp (by kernel_rfl) h)

/-- (*dunnage/wal.Log).Next -/
theorem wal_Log_Next.vc (p0 : Option Addr) (w : World) (R : Int → World → Prop)
  (h : cnd p0.isNone (R (0 : Int) w)
      (onP p0 fun (a : Addr) => ∃ (x : Int), w.cell? (a.add (11 : Nat)) = some (Value.int IntKind.u64 x) ∧ R x w))
  : CallT [Ty.one (Sh.int IntKind.u64)] Try.prog 101 [Value.pointer p0] w R :=
  fnV_sound (h := HT.z) Try.func101 (by kernel_rfl) (by kernel_rfl) (Eq.mp (by kernel_rfl) h)

/-- (*dunnage/wal.Log).Least -/
theorem wal_Log_Least.vc (p0 : Option Addr) (w : World) (R : Int → World → Prop)
  (h : cnd p0.isNone (R (0 : Int) w)
      (onP p0 fun (a : Addr) =>
        ∃ (x : SV),
          w.cell? (a.add (13 : Nat)) = some (Value.slice x.a x.len x.cap) ∧
            cnd (decide ((↑x.len : Int) > (0 : Int)))
              (onP p0 fun (a : Addr) =>
                ∃ (x : SV),
                  w.cell? (a.add (13 : Nat)) = some (Value.slice x.a x.len x.cap) ∧
                    (0 : Int) ≤ (0 : Int) ∧
                      (0 : Int) < (↑x.len : Int) ∧
                        onP x.a fun (A : Addr) =>
                          ∃ (x : Int),
                            w.cell? ((A.add (Int.toNat (0 : Int) * (2 : Nat))).add (1 : Nat)) =
                                some (Value.int IntKind.u64 x) ∧
                              R x w)
              (onP p0 fun (a : Addr) => ∃ (x : Int), w.cell? (a.add (12 : Nat)) = some (Value.int IntKind.u64 x) ∧ R x w)))
  : CallT [Ty.one (Sh.int IntKind.u64)] Try.prog 102 [Value.pointer p0] w R :=
  fnV_sound (h := HT.z) Try.func102 (by kernel_rfl) (by kernel_rfl) (Eq.mp (by kernel_rfl) h)

/-- dunnage/dunnageref06.Frames -/
theorem dunnageref06_Frames.vc (n0 : Int) (n1 : Int) (s2 : SV) (w : World) (R : SV → World → Prop)
  (h : CallT [Ty.one (Sh.int IntKind.i64)] Try.prog (52 : Nat) [Value.int IntKind.i64 (↑s2.len : Int)] w
      fun (x : Int) (w' : World) =>
      ∃ (I : Nat → SV × Int → World → Prop),
        (∃ (n : Nat), I n (SV.mk none (0 : Nat) (0 : Nat), (0 : Int)) w') ∧
          ∀ (n : Nat) (x_1 : SV × Int) (j : Nat → Value) (w' : World),
            I n x_1 w' →
              let e1 := x_1.snd;
              cnd (decide (e1 < x))
                (let e1 := x_1.snd;
                let e1_1 := IntKind.i64.wrap (IntKind.i64.wrap (x_1.snd + (1 : Int)) * (440 : Int));
                (0 : Int) ≤ min (↑s2.len : Int) e1_1 ∧
                  min (↑s2.len : Int) e1_1 ≤ (↑s2.cap : Int) ∧
                    (0 : Int) ≤ IntKind.i64.wrap (e1 * (440 : Int)) ∧
                      IntKind.i64.wrap (e1 * (440 : Int)) ≤ (↑(min (↑s2.len : Int) e1_1).toNat : Int) ∧
                        CallT [Ty.one Sh.slice] Try.prog (120 : Nat)
                          [Value.slice (subA s2.a (IntKind.i64.wrap (e1 * (440 : Int))).toNat (1 : Nat) s2.cap)
                              ((min (↑s2.len : Int) e1_1).toNat - (IntKind.i64.wrap (e1 * (440 : Int))).toNat)
                              (s2.cap - (IntKind.i64.wrap (e1 * (440 : Int))).toNat)]
                          w' fun (x_2 : SV) (w' : World) =>
                          appV Try.prog [(35 : Nat), (35 : Nat)] (35 : Nat)
                            [Value.slice x_1.fst.a x_1.fst.len x_1.fst.cap,
                              Value.slice (some (Addr.mk w'.heap.size (0 : Nat) none)) (1 : Nat) (1 : Nat)]
                            (w'.alloc
                              (Obj.cells
                                #[Value.int IntKind.u64 n0, Value.int IntKind.u64 n1, Value.int IntKind.i64 x,
                                  Value.slice x_2.a x_2.len x_2.cap]
                                (51 : Nat)))
                            fun (s : SV) (w' : World) =>
                            ∃ (m : Nat), m < n ∧ I m (s, IntKind.i64.wrap (x_1.snd + (1 : Int))) w')
                (R x_1.fst w'))
  : CallT [Ty.one Sh.slice] Try.prog 103 [Value.int IntKind.u64 n0, Value.int IntKind.u64 n1, Value.slice s2.a s2.len s2.cap] w R :=
  fnV_sound (h := HT.z.sq
  (HT.z.sq
    (HT.z.sq
      ((HT.z.sq (HT.lp [((8 : Nat), Ty.one Sh.slice), ((9 : Nat), Ty.one (Sh.int IntKind.i64))] HT.z).bl).sq HT.z)))) Try.func103 (by kernel_rfl) (by kernel_rfl) (Eq.mp (by kernel_rfl) h)

/-- dunnage/dunnagehelp.Same[[]byte] -/
theorem dunnagehelp_Same_sl_byte.vc (s0 : SV) (s1 : SV) (v2 : Value) (w : World) (R : Bool → World → Prop)
  (h : cnd ((↑s0.len : Int) != (↑s1.len : Int)) (R false w)
      (∃ (I : Nat → Int → World → Prop),
        (∃ (n : Nat), I n (0 : Int) w) ∧
          ∀ (n : Nat) (x : Int) (j : Nat → Value) (w' : World),
            I n x w' →
              cnd (decide (x < (↑s0.len : Int)))
                ((0 : Int) ≤ x ∧
                  x < (↑s0.len : Int) ∧
                    onP s0.a fun (A : Addr) =>
                      ∃ (x_1 : SV),
                        w'.drew.cell? (A.add (x.toNat * (1 : Nat))) = some (Value.slice x_1.a x_1.len x_1.cap) ∧
                          (0 : Int) ≤ x ∧
                            x < (↑s1.len : Int) ∧
                              onP s1.a fun (A : Addr) =>
                                ∃ (x_2 : SV),
                                  w'.drew.cell? (A.add (x.toNat * (1 : Nat))) = some (Value.slice x_2.a x_2.len x_2.cap) ∧
                                    callVal [Ty.one Sh.bool] Try.prog v2
                                      [Value.slice x_1.a x_1.len x_1.cap, Value.slice x_2.a x_2.len x_2.cap] w'.drew
                                      fun (x_3 : Bool) (w' : World) =>
                                      cnd (!x_3) (R false w')
                                        (∃ (m : Nat), m < n ∧ I m (IntKind.i64.wrap (x + (1 : Int))) w'))
                (R true w')))
  : CallT [Ty.one Sh.bool] Try.prog 104 [Value.slice s0.a s0.len s0.cap, Value.slice s1.a s1.len s1.cap, v2] w R :=
  fnV_sound (h := HT.z.sq
  (HT.z.sq
    ((HT.z.sq
          (HT.lp [((7 : Nat), Ty.one (Sh.int IntKind.i64))] (HT.z.sq (((HT.rg (9 : Nat)).sq HT.z).bl.sq HT.z))).bl).sq
      HT.z))) Try.func104 (by kernel_rfl) (by kernel_rfl) (Eq.mp (by kernel_rfl) h)

/-- dunnage/dunnagehelp.Plain[byte] -/
theorem dunnagehelp_Plain_byte.vc (s0 : SV) (s1 : SV) (w : World) (R : Bool → World → Prop)
  (h : CallT [Ty.one Sh.bool] Try.prog (160 : Nat)
      [Value.slice s0.a s0.len s0.cap, Value.slice s1.a s1.len s1.cap, Value.func (Fn.func (161 : Nat)) #[] #[]] w
      fun (x : Bool) (w' : World) => R x w')
  : CallT [Ty.one Sh.bool] Try.prog 105 [Value.slice s0.a s0.len s0.cap, Value.slice s1.a s1.len s1.cap] w R :=
  fnV_sound (h := HT.z) Try.func105 (by kernel_rfl) (by kernel_rfl) (Eq.mp (by kernel_rfl) h)

/-- dunnage/frame.fits -/
theorem frame_fits.vc (x0 : Int × Int × Int × SV) (x1 : Int × Int × Int × SV) (n2 : Int) (w : World) (R : Bool → World → Prop)
  (h : let w1 :=
      w.alloc
        (Obj.cells
          #[Value.int IntKind.u64 x0.fst, Value.int IntKind.u64 x0.snd.fst, Value.int IntKind.i64 x0.snd.snd.fst,
            Value.slice x0.snd.snd.snd.a x0.snd.snd.snd.len x0.snd.snd.snd.cap]
          (51 : Nat));
    let w1_1 :=
      w1.alloc
        (Obj.cells
          #[Value.int IntKind.u64 x1.fst, Value.int IntKind.u64 x1.snd.fst, Value.int IntKind.i64 x1.snd.snd.fst,
            Value.slice x1.snd.snd.snd.a x1.snd.snd.snd.len x1.snd.snd.snd.cap]
          (51 : Nat));
    ∃ (R_1 : PUnit → World → Prop),
      (∃ (x : Int × Int × Int × SV),
          cellsAt w1_1 (Addr.mk w.heap.size (0 : Nat) none)
              [Value.int IntKind.u64 x.fst, Value.int IntKind.u64 x.snd.fst, Value.int IntKind.i64 x.snd.snd.fst,
                Value.slice x.snd.snd.snd.a x.snd.snd.snd.len x.snd.snd.snd.cap] ∧
            CallT [Ty.one Sh.bool] Try.prog (112 : Nat)
              [Value.agg
                  #[Value.int IntKind.u64 x.fst, Value.int IntKind.u64 x.snd.fst, Value.int IntKind.i64 x.snd.snd.fst,
                    Value.slice x.snd.snd.snd.a x.snd.snd.snd.len x.snd.snd.snd.cap]]
              w1_1 fun (x : Bool) (w' : World) =>
              cnd (!x) (R false w')
                (∃ (x : Int),
                  w'.cell? ((Addr.mk w.heap.size (0 : Nat) none).add (0 : Nat)) = some (Value.int IntKind.u64 x) ∧
                    ∃ (x_1 : Int),
                      w'.cell? ((Addr.mk w1.heap.size (0 : Nat) none).add (0 : Nat)) = some (Value.int IntKind.u64 x_1) ∧
                        cnd (x != x_1) (R false w')
                          (∃ (x : Int),
                            w'.cell? ((Addr.mk w.heap.size (0 : Nat) none).add (1 : Nat)) = some (Value.int IntKind.u64 x) ∧
                              ∃ (x_2 : Int),
                                w'.cell? ((Addr.mk w1.heap.size (0 : Nat) none).add (1 : Nat)) =
                                    some (Value.int IntKind.u64 x_2) ∧
                                  cnd (x != x_2) (R false w')
                                    (∃ (x : Int),
                                      w'.cell? ((Addr.mk w.heap.size (0 : Nat) none).add (2 : Nat)) =
                                          some (Value.int IntKind.i64 x) ∧
                                        ∃ (x_3 : Int),
                                          w'.cell? ((Addr.mk w1.heap.size (0 : Nat) none).add (2 : Nat)) =
                                              some (Value.int IntKind.i64 x_3) ∧
                                            cnd (x != x_3) (R false w') (R_1 () w'))))) ∧
        ∀ (x : PUnit) (j : Nat → Value) (w' : World),
          R_1 x w' →
            ∃ (x : Int),
              w'.cell? ((Addr.mk w.heap.size (0 : Nat) none).add (2 : Nat)) = some (Value.int IntKind.i64 x) ∧
                cnd (n2 == IntKind.i64.wrap (x - (1 : Int)))
                  (cnd (n2 == (0 : Int)) (R true w')
                    (∃ (x : SV),
                      w'.cell? ((Addr.mk w.heap.size (0 : Nat) none).add (3 : Nat)) = some (Value.slice x.a x.len x.cap) ∧
                        cnd (decide ((↑x.len : Int) > (0 : Int))) (R true w')
                          (∃ (x : Int),
                            w'.cell? ((Addr.mk w.heap.size (0 : Nat) none).add (2 : Nat)) = some (Value.int IntKind.i64 x) ∧
                              cnd (decide (n2 < IntKind.i64.wrap (x - (1 : Int))))
                                (∃ (x : SV),
                                  w'.cell? ((Addr.mk w.heap.size (0 : Nat) none).add (3 : Nat)) =
                                      some (Value.slice x.a x.len x.cap) ∧
                                    R ((↑x.len : Int) == (440 : Int)) w')
                                (R false w'))))
                  (∃ (x : Int),
                    w'.cell? ((Addr.mk w.heap.size (0 : Nat) none).add (2 : Nat)) = some (Value.int IntKind.i64 x) ∧
                      cnd (decide (n2 < IntKind.i64.wrap (x - (1 : Int))))
                        (∃ (x : SV),
                          w'.cell? ((Addr.mk w.heap.size (0 : Nat) none).add (3 : Nat)) =
                              some (Value.slice x.a x.len x.cap) ∧
                            R ((↑x.len : Int) == (440 : Int)) w')
                        (R false w')))
  : CallT [Ty.one Sh.bool] Try.prog 106 [Value.agg
    #[Value.int IntKind.u64 x0.fst, Value.int IntKind.u64 x0.snd.fst, Value.int IntKind.i64 x0.snd.snd.fst,
      Value.slice x0.snd.snd.snd.a x0.snd.snd.snd.len x0.snd.snd.snd.cap],
  Value.agg
    #[Value.int IntKind.u64 x1.fst, Value.int IntKind.u64 x1.snd.fst, Value.int IntKind.i64 x1.snd.snd.fst,
      Value.slice x1.snd.snd.snd.a x1.snd.snd.snd.len x1.snd.snd.snd.cap],
  Value.int IntKind.i64 n2] w R :=
  fnV_sound (h := HT.z.sq (HT.jn [] HT.z HT.z)) Try.func106 (by kernel_rfl) (by kernel_rfl) (Eq.mp (by kernel_rfl) h)

/-- (*dunnage/disk.Disk).ready -/
theorem disk_Disk_ready.vc (p0 : Option Addr) (w : World) (R : Int → World → Prop)
  (h : cnd p0.isNone (R (2 : Int) w)
      (onP p0 fun (a : Addr) =>
        ∃ (x : Bool), w.cell? (a.add (2 : Nat)) = some (Value.bool x) ∧ cnd x (R (40 : Int) w) (R (0 : Int) w)))
  : CallT [Ty.one (Sh.int IntKind.i64)] Try.prog 107 [Value.pointer p0] w R :=
  fnV_sound (h := HT.z) Try.func107 (by kernel_rfl) (by kernel_rfl) (Eq.mp (by kernel_rfl) h)

/-- (*dunnage/disk.Disk).counted -/
theorem disk_Disk_counted.vc (p0 : Option Addr) (v1 : Value) (w : World) (R : Int → World → Prop)
  (h : callVal [Ty.one Sh.bool] Try.prog v1 [] w fun (x : Bool) (w' : World) =>
      cnd (!x) (R (0 : Int) w')
        (onP p0 fun (a : Addr) =>
          (w'.cell? (a.add (2 : Nat))).isSome = true ∧
            w'.frozen? (a.add (2 : Nat)) = false ∧ R (40 : Int) (w'.setCell (a.add (2 : Nat)) (Value.bool true))))
  : CallT [Ty.one (Sh.int IntKind.i64)] Try.prog 108 [Value.pointer p0, v1] w R :=
  fnV_sound (h := HT.z) Try.func108 (by kernel_rfl) (by kernel_rfl) (Eq.mp (by kernel_rfl) h)

/-- (*dunnage/disk.Disk).hit -/
theorem disk_Disk_hit.vc (p0 : Option Addr) (w : World) (R : Bool → World → Prop)
  (h : onP p0 fun (a : Addr) =>
      ∃ (x : Int),
        w.cell? (a.add (3 : Nat)) = some (Value.int IntKind.i64 x) ∧
          cnd (x == (0 : Int)) (R false w)
            (onP p0 fun (a : Addr) =>
              ∃ (x : Int),
                w.cell? (a.add (3 : Nat)) = some (Value.int IntKind.i64 x) ∧
                  onP p0 fun (a : Addr) =>
                    (w.cell? (a.add (3 : Nat))).isSome = true ∧
                      w.frozen? (a.add (3 : Nat)) = false ∧
                        let w1 := w.setCell (a.add (3 : Nat)) (Value.int IntKind.i64 (IntKind.i64.wrap (x - (1 : Int))));
                        onP p0 fun (a : Addr) =>
                          ∃ (x : Int), w1.cell? (a.add (3 : Nat)) = some (Value.int IntKind.i64 x) ∧ R (x == (0 : Int)) w1))
  : CallT [Ty.one Sh.bool] Try.prog 109 [Value.pointer p0] w R :=
  fnV_sound (h := HT.z) Try.func109 (by kernel_rfl) (by kernel_rfl) (Eq.mp (by kernel_rfl) h)

/-- (*dunnage/disk.Disk).has -/
theorem disk_Disk_has.vc (p0 : Option Addr) (n1 : Int) (w : World) (R : Bool → World → Prop)
  (h : cnd (decide (n1 ≥ (0 : Int)))
      (onP p0 fun (a : Addr) =>
        ∃ (x : SV), w.cell? (a.add (0 : Nat)) = some (Value.slice x.a x.len x.cap) ∧ R (decide (n1 < (↑x.len : Int))) w)
      (R false w))
  : CallT [Ty.one Sh.bool] Try.prog 110 [Value.pointer p0, Value.int IntKind.i64 n1] w R :=
  fnV_sound (h := HT.z) Try.func110 (by kernel_rfl) (by kernel_rfl) (Eq.mp (by kernel_rfl) h)

/-- slices.Clone[[]byte,byte] -/
theorem slices_Clone_byte_byte.vc (s0 : SV) (w : World) (R : SV → World → Prop)
  (h : cnd s0.a.isNone (R (SV.mk none (0 : Nat) (0 : Nat)) w)
      (appV Try.prog [(23 : Nat), (23 : Nat)] (23 : Nat)
        [Value.slice (some (Addr.mk w.heap.size (0 : Nat) none)) (0 : Nat) (0 : Nat), Value.slice s0.a s0.len s0.cap]
        (w.alloc (Obj.cells #[] (5 : Nat))) fun (s : SV) (w' : World) => R s w'))
  : CallT [Ty.one Sh.slice] Try.prog 111 [Value.slice s0.a s0.len s0.cap] w R :=
  fnV_sound (h := HT.z) Try.func111 (by kernel_rfl) (by kernel_rfl) (Eq.mp (by kernel_rfl) h)

/-- dunnage/frame.may -/
theorem frame_may.vc (x0 : Int × Int × Int × SV) (w : World) (R : Bool → World → Prop)
  (h : let w1 :=
      w.alloc
        (Obj.cells
          #[Value.int IntKind.u64 x0.fst, Value.int IntKind.u64 x0.snd.fst, Value.int IntKind.i64 x0.snd.snd.fst,
            Value.slice x0.snd.snd.snd.a x0.snd.snd.snd.len x0.snd.snd.snd.cap]
          (51 : Nat));
    ∃ (x : Int),
      w1.cell? ((Addr.mk w.heap.size (0 : Nat) none).add (2 : Nat)) = some (Value.int IntKind.i64 x) ∧
        cnd (decide (x ≥ (1 : Int)))
          (∃ (x : Int),
            w1.cell? ((Addr.mk w.heap.size (0 : Nat) none).add (2 : Nat)) = some (Value.int IntKind.i64 x) ∧
              cnd (decide (x ≤ (32 : Int)))
                (∃ (x : SV),
                  w1.cell? ((Addr.mk w.heap.size (0 : Nat) none).add (3 : Nat)) = some (Value.slice x.a x.len x.cap) ∧
                    R (decide ((↑x.len : Int) ≤ (440 : Int))) w1)
                (R false w1))
          (R false w1))
  : CallT [Ty.one Sh.bool] Try.prog 112 [Value.agg
    #[Value.int IntKind.u64 x0.fst, Value.int IntKind.u64 x0.snd.fst, Value.int IntKind.i64 x0.snd.snd.fst,
      Value.slice x0.snd.snd.snd.a x0.snd.snd.snd.len x0.snd.snd.snd.cap]] w R :=
  fnV_sound (h := HT.z) Try.func112 (by kernel_rfl) (by kernel_rfl) (Eq.mp (by kernel_rfl) h)

/-- slices.Concat[[]byte,byte] -/
theorem slices_Concat_byte_byte.vc (s0 : SV) (w : World) (R : SV → World → Prop)
  (h : ∃ (I : Nat → Int × Int → World → Prop),
      (∃ (n : Nat), I n ((0 : Int), (0 : Int)) w) ∧
        ∀ (n : Nat) (x : Int × Int) (j : Nat → Value) (w' : World),
          I n x w' →
            cnd (decide (x.snd < (↑s0.len : Int)))
              ((0 : Int) ≤ x.snd ∧
                x.snd < (↑s0.len : Int) ∧
                  onP s0.a fun (A : Addr) =>
                    ∃ (x_1 : SV),
                      w'.cell? (A.add (Int.toNat x.snd * (1 : Nat))) = some (Value.slice x_1.a x_1.len x_1.cap) ∧
                        let e1 := x.fst;
                        cnd (decide (IntKind.i64.wrap (e1 + (↑x_1.len : Int)) < (0 : Int))) False
                          (∃ (m : Nat),
                            m < n ∧
                              I m (IntKind.i64.wrap (e1 + (↑x_1.len : Int)), IntKind.i64.wrap (x.snd + (1 : Int))) w'))
              (CallT [Ty.one Sh.slice] Try.prog (162 : Nat)
                [Value.slice none (0 : Nat) (0 : Nat), Value.int IntKind.i64 x.fst] w' fun (x : SV) (w' : World) =>
                ∃ (I : Nat → SV × Int → World → Prop),
                  (∃ (n : Nat), I n (x, (0 : Int)) w') ∧
                    ∀ (n : Nat) (x : SV × Int) (j : Nat → Value) (w' : World),
                      I n x w' →
                        cnd (decide (x.snd < (↑s0.len : Int)))
                          ((0 : Int) ≤ x.snd ∧
                            x.snd < (↑s0.len : Int) ∧
                              onP s0.a fun (A : Addr) =>
                                ∃ (x_1 : SV),
                                  w'.cell? (A.add (Int.toNat x.snd * (1 : Nat))) =
                                      some (Value.slice x_1.a x_1.len x_1.cap) ∧
                                    appV Try.prog [(23 : Nat), (23 : Nat)] (23 : Nat)
                                      [Value.slice x.fst.a x.fst.len x.fst.cap, Value.slice x_1.a x_1.len x_1.cap] w'
                                      fun (s : SV) (w' : World) =>
                                      ∃ (m : Nat), m < n ∧ I m (s, IntKind.i64.wrap (x.snd + (1 : Int))) w')
                          (R x.fst w')))
  : CallT [Ty.one Sh.slice] Try.prog 113 [Value.slice s0.a s0.len s0.cap] w R :=
  fnV_sound (h := HT.z.sq
  (HT.z.sq
    ((HT.z.sq (HT.lp [((3 : Nat), Ty.one (Sh.int IntKind.i64)), ((11 : Nat), Ty.one (Sh.int IntKind.i64))] HT.z).bl).sq
      (HT.z.sq
        ((HT.z.sq (HT.lp [((6 : Nat), Ty.one Sh.slice), ((27 : Nat), Ty.one (Sh.int IntKind.i64))] HT.z).bl).sq HT.z))))) Try.func113 (by kernel_rfl) (by kernel_rfl) (Eq.mp (by kernel_rfl) h)

/-- dunnage/word.Var -/
theorem word_Var.vc (n0 : Int) (w : World) (R : SV → World → Prop)
  (h : ∃ (I : Nat → Int × SV → World → Prop),
      (∃ (n : Nat), I n (n0, SV.mk none (0 : Nat) (0 : Nat)) w) ∧
        ∀ (n : Nat) (x : Int × SV) (j : Nat → Value) (w' : World),
          I n x w' →
            let e1 := x.fst;
            cnd (decide (e1 ≥ (128 : Int)))
              (appV Try.prog [(23 : Nat), (23 : Nat)] (23 : Nat)
                [Value.slice x.snd.a x.snd.len x.snd.cap,
                  Value.slice (some (Addr.mk w'.heap.size (0 : Nat) none)) (1 : Nat) (1 : Nat)]
                (w'.alloc
                  (Obj.cells #[Value.int IntKind.u8 (bor IntKind.u8 (IntKind.u8.wrap x.fst) (128 : Int))] (5 : Nat)))
                fun (s : SV) (w' : World) => ∃ (m : Nat), m < n ∧ I m (shr IntKind.u64 x.fst (7 : Int), s) w')
              (appV Try.prog [(23 : Nat), (23 : Nat)] (23 : Nat)
                [Value.slice x.snd.a x.snd.len x.snd.cap,
                  Value.slice (some (Addr.mk w'.heap.size (0 : Nat) none)) (1 : Nat) (1 : Nat)]
                (w'.alloc (Obj.cells #[Value.int IntKind.u8 (IntKind.u8.wrap x.fst)] (5 : Nat)))
                fun (s : SV) (w' : World) => R s w'))
  : CallT [Ty.one Sh.slice] Try.prog 114 [Value.int IntKind.u64 n0] w R :=
  fnV_sound (h := HT.z.sq (HT.z.sq ((HT.lp [((0 : Nat), Ty.one (Sh.int IntKind.u64)), ((3 : Nat), Ty.one Sh.slice)] HT.z).bl.sq HT.z))) Try.func114 (by kernel_rfl) (by kernel_rfl) (Eq.mp (by kernel_rfl) h)

/-- dunnage/dunnageref06.May -/
theorem dunnageref06_May.vc (x0 : Int × Int × Int × SV) (w : World) (R : Bool → World → Prop)
  (h : let w1 :=
      w.alloc
        (Obj.cells
          #[Value.int IntKind.u64 x0.fst, Value.int IntKind.u64 x0.snd.fst, Value.int IntKind.i64 x0.snd.snd.fst,
            Value.slice x0.snd.snd.snd.a x0.snd.snd.snd.len x0.snd.snd.snd.cap]
          (51 : Nat));
    ∃ (x : Int),
      w1.cell? ((Addr.mk w.heap.size (0 : Nat) none).add (2 : Nat)) = some (Value.int IntKind.i64 x) ∧
        cnd (decide (x ≥ (1 : Int)))
          (∃ (x : Int),
            w1.cell? ((Addr.mk w.heap.size (0 : Nat) none).add (2 : Nat)) = some (Value.int IntKind.i64 x) ∧
              cnd (decide (x ≤ (32 : Int)))
                (∃ (x : SV),
                  w1.cell? ((Addr.mk w.heap.size (0 : Nat) none).add (3 : Nat)) = some (Value.slice x.a x.len x.cap) ∧
                    R (decide ((↑x.len : Int) ≤ (440 : Int))) w1)
                (R false w1))
          (R false w1))
  : CallT [Ty.one Sh.bool] Try.prog 115 [Value.agg
    #[Value.int IntKind.u64 x0.fst, Value.int IntKind.u64 x0.snd.fst, Value.int IntKind.i64 x0.snd.snd.fst,
      Value.slice x0.snd.snd.snd.a x0.snd.snd.snd.len x0.snd.snd.snd.cap]] w R :=
  fnV_sound (h := HT.z) Try.func115 (by kernel_rfl) (by kernel_rfl) (Eq.mp (by kernel_rfl) h)

/-- dunnage/dunnageref01.Var -/
theorem dunnageref01_Var.vc (n0 : Int) (w : World) (R : SV → World → Prop)
  (h : ∃ (I : Nat → Int × SV → World → Prop),
      (∃ (n : Nat), I n (n0, SV.mk none (0 : Nat) (0 : Nat)) w) ∧
        ∀ (n : Nat) (x : Int × SV) (j : Nat → Value) (w' : World),
          I n x w' →
            let e1 := x.fst;
            cnd (decide (e1 ≥ (128 : Int)))
              (appV Try.prog [(23 : Nat), (23 : Nat)] (23 : Nat)
                [Value.slice x.snd.a x.snd.len x.snd.cap,
                  Value.slice (some (Addr.mk w'.heap.size (0 : Nat) none)) (1 : Nat) (1 : Nat)]
                (w'.alloc
                  (Obj.cells #[Value.int IntKind.u8 (bor IntKind.u8 (IntKind.u8.wrap x.fst) (128 : Int))] (5 : Nat)))
                fun (s : SV) (w' : World) => ∃ (m : Nat), m < n ∧ I m (shr IntKind.u64 x.fst (7 : Int), s) w')
              (appV Try.prog [(23 : Nat), (23 : Nat)] (23 : Nat)
                [Value.slice x.snd.a x.snd.len x.snd.cap,
                  Value.slice (some (Addr.mk w'.heap.size (0 : Nat) none)) (1 : Nat) (1 : Nat)]
                (w'.alloc (Obj.cells #[Value.int IntKind.u8 (IntKind.u8.wrap x.fst)] (5 : Nat)))
                fun (s : SV) (w' : World) => R s w'))
  : CallT [Ty.one Sh.slice] Try.prog 116 [Value.int IntKind.u64 n0] w R :=
  fnV_sound (h := HT.z.sq (HT.z.sq ((HT.lp [((0 : Nat), Ty.one (Sh.int IntKind.u64)), ((3 : Nat), Ty.one Sh.slice)] HT.z).bl.sq HT.z))) Try.func116 (by kernel_rfl) (by kernel_rfl) (Eq.mp (by kernel_rfl) h)

/-- dunnage/word.ReadVar -/
theorem word_ReadVar.vc (s0 : SV) (n1 : Int) (w : World) (R : Int × Int × Int → World → Prop)
  (h : cnd (decide (n1 < (0 : Int))) (R ((0 : Int), (0 : Int), (1 : Int)) w)
      (let w1 := w.alloc (Obj.cells #[Value.int IntKind.u64 (0 : Int)] (22 : Nat));
      let w1_1 := w1.alloc (Obj.cells #[Value.int IntKind.i64 (0 : Int)] (3 : Nat));
      let w1_2 := w1_1.alloc (Obj.cells #[Value.bool false] (4 : Nat));
      (w1_2.cell? (Addr.mk w.heap.size (0 : Nat) none)).isSome = true ∧
        w1_2.frozen? (Addr.mk w.heap.size (0 : Nat) none) = false ∧
          let w1_3 := w1_2.setCell (Addr.mk w.heap.size (0 : Nat) none) (Value.int IntKind.u64 (0 : Int));
          (w1_3.cell? (Addr.mk w1.heap.size (0 : Nat) none)).isSome = true ∧
            w1_3.frozen? (Addr.mk w1.heap.size (0 : Nat) none) = false ∧
              let w1_4 := w1_3.setCell (Addr.mk w1.heap.size (0 : Nat) none) (Value.int IntKind.i64 (0 : Int));
              (w1_4.cell? (Addr.mk w1_1.heap.size (0 : Nat) none)).isSome = true ∧
                w1_4.frozen? (Addr.mk w1_1.heap.size (0 : Nat) none) = false ∧
                  let w1_5 := w1_4.setCell (Addr.mk w1_1.heap.size (0 : Nat) none) (Value.bool true);
                  let w1_6 := w1_5.alloc (Obj.cells #[Value.nilFunc] (211 : Nat));
                  canSt w1_6 (Addr.mk w1_5.heap.size (0 : Nat) none) (1 : Nat) ∧
                    let w1 :=
                      setCells w1_6 (Addr.mk w1_5.heap.size (0 : Nat) none) (0 : Nat)
                        [Value.func (Fn.func (163 : Nat)) #[]
                            #[Value.pointer (some (Addr.mk w1.heap.size (0 : Nat) none)),
                              Value.pointer (some (Addr.mk w1_1.heap.size (0 : Nat) none)),
                              Value.pointer (some (Addr.mk w.heap.size (0 : Nat) none))]];
                    ∃ (x : Value),
                      cellsAt w1 (Addr.mk w1_5.heap.size (0 : Nat) none) [x] ∧
                        CallT [Ty.one (Sh.int IntKind.i64), Ty.one Sh.bool] Try.prog (164 : Nat)
                          [Value.agg #[x], Value.slice s0.a s0.len s0.cap, Value.int IntKind.i64 n1] w1
                          fun (x : Int × Bool) (w' : World) =>
                          ∃ (x_1 : Bool),
                            w'.cell? (Addr.mk w1_1.heap.size (0 : Nat) none) = some (Value.bool x_1) ∧
                              cnd (!x_1) (R ((0 : Int), (0 : Int), (11 : Int)) w')
                                (cnd x.snd (R ((0 : Int), (0 : Int), (10 : Int)) w')
                                  (∃ (x_2 : Int),
                                    w'.cell? (Addr.mk w.heap.size (0 : Nat) none) = some (Value.int IntKind.u64 x_2) ∧
                                      R (x_2, x.fst, (0 : Int)) w'))))
  : CallT [Ty.one (Sh.int IntKind.u64), Ty.one (Sh.int IntKind.i64), Ty.one (Sh.int IntKind.i64)] Try.prog 117 [Value.slice s0.a s0.len s0.cap, Value.int IntKind.i64 n1] w R :=
  fnV_sound (h := HT.z) Try.func117 (by kernel_rfl) (by kernel_rfl) (Eq.mp (by kernel_rfl) h)

/-- (*dunnage/dunnageref01.Reader).Num -/
theorem dunnageref01_Reader_Num.vc (p0 : Option Addr) (w : World) (R : Int → World → Prop)
  (h : onP p0 fun (a : Addr) =>
      ∃ (x : Int),
        w.cell? (a.add (2 : Nat)) = some (Value.int IntKind.i64 x) ∧
          cnd (x != (0 : Int)) (R (0 : Int) w)
            (∃ (S : World → Prop),
              S w.drew ∧
                onP p0 fun (a : Addr) =>
                  ∃ (x : SV),
                    (∀ (w : World), S w → w.cell? (a.add (0 : Nat)) = some (Value.slice x.a x.len x.cap)) ∧
                      onP p0 fun (a : Addr) =>
                        ∃ (x_1 : Int),
                          (∀ (w : World), S w → w.cell? (a.add (1 : Nat)) = some (Value.int IntKind.i64 x_1)) ∧
                            CallT [Ty.one (Sh.int IntKind.u64), Ty.one (Sh.int IntKind.i64), Ty.one (Sh.int IntKind.i64)]
                              Try.prog (165 : Nat) [Value.slice x.a x.len x.cap, Value.int IntKind.i64 x_1] w.drew
                              fun (x : Int × Int × Int) (w' : World) =>
                              let e1 := x.snd.snd;
                              cnd (e1 != (0 : Int))
                                (onP p0 fun (a : Addr) =>
                                  (w'.cell? (a.add (2 : Nat))).isSome = true ∧
                                    w'.frozen? (a.add (2 : Nat)) = false ∧
                                      R (0 : Int) (w'.setCell (a.add (2 : Nat)) (Value.int IntKind.i64 e1)))
                                (onP p0 fun (a : Addr) =>
                                  (w'.cell? (a.add (1 : Nat))).isSome = true ∧
                                    w'.frozen? (a.add (1 : Nat)) = false ∧
                                      R x.fst (w'.setCell (a.add (1 : Nat)) (Value.int IntKind.i64 x.snd.fst)))))
  : CallT [Ty.one (Sh.int IntKind.u64)] Try.prog 118 [Value.pointer p0] w R :=
  fnV_sound (h := HT.z.sq
  (HT.z.sq
    ((HT.dr
          (DT.take (0 : Nat)
            (DT.take (1 : Nat)
              (DT.take (2 : Nat)
                (DT.take (3 : Nat)
                  (DT.take (4 : Nat)
                    (DT.take (5 : Nat)
                      (DT.take (6 : Nat)
                        (DT.take (7 : Nat)
                          (DT.alt (8 : Nat)
                            (DT.take (9 : Nat)
                              (DT.take (10 : Nat)
                                (DT.take (11 : Nat)
                                  (DT.take (12 : Nat)
                                    (DT.take (13 : Nat) (DT.take (14 : Nat) (DT.take (15 : Nat) DT.fin)))))))
                            DT.fin)))))))))).sq
      HT.z))) Try.func118 (by kernel_rfl) (by kernel_rfl) (Eq.mp (by kernel_rfl) h)

/-- (*dunnage/dunnageref01.Reader).Most -/
theorem dunnageref01_Reader_Most.vc (p0 : Option Addr) (n1 : Int) (w : World) (R : Int → World → Prop)
  (h : CallT [Ty.one (Sh.int IntKind.u64)] Try.prog (118 : Nat) [Value.pointer p0] w fun (x : Int) (w' : World) =>
      ∃ (R_1 : PUnit → World → Prop),
        (∃ (R : Bool → World → Prop),
            (onP p0 fun (a : Addr) =>
                ∃ (x_1 : Int),
                  w'.cell? (a.add (2 : Nat)) = some (Value.int IntKind.i64 x_1) ∧
                    cnd (x_1 == (0 : Int)) (R (decide (x > n1)) w') (R false w')) ∧
              ∀ (x : Bool) (j : Nat → Value) (w' : World),
                R x w' →
                  cnd x
                    (onP p0 fun (a : Addr) =>
                      (w'.cell? (a.add (2 : Nat))).isSome = true ∧
                        w'.frozen? (a.add (2 : Nat)) = false ∧
                          R_1 () (w'.setCell (a.add (2 : Nat)) (Value.int IntKind.i64 (11 : Int))))
                    (R_1 () w')) ∧
          ∀ (x_1 : PUnit) (j : Nat → Value) (w' : World),
            R_1 x_1 w' →
              onP p0 fun (a : Addr) =>
                ∃ (x_2 : Int),
                  w'.cell? (a.add (2 : Nat)) = some (Value.int IntKind.i64 x_2) ∧
                    cnd (x_2 != (0 : Int)) (R (0 : Int) w') (R (IntKind.i64.wrap x) w'))
  : CallT [Ty.one (Sh.int IntKind.i64)] Try.prog 119 [Value.pointer p0, Value.int IntKind.u64 n1] w R :=
  fnV_sound (h := HT.z.sq (HT.z.sq (HT.jn [] (HT.jn [((17 : Nat), Ty.one Sh.bool)] HT.z HT.z) HT.z))) Try.func119 (by kernel_rfl) (by kernel_rfl) (Eq.mp (by kernel_rfl) h)

/-- dunnage/dunnagehelp.CopyBytes -/
theorem dunnagehelp_CopyBytes.vc (s0 : SV) (w : World) (R : SV → World → Prop)
  (h : appV Try.prog [(23 : Nat), (23 : Nat)] (23 : Nat) [Value.slice none (0 : Nat) (0 : Nat), Value.slice s0.a s0.len s0.cap]
      w fun (s : SV) (w' : World) => R s w')
  : CallT [Ty.one Sh.slice] Try.prog 120 [Value.slice s0.a s0.len s0.cap] w R :=
  fnV_sound (h := HT.z) Try.func120 (by kernel_rfl) (by kernel_rfl) (Eq.mp (by kernel_rfl) h)

/-- slices.Clone[[]dunnage/disk.content,dunnage/disk.content] -/
theorem slices_Clone_disk_content_disk_content.vc (s0 : SV) (w : World) (R : SV → World → Prop)
  (h : cnd s0.a.isNone (R (SV.mk none (0 : Nat) (0 : Nat)) w)
      (appV Try.prog [(148 : Nat), (148 : Nat)] (148 : Nat)
        [Value.slice (some (Addr.mk w.heap.size (0 : Nat) none)) (0 : Nat) (0 : Nat), Value.slice s0.a s0.len s0.cap]
        (w.alloc (Obj.cells #[] (154 : Nat))) fun (s : SV) (w' : World) => R s w'))
  : CallT [Ty.one Sh.slice] Try.prog 121 [Value.slice s0.a s0.len s0.cap] w R :=
  fnV_sound (h := HT.z) Try.func121 (by kernel_rfl) (by kernel_rfl) (Eq.mp (by kernel_rfl) h)

/-- slices.Clone[[]dunnage/disk.write,dunnage/disk.write] -/
theorem slices_Clone_disk_write_disk_write.vc (s0 : SV) (w : World) (R : SV → World → Prop)
  (h : cnd s0.a.isNone (R (SV.mk none (0 : Nat) (0 : Nat)) w)
      (appV Try.prog [(149 : Nat), (149 : Nat)] (149 : Nat)
        [Value.slice (some (Addr.mk w.heap.size (0 : Nat) none)) (0 : Nat) (0 : Nat), Value.slice s0.a s0.len s0.cap]
        (w.alloc (Obj.cells #[] (156 : Nat))) fun (s : SV) (w' : World) => R s w'))
  : CallT [Ty.one Sh.slice] Try.prog 122 [Value.slice s0.a s0.len s0.cap] w R :=
  fnV_sound (h := HT.z) Try.func122 (by kernel_rfl) (by kernel_rfl) (Eq.mp (by kernel_rfl) h)

/-- (*dunnage/dunnageref04.Disk).Read -/
theorem dunnageref04_Disk_Read.vc (p0 : Option Addr) (n1 : Int) (w : World) (R : SV × Int → World → Prop)
  (h : onP p0 fun (a : Addr) =>
      ∃ (x : Bool),
        w.cell? (a.add (4 : Nat)) = some (Value.bool x) ∧
          cnd x (R (SV.mk none (0 : Nat) (0 : Nat), (40 : Int)) w)
            (∃ (R_1 : PUnit → World → Prop),
              cnd (decide (n1 < (0 : Int))) (R (SV.mk none (0 : Nat) (0 : Nat), (1 : Int)) w)
                  (onP p0 fun (a : Addr) =>
                    ∃ (x : Int),
                      w.cell? (a.add (0 : Nat)) = some (Value.int IntKind.i64 x) ∧
                        cnd (decide (n1 ≥ x)) (R (SV.mk none (0 : Nat) (0 : Nat), (1 : Int)) w) (R_1 () w)) ∧
                ∀ (x : PUnit) (j : Nat → Value) (w' : World),
                  R_1 x w' →
                    CallT [Ty.one Sh.slice] Try.prog (166 : Nat) [Value.pointer p0, Value.int IntKind.i64 n1] w'
                      fun (x : SV) (w' : World) =>
                      ∃ (I : Nat → SV × Int → World → Prop),
                        (∃ (n : Nat), I n (x, (0 : Int)) w') ∧
                          ∀ (n : Nat) (x : SV × Int) (j : Nat → Value) (w' : World),
                            I n x w' →
                              let e1 := x.snd;
                              onP p0 fun (a : Addr) =>
                                ∃ (x_1 : SV),
                                  w'.cell? (a.add (2 : Nat)) = some (Value.slice x_1.a x_1.len x_1.cap) ∧
                                    cnd (decide (e1 < (↑x_1.len : Int)))
                                      (onP p0 fun (a : Addr) =>
                                        ∃ (x_2 : SV),
                                          w'.cell? (a.add (2 : Nat)) = some (Value.slice x_2.a x_2.len x_2.cap) ∧
                                            let e1 := x.snd;
                                            (0 : Int) ≤ e1 ∧
                                              e1 < (↑x_2.len : Int) ∧
                                                onP x_2.a fun (A : Addr) =>
                                                  ∃ (x_3 : Int),
                                                    w'.cell? ((A.add (e1.toNat * (2 : Nat))).add (0 : Nat)) =
                                                        some (Value.int IntKind.i64 x_3) ∧
                                                      cnd (x_3 == n1)
                                                        (onP p0 fun (a : Addr) =>
                                                          ∃ (x_4 : SV),
                                                            w'.cell? (a.add (2 : Nat)) =
                                                                some (Value.slice x_4.a x_4.len x_4.cap) ∧
                                                              let e1 := x.snd;
                                                              (0 : Int) ≤ e1 ∧
                                                                e1 < (↑x_4.len : Int) ∧
                                                                  onP x_4.a fun (A : Addr) =>
                                                                    ∃ (x_5 : SV),
                                                                      w'.cell?
                                                                            ((A.add (e1.toNat * (2 : Nat))).add (1 : Nat)) =
                                                                          some (Value.slice x_5.a x_5.len x_5.cap) ∧
                                                                        appV Try.prog [(23 : Nat), (23 : Nat)] (23 : Nat)
                                                                          [Value.slice none (0 : Nat) (0 : Nat),
                                                                            Value.slice x_5.a x_5.len x_5.cap]
                                                                          w' fun (s : SV) (w' : World) =>
                                                                          ∃ (m : Nat),
                                                                            m < n ∧
                                                                              I m (s, IntKind.i64.wrap (x.snd + (1 : Int)))
                                                                                w')
                                                        (∃ (m : Nat),
                                                          m < n ∧ I m (x.fst, IntKind.i64.wrap (x.snd + (1 : Int))) w'))
                                      (R (x.fst, (0 : Int)) w')))
  : CallT [Ty.one Sh.slice, Ty.one (Sh.int IntKind.i64)] Try.prog 123 [Value.pointer p0, Value.int IntKind.i64 n1] w R :=
  fnV_sound (h := HT.z.sq
  (HT.z.sq
    (HT.jn [] HT.z
      (HT.z.sq
        ((HT.z.sq (HT.lp [((6 : Nat), Ty.one Sh.slice), ((7 : Nat), Ty.one (Sh.int IntKind.i64))] HT.z).bl).sq HT.z))))) Try.func123 (by kernel_rfl) (by kernel_rfl) (Eq.mp (by kernel_rfl) h)

/-- (*dunnage/dunnageref04.Disk).Flush -/
theorem dunnageref04_Disk_Flush.vc (p0 : Option Addr) (w : World) (R : Int → World → Prop)
  (h : onP p0 fun (a : Addr) =>
      ∃ (x : Bool),
        w.cell? (a.add (4 : Nat)) = some (Value.bool x) ∧
          cnd x (R (40 : Int) w)
            (CallT [Ty.one Sh.bool] Try.prog (167 : Nat) [Value.pointer p0] w fun (x : Bool) (w' : World) =>
              cnd x (R (40 : Int) w')
                (∃ (I : Nat → Int → World → Prop),
                  (∃ (n : Nat), I n (0 : Int) w') ∧
                    ∀ (n : Nat) (x : Int) (j : Nat → Value) (w' : World),
                      I n x w' →
                        onP p0 fun (a : Addr) =>
                          ∃ (x_1 : SV),
                            w'.cell? (a.add (2 : Nat)) = some (Value.slice x_1.a x_1.len x_1.cap) ∧
                              cnd (decide (x < (↑x_1.len : Int)))
                                (onP p0 fun (a : Addr) =>
                                  ∃ (x_2 : Option Nat),
                                    w'.drew.cell? (a.add (1 : Nat)) = some (Value.map x_2) ∧
                                      onP p0 fun (a : Addr) =>
                                        ∃ (x_3 : SV),
                                          w'.drew.cell? (a.add (2 : Nat)) = some (Value.slice x_3.a x_3.len x_3.cap) ∧
                                            (0 : Int) ≤ x ∧
                                              x < (↑x_3.len : Int) ∧
                                                onP x_3.a fun (A : Addr) =>
                                                  ∃ (x_4 : Int),
                                                    w'.drew.cell? ((A.add (x.toNat * (2 : Nat))).add (0 : Nat)) =
                                                        some (Value.int IntKind.i64 x_4) ∧
                                                      onP p0 fun (a : Addr) =>
                                                        ∃ (x_5 : SV),
                                                          w'.drew.cell? (a.add (2 : Nat)) =
                                                              some (Value.slice x_5.a x_5.len x_5.cap) ∧
                                                            (0 : Int) ≤ x ∧
                                                              x < (↑x_5.len : Int) ∧
                                                                onP x_5.a fun (A : Addr) =>
                                                                  ∃ (x_6 : SV),
                                                                    w'.drew.cell?
                                                                          ((A.add (x.toNat * (2 : Nat))).add (1 : Nat)) =
                                                                        some (Value.slice x_6.a x_6.len x_6.cap) ∧
                                                                      mupV Try.prog (170 : Nat) (Value.map x_2)
                                                                        (Value.int IntKind.i64 x_4)
                                                                        (Value.slice x_6.a x_6.len x_6.cap) w'.drew
                                                                        fun (w' : World) =>
                                                                        ∃ (m : Nat),
                                                                          m < n ∧ I m (IntKind.i64.wrap (x + (1 : Int))) w')
                                (onP p0 fun (a : Addr) =>
                                  (w'.cell? (a.add (2 : Nat))).isSome = true ∧
                                    w'.frozen? (a.add (2 : Nat)) = false ∧
                                      R (0 : Int) (w'.setCell (a.add (2 : Nat)) (Value.slice none (0 : Nat) (0 : Nat)))))))
  : CallT [Ty.one (Sh.int IntKind.i64)] Try.prog 124 [Value.pointer p0] w R :=
  fnV_sound (h := HT.z.sq
  (HT.z.sq
    (HT.z.sq
      ((HT.z.sq (HT.lp [((3 : Nat), Ty.one (Sh.int IntKind.i64))] (HT.z.sq ((HT.rg (20 : Nat)).bl.sq HT.z))).bl).sq
        HT.z)))) Try.func124 (by kernel_rfl) (by kernel_rfl) (Eq.mp (by kernel_rfl) h)

/-- (*dunnage/dunnageref04.Disk).Arm -/
theorem dunnageref04_Disk_Arm.vc (p0 : Option Addr) (n1 : Int) (w : World) (R : Int → World → Prop)
  (h : onP p0 fun (a : Addr) =>
      ∃ (x : Bool),
        w.cell? (a.add (4 : Nat)) = some (Value.bool x) ∧
          cnd x (R (40 : Int) w)
            (onP p0 fun (a : Addr) =>
              (w.cell? (a.add (3 : Nat))).isSome = true ∧
                w.frozen? (a.add (3 : Nat)) = false ∧
                  R (0 : Int) (w.setCell (a.add (3 : Nat)) (Value.int IntKind.i64 (max (0 : Int) n1)))))
  : CallT [Ty.one (Sh.int IntKind.i64)] Try.prog 125 [Value.pointer p0, Value.int IntKind.i64 n1] w R :=
  fnV_sound (h := HT.z) Try.func125 (by kernel_rfl) (by kernel_rfl) (Eq.mp (by kernel_rfl) h)

/-- dunnage/dunnagehelp.Own[bool] -/
theorem dunnagehelp_Own_bool.vc (s0 : SV) (b1 : Bool) (w : World) (R : SV → World → Prop)
  (h : mkSV Try.prog (39 : Nat) (Value.int IntKind.i64 (0 : Int))
      (Value.int IntKind.i64 (IntKind.i64.wrap ((↑s0.len : Int) + (3 : Int)))) w fun (s : SV) (w' : World) =>
      appV Try.prog [(39 : Nat), (39 : Nat)] (39 : Nat) [Value.slice s.a s.len s.cap, Value.slice s0.a s0.len s0.cap] w'
        fun (s : SV) (w' : World) =>
        (0 : Int) ≤ IntKind.i64.wrap ((↑s0.len : Int) + (3 : Int)) ∧
          IntKind.i64.wrap ((↑s0.len : Int) + (3 : Int)) ≤ (↑s.cap : Int) ∧
            ∃ (I : Nat → Int → World → Prop),
              (∃ (n : Nat), I n (↑s0.len : Int) w') ∧
                ∀ (n : Nat) (x : Int) (j : Nat → Value) (w' : World),
                  I n x w' →
                    let e1 := (↑((IntKind.i64.wrap ((↑s0.len : Int) + (3 : Int))).toNat - (0 : Nat)) : Int);
                    cnd (decide (x < e1))
                      ((0 : Int) ≤ x ∧
                        x < (↑((IntKind.i64.wrap ((↑s0.len : Int) + (3 : Int))).toNat - (0 : Nat)) : Int) ∧
                          onP (subA s.a (0 : Nat) (1 : Nat) s.cap) fun (A : Addr) =>
                            (w'.cell? (A.add (x.toNat * (1 : Nat)))).isSome = true ∧
                              w'.frozen? (A.add (x.toNat * (1 : Nat))) = false ∧
                                ∃ (m : Nat),
                                  m < n ∧
                                    I m (IntKind.i64.wrap (x + (1 : Int)))
                                      (w'.setCell (A.add (x.toNat * (1 : Nat))) (Value.bool b1)))
                      (R s w'))
  : CallT [Ty.one Sh.slice] Try.prog 126 [Value.slice s0.a s0.len s0.cap, Value.bool b1] w R :=
  fnV_sound (h := HT.z.sq (HT.z.sq (HT.z.sq (HT.z.sq ((HT.z.sq (HT.lp [((7 : Nat), Ty.one (Sh.int IntKind.i64))] HT.z).bl).sq HT.z))))) Try.func126 (by kernel_rfl) (by kernel_rfl) (Eq.mp (by kernel_rfl) h)

/-- (*dunnage/dunnageref04.Disk).Crash -/
theorem dunnageref04_Disk_Crash.vc (p0 : Option Addr) (s1 : SV) (w : World) (R : Int → World → Prop)
  (h : onP p0 fun (a : Addr) =>
      (w.cell? (a.add (4 : Nat))).isSome = true ∧
        w.frozen? (a.add (4 : Nat)) = false ∧
          ∃ (I : Nat → Int → World → Prop),
            (∃ (n : Nat), I n (0 : Int) (w.setCell (a.add (4 : Nat)) (Value.bool true))) ∧
              ∀ (n : Nat) (x : Int) (j : Nat → Value) (w' : World),
                I n x w' →
                  onP p0 fun (a : Addr) =>
                    ∃ (x_1 : SV),
                      w'.cell? (a.add (2 : Nat)) = some (Value.slice x_1.a x_1.len x_1.cap) ∧
                        cnd (decide (x < (↑x_1.len : Int)))
                          (∃ (R : Bool → World → Prop),
                            cnd (decide (x < (↑s1.len : Int)))
                                ((0 : Int) ≤ x ∧
                                  x < (↑s1.len : Int) ∧
                                    onP s1.a fun (A : Addr) =>
                                      ∃ (x_2 : Bool),
                                        w'.cell? (A.add (x.toNat * (1 : Nat))) = some (Value.bool x_2) ∧ R x_2 w')
                                (R false w') ∧
                              ∀ (x_2 : Bool) (j : Nat → Value) (w' : World),
                                R x_2 w' →
                                  cnd x_2
                                    (onP p0 fun (a : Addr) =>
                                      ∃ (x_3 : Option Nat),
                                        w'.drew.cell? (a.add (1 : Nat)) = some (Value.map x_3) ∧
                                          onP p0 fun (a : Addr) =>
                                            ∃ (x_4 : SV),
                                              w'.drew.cell? (a.add (2 : Nat)) = some (Value.slice x_4.a x_4.len x_4.cap) ∧
                                                (0 : Int) ≤ x ∧
                                                  x < (↑x_4.len : Int) ∧
                                                    onP x_4.a fun (A : Addr) =>
                                                      ∃ (x_5 : Int),
                                                        w'.drew.cell? ((A.add (x.toNat * (2 : Nat))).add (0 : Nat)) =
                                                            some (Value.int IntKind.i64 x_5) ∧
                                                          onP p0 fun (a : Addr) =>
                                                            ∃ (x_6 : SV),
                                                              w'.drew.cell? (a.add (2 : Nat)) =
                                                                  some (Value.slice x_6.a x_6.len x_6.cap) ∧
                                                                (0 : Int) ≤ x ∧
                                                                  x < (↑x_6.len : Int) ∧
                                                                    onP x_6.a fun (A : Addr) =>
                                                                      ∃ (x_7 : SV),
                                                                        w'.drew.cell?
                                                                              ((A.add (x.toNat * (2 : Nat))).add
                                                                                (1 : Nat)) =
                                                                            some (Value.slice x_7.a x_7.len x_7.cap) ∧
                                                                          mupV Try.prog (170 : Nat) (Value.map x_3)
                                                                            (Value.int IntKind.i64 x_5)
                                                                            (Value.slice x_7.a x_7.len x_7.cap) w'.drew
                                                                            fun (w' : World) =>
                                                                            ∃ (m : Nat),
                                                                              m < n ∧
                                                                                I m (IntKind.i64.wrap (x + (1 : Int))) w')
                                    (∃ (m : Nat), m < n ∧ I m (IntKind.i64.wrap (x + (1 : Int))) w'))
                          (onP p0 fun (a : Addr) =>
                            (w'.cell? (a.add (2 : Nat))).isSome = true ∧
                              w'.frozen? (a.add (2 : Nat)) = false ∧
                                R (0 : Int) (w'.setCell (a.add (2 : Nat)) (Value.slice none (0 : Nat) (0 : Nat)))))
  : CallT [Ty.one (Sh.int IntKind.i64)] Try.prog 127 [Value.pointer p0, Value.slice s1.a s1.len s1.cap] w R :=
  fnV_sound (h := HT.z.sq
  (HT.z.sq
    ((HT.z.sq
          (HT.lp [((5 : Nat), Ty.one (Sh.int IntKind.i64))]
              (HT.z.sq ((HT.jn [((27 : Nat), Ty.one Sh.bool)] HT.z ((HT.rg (20 : Nat)).cd HT.z)).bl.sq HT.z))).bl).sq
      HT.z))) Try.func127 (by kernel_rfl) (by kernel_rfl) (Eq.mp (by kernel_rfl) h)

/-- dunnage/dunnagehelp.Kept[bool] -/
theorem dunnagehelp_Kept_bool.vc (s0 : SV) (s1 : SV) (b2 : Bool) (w : World) (R : Bool → World → Prop)
  (h : ∃ (R_1 : PUnit → World → Prop),
      (CallT [Ty.one Sh.bool] Try.prog (168 : Nat) [Value.slice s0.a s0.len s0.cap, Value.slice s1.a s1.len s1.cap] w
          fun (x : Bool) (w' : World) =>
          cnd (!x) (R false w')
            (cnd (decide ((↑s0.cap : Int) < IntKind.i64.wrap ((↑s1.len : Int) + (3 : Int)))) (R false w') (R_1 () w'))) ∧
        ∀ (x : PUnit) (j : Nat → Value) (w' : World),
          R_1 x w' →
            (0 : Int) ≤ IntKind.i64.wrap ((↑s1.len : Int) + (3 : Int)) ∧
              IntKind.i64.wrap ((↑s1.len : Int) + (3 : Int)) ≤ (↑s0.cap : Int) ∧
                ∃ (I : Nat → Int → World → Prop),
                  (∃ (n : Nat), I n (↑s1.len : Int) w') ∧
                    ∀ (n : Nat) (x : Int) (j : Nat → Value) (w' : World),
                      I n x w' →
                        let e1 := (↑((IntKind.i64.wrap ((↑s1.len : Int) + (3 : Int))).toNat - (0 : Nat)) : Int);
                        cnd (decide (x < e1))
                          ((0 : Int) ≤ x ∧
                            x < (↑((IntKind.i64.wrap ((↑s1.len : Int) + (3 : Int))).toNat - (0 : Nat)) : Int) ∧
                              onP (subA s0.a (0 : Nat) (1 : Nat) s0.cap) fun (A : Addr) =>
                                ∃ (x_1 : Bool),
                                  w'.cell? (A.add (x.toNat * (1 : Nat))) = some (Value.bool x_1) ∧
                                    cnd (!x_1 == b2) (R false w')
                                      (∃ (m : Nat), m < n ∧ I m (IntKind.i64.wrap (x + (1 : Int))) w'))
                          (R true w'))
  : CallT [Ty.one Sh.bool] Try.prog 128 [Value.slice s0.a s0.len s0.cap, Value.slice s1.a s1.len s1.cap, Value.bool b2] w R :=
  fnV_sound (h := HT.z.sq (HT.jn [] HT.z (HT.z.sq ((HT.z.sq (HT.lp [((8 : Nat), Ty.one (Sh.int IntKind.i64))] HT.z).bl).sq HT.z)))) Try.func128 (by kernel_rfl) (by kernel_rfl) (Eq.mp (by kernel_rfl) h)

/-- (*dunnage/dunnageref04.Disk).Start -/
theorem dunnageref04_Disk_Start.vc (p0 : Option Addr) (w : World) (R : Int → World → Prop)
  (h : onP p0 fun (a : Addr) =>
      ∃ (x : Bool),
        w.cell? (a.add (4 : Nat)) = some (Value.bool x) ∧
          cnd x
            (onP p0 fun (a : Addr) =>
              (w.cell? (a.add (4 : Nat))).isSome = true ∧
                w.frozen? (a.add (4 : Nat)) = false ∧
                  let w1 := w.setCell (a.add (4 : Nat)) (Value.bool false);
                  onP p0 fun (a : Addr) =>
                    (w1.cell? (a.add (3 : Nat))).isSome = true ∧
                      w1.frozen? (a.add (3 : Nat)) = false ∧
                        let w1 := w1.setCell (a.add (3 : Nat)) (Value.int IntKind.i64 (0 : Int));
                        onP p0 fun (a : Addr) =>
                          (w1.cell? (a.add (2 : Nat))).isSome = true ∧
                            w1.frozen? (a.add (2 : Nat)) = false ∧
                              R (0 : Int) (w1.setCell (a.add (2 : Nat)) (Value.slice none (0 : Nat) (0 : Nat))))
            (R (0 : Int) w))
  : CallT [Ty.one (Sh.int IntKind.i64)] Try.prog 129 [Value.pointer p0] w R :=
  fnV_sound (h := HT.z) Try.func129 (by kernel_rfl) (by kernel_rfl) (Eq.mp (by kernel_rfl) h)

/-- (*dunnage/dunnageref04.Disk).Flip -/
theorem dunnageref04_Disk_Flip.vc (p0 : Option Addr) (n1 : Int) (n2 : Int) (w : World) (R : Int → World → Prop)
  (h : ∃ (R_1 : PUnit → World → Prop),
      cnd (decide (n1 < (0 : Int))) (R (1 : Int) w)
          (onP p0 fun (a : Addr) =>
            ∃ (x : Int),
              w.cell? (a.add (0 : Nat)) = some (Value.int IntKind.i64 x) ∧
                cnd (decide (n1 ≥ x)) (R (1 : Int) w)
                  (cnd (decide (n2 < (0 : Int))) (R (1 : Int) w)
                    (cnd (decide (n2 ≥ (4096 : Int))) (R (1 : Int) w) (R_1 () w)))) ∧
        ∀ (x : PUnit) (j : Nat → Value) (w' : World),
          R_1 x w' →
            CallT [Ty.one Sh.slice] Try.prog (166 : Nat) [Value.pointer p0, Value.int IntKind.i64 n1] w'
              fun (x : SV) (w' : World) =>
              (0 : Int) ≤ IntKind.i64.wrap (n2.tdiv (8 : Int)) ∧
                IntKind.i64.wrap (n2.tdiv (8 : Int)) < (↑x.len : Int) ∧
                  onP x.a fun (A : Addr) =>
                    ∃ (x_1 : Int),
                      w'.cell? (A.add ((IntKind.i64.wrap (n2.tdiv (8 : Int))).toNat * (1 : Nat))) =
                          some (Value.int IntKind.u8 x_1) ∧
                        (0 : Int) ≤ IntKind.u64.wrap (n2.tmod (8 : Int)) ∧
                          (0 : Int) ≤ IntKind.i64.wrap (n2.tdiv (8 : Int)) ∧
                            IntKind.i64.wrap (n2.tdiv (8 : Int)) < (↑x.len : Int) ∧
                              onP x.a fun (A : Addr) =>
                                (w'.cell? (A.add ((IntKind.i64.wrap (n2.tdiv (8 : Int))).toNat * (1 : Nat)))).isSome =
                                    true ∧
                                  w'.frozen? (A.add ((IntKind.i64.wrap (n2.tdiv (8 : Int))).toNat * (1 : Nat))) = false ∧
                                    let w1 :=
                                      w'.setCell (A.add ((IntKind.i64.wrap (n2.tdiv (8 : Int))).toNat * (1 : Nat)))
                                        (Value.int IntKind.u8
                                          (bxor IntKind.u8 x_1
                                            (shl IntKind.u8 (1 : Int) (IntKind.u64.wrap (n2.tmod (8 : Int))))));
                                    onP p0 fun (a : Addr) =>
                                      ∃ (x_2 : Option Nat),
                                        w1.cell? (a.add (1 : Nat)) = some (Value.map x_2) ∧
                                          mupV Try.prog (170 : Nat) (Value.map x_2) (Value.int IntKind.i64 n1)
                                            (Value.slice x.a x.len x.cap) w1 fun (w' : World) =>
                                            onP p0 fun (a : Addr) =>
                                              ∃ (x : Int),
                                                w'.cell? (a.add (5 : Nat)) = some (Value.int IntKind.i64 x) ∧
                                                  onP p0 fun (a : Addr) =>
                                                    (w'.cell? (a.add (5 : Nat))).isSome = true ∧
                                                      w'.frozen? (a.add (5 : Nat)) = false ∧
                                                        R (0 : Int)
                                                          (w'.setCell (a.add (5 : Nat))
                                                            (Value.int IntKind.i64 (IntKind.i64.wrap (x + (1 : Int))))))
  : CallT [Ty.one (Sh.int IntKind.i64)] Try.prog 130 [Value.pointer p0, Value.int IntKind.i64 n1, Value.int IntKind.i64 n2] w R :=
  fnV_sound (h := HT.z.sq (HT.jn [] HT.z HT.z)) Try.func130 (by kernel_rfl) (by kernel_rfl) (Eq.mp (by kernel_rfl) h)

/-- (*dunnage/dunnageref04.Disk).Write -/
theorem dunnageref04_Disk_Write.vc (p0 : Option Addr) (n1 : Int) (s2 : SV) (w : World) (R : Int → World → Prop)
  (h : onP p0 fun (a : Addr) =>
      ∃ (x : Bool),
        w.cell? (a.add (4 : Nat)) = some (Value.bool x) ∧
          cnd x (R (40 : Int) w)
            (∃ (R_1 : PUnit → World → Prop),
              cnd (decide (n1 < (0 : Int))) (R (1 : Int) w)
                  (onP p0 fun (a : Addr) =>
                    ∃ (x : Int),
                      w.cell? (a.add (0 : Nat)) = some (Value.int IntKind.i64 x) ∧
                        cnd (decide (n1 ≥ x)) (R (1 : Int) w)
                          (cnd ((↑s2.len : Int) != (512 : Int)) (R (1 : Int) w) (R_1 () w))) ∧
                ∀ (x : PUnit) (j : Nat → Value) (w' : World),
                  R_1 x w' →
                    ∃ (S : World → Prop),
                      S w'.drew ∧
                        onP p0 fun (a : Addr) =>
                          ∃ (x : SV),
                            (∀ (w : World), S w → w.cell? (a.add (2 : Nat)) = some (Value.slice x.a x.len x.cap)) ∧
                              appV Try.prog [(23 : Nat), (23 : Nat)] (23 : Nat)
                                [Value.slice none (0 : Nat) (0 : Nat), Value.slice s2.a s2.len s2.cap] w'.drew
                                fun (s : SV) (w' : World) =>
                                S w' ∧
                                  let w1 :=
                                    w'.alloc
                                      (Obj.cells #[Value.int IntKind.i64 n1, Value.slice s.a s.len s.cap] (215 : Nat));
                                  S w1 ∧
                                    appV Try.prog [(171 : Nat), (171 : Nat)] (171 : Nat)
                                      [Value.slice x.a x.len x.cap,
                                        Value.slice (some (Addr.mk w'.heap.size (0 : Nat) none)) (1 : Nat) (1 : Nat)]
                                      w1 fun (s : SV) (w' : World) =>
                                      onP p0 fun (a : Addr) =>
                                        (w'.cell? (a.add (2 : Nat))).isSome = true ∧
                                          w'.frozen? (a.add (2 : Nat)) = false ∧
                                            CallT [Ty.one Sh.bool] Try.prog (167 : Nat) [Value.pointer p0]
                                              (w'.setCell (a.add (2 : Nat)) (Value.slice s.a s.len s.cap))
                                              fun (x : Bool) (w' : World) => cnd x (R (40 : Int) w') (R (0 : Int) w')))
  : CallT [Ty.one (Sh.int IntKind.i64)] Try.prog 131 [Value.pointer p0, Value.int IntKind.i64 n1, Value.slice s2.a s2.len s2.cap] w R :=
  fnV_sound (h := HT.z.sq
  (HT.z.sq
    (HT.jn [] HT.z
      ((HT.dr
            (DT.take (0 : Nat)
              (DT.take (1 : Nat)
                (DT.take (2 : Nat)
                  (DT.take (3 : Nat)
                    (DT.take (4 : Nat)
                      (DT.take (5 : Nat)
                        (DT.take (6 : Nat)
                          (DT.alt (7 : Nat)
                            (DT.take (8 : Nat)
                              (DT.alt (9 : Nat)
                                (DT.alt (10 : Nat)
                                  (DT.take (11 : Nat) (DT.take (12 : Nat) (DT.alt (13 : Nat) DT.fin DT.fin))) DT.fin)
                                DT.fin))
                            DT.fin))))))))).sq
        HT.z)))) Try.func131 (by kernel_rfl) (by kernel_rfl) (Eq.mp (by kernel_rfl) h)

/-- dunnage/layout.Plan -/
theorem layout_Plan.vc (n0 : Int) (w : World) (R : (Int × Int × Int × Int × Int × Int × Int × Int × Int) × Int → World → Prop)
  (h : let w1 :=
      w.alloc
        (Obj.cells
          #[Value.int IntKind.i64 (0 : Int), Value.int IntKind.i64 (0 : Int), Value.int IntKind.i64 (0 : Int),
            Value.int IntKind.i64 (0 : Int), Value.int IntKind.i64 (0 : Int), Value.int IntKind.i64 (0 : Int),
            Value.int IntKind.i64 (0 : Int), Value.int IntKind.i64 (0 : Int), Value.int IntKind.i64 (0 : Int)]
          (83 : Nat));
    ∃ (R_1 : PUnit → World → Prop),
      (∃ (R_2 : Bool → World → Prop),
          cnd (decide (n0 < (256 : Int))) (R_2 true w1) (R_2 (decide (n0 > (65536 : Int))) w1) ∧
            ∀ (x : Bool) (j : Nat → Value) (w' : World),
              R_2 x w' →
                cnd x
                  (canSt w' (Addr.mk w.heap.size (0 : Nat) none) (9 : Nat) ∧
                    let w1 :=
                      setCells w' (Addr.mk w.heap.size (0 : Nat) none) (0 : Nat)
                        [Value.int IntKind.i64 (0 : Int), Value.int IntKind.i64 (0 : Int), Value.int IntKind.i64 (0 : Int),
                          Value.int IntKind.i64 (0 : Int), Value.int IntKind.i64 (0 : Int), Value.int IntKind.i64 (0 : Int),
                          Value.int IntKind.i64 (0 : Int), Value.int IntKind.i64 (0 : Int),
                          Value.int IntKind.i64 (0 : Int)];
                    ∃ (x : Int × Int × Int × Int × Int × Int × Int × Int × Int),
                      cellsAt w1 (Addr.mk w.heap.size (0 : Nat) none)
                          [Value.int IntKind.i64 x.fst, Value.int IntKind.i64 x.snd.fst,
                            Value.int IntKind.i64 x.snd.snd.fst, Value.int IntKind.i64 x.snd.snd.snd.fst,
                            Value.int IntKind.i64 x.snd.snd.snd.snd.fst, Value.int IntKind.i64 x.snd.snd.snd.snd.snd.fst,
                            Value.int IntKind.i64 x.snd.snd.snd.snd.snd.snd.fst,
                            Value.int IntKind.i64 x.snd.snd.snd.snd.snd.snd.snd.fst,
                            Value.int IntKind.i64 x.snd.snd.snd.snd.snd.snd.snd.snd] ∧
                        R
                          ((x.fst, x.snd.fst, x.snd.snd.fst, x.snd.snd.snd.fst, x.snd.snd.snd.snd.fst,
                              x.snd.snd.snd.snd.snd.fst, x.snd.snd.snd.snd.snd.snd.fst, x.snd.snd.snd.snd.snd.snd.snd.fst,
                              x.snd.snd.snd.snd.snd.snd.snd.snd),
                            (1 : Int))
                          w1)
                  (R_1 () w')) ∧
        ∀ (x : PUnit) (j : Nat → Value) (w' : World),
          R_1 x w' →
            let e1 := IntKind.i64.wrap ((3 : Int) * IntKind.i64.wrap ((IntKind.i64.wrap (n0 - (13 : Int))).tdiv (8 : Int)));
            canSt w' (Addr.mk w.heap.size (0 : Nat) none) (9 : Nat) ∧
              let w1 :=
                setCells w' (Addr.mk w.heap.size (0 : Nat) none) (0 : Nat)
                  [Value.int IntKind.i64 n0, Value.int IntKind.i64 (3 : Int), Value.int IntKind.i64 (13 : Int),
                    Value.int IntKind.i64 (IntKind.i64.wrap ((IntKind.i64.wrap (n0 - (13 : Int))).tdiv (8 : Int))),
                    Value.int IntKind.i64
                      (IntKind.i64.wrap
                        ((13 : Int) + IntKind.i64.wrap ((IntKind.i64.wrap (n0 - (13 : Int))).tdiv (8 : Int)))),
                    Value.int IntKind.i64
                      (IntKind.i64.wrap
                        ((13 : Int) +
                          IntKind.i64.wrap
                            ((2 : Int) * IntKind.i64.wrap ((IntKind.i64.wrap (n0 - (13 : Int))).tdiv (8 : Int))))),
                    Value.int IntKind.i64 (IntKind.i64.wrap ((IntKind.i64.wrap (n0 - (13 : Int))).tdiv (8 : Int))),
                    Value.int IntKind.i64 (IntKind.i64.wrap ((13 : Int) + e1)),
                    Value.int IntKind.i64
                      (IntKind.i64.wrap ((IntKind.i64.wrap (n0 - IntKind.i64.wrap ((13 : Int) + e1))).tdiv (32 : Int)))];
              ∃ (x : Int × Int × Int × Int × Int × Int × Int × Int × Int),
                cellsAt w1 (Addr.mk w.heap.size (0 : Nat) none)
                    [Value.int IntKind.i64 x.fst, Value.int IntKind.i64 x.snd.fst, Value.int IntKind.i64 x.snd.snd.fst,
                      Value.int IntKind.i64 x.snd.snd.snd.fst, Value.int IntKind.i64 x.snd.snd.snd.snd.fst,
                      Value.int IntKind.i64 x.snd.snd.snd.snd.snd.fst, Value.int IntKind.i64 x.snd.snd.snd.snd.snd.snd.fst,
                      Value.int IntKind.i64 x.snd.snd.snd.snd.snd.snd.snd.fst,
                      Value.int IntKind.i64 x.snd.snd.snd.snd.snd.snd.snd.snd] ∧
                  R
                    ((x.fst, x.snd.fst, x.snd.snd.fst, x.snd.snd.snd.fst, x.snd.snd.snd.snd.fst, x.snd.snd.snd.snd.snd.fst,
                        x.snd.snd.snd.snd.snd.snd.fst, x.snd.snd.snd.snd.snd.snd.snd.fst,
                        x.snd.snd.snd.snd.snd.snd.snd.snd),
                      (0 : Int))
                    w1)
  : CallT [Ty.agg
    [Sh.int IntKind.i64, Sh.int IntKind.i64, Sh.int IntKind.i64, Sh.int IntKind.i64, Sh.int IntKind.i64,
      Sh.int IntKind.i64, Sh.int IntKind.i64, Sh.int IntKind.i64, Sh.int IntKind.i64],
  Ty.one (Sh.int IntKind.i64)] Try.prog 132 [Value.int IntKind.i64 n0] w R :=
  fnV_sound (h := HT.z.sq (HT.jn [] (HT.jn [((11 : Nat), Ty.one Sh.bool)] HT.z HT.z) HT.z)) Try.func132 (by kernel_rfl) (by kernel_rfl) (Eq.mp (by kernel_rfl) h)

/-- dunnage/sector.Good -/
theorem sector_Good.vc (s0 : SV) (w : World) (R : Bool → World → Prop)
  (h : CallT [Ty.agg [Sh.int IntKind.u8, Sh.int IntKind.u64, Sh.slice], Ty.one (Sh.int IntKind.i64)] Try.prog (138 : Nat)
      [Value.slice s0.a s0.len s0.cap] w fun (x : (Int × Int × SV) × Int) (w' : World) =>
      let w1 :=
        w'.alloc
          (Obj.cells
            #[Value.int IntKind.u8 (0 : Int), Value.int IntKind.u64 (0 : Int), Value.slice none (0 : Nat) (0 : Nat)]
            (184 : Nat));
      canSt w1 (Addr.mk w'.heap.size (0 : Nat) none) (3 : Nat) ∧
        R (x.snd == (0 : Int))
          (setCells w1 (Addr.mk w'.heap.size (0 : Nat) none) (0 : Nat)
            [Value.int IntKind.u8 x.fst.fst, Value.int IntKind.u64 x.fst.snd.fst,
              Value.slice x.fst.snd.snd.a x.fst.snd.snd.len x.fst.snd.snd.cap]))
  : CallT [Ty.one Sh.bool] Try.prog 133 [Value.slice s0.a s0.len s0.cap] w R :=
  fnV_sound (h := HT.z) Try.func133 (by kernel_rfl) (by kernel_rfl) (Eq.mp (by kernel_rfl) h)

/-- dunnage/layout.Region -/
theorem layout_Region.vc (x0 : Int × Int × Int × Int × Int × Int × Int × Int × Int) (n1 : Int) (w : World) (R : Int → World → Prop)
  (h : let w1 :=
      w.alloc
        (Obj.cells
          #[Value.int IntKind.i64 x0.fst, Value.int IntKind.i64 x0.snd.fst, Value.int IntKind.i64 x0.snd.snd.fst,
            Value.int IntKind.i64 x0.snd.snd.snd.fst, Value.int IntKind.i64 x0.snd.snd.snd.snd.fst,
            Value.int IntKind.i64 x0.snd.snd.snd.snd.snd.fst, Value.int IntKind.i64 x0.snd.snd.snd.snd.snd.snd.fst,
            Value.int IntKind.i64 x0.snd.snd.snd.snd.snd.snd.snd.fst,
            Value.int IntKind.i64 x0.snd.snd.snd.snd.snd.snd.snd.snd]
          (83 : Nat));
    ∃ (x : Int × Int × Int × Int × Int × Int × Int × Int × Int),
      cellsAt w1 (Addr.mk w.heap.size (0 : Nat) none)
          [Value.int IntKind.i64 x.fst, Value.int IntKind.i64 x.snd.fst, Value.int IntKind.i64 x.snd.snd.fst,
            Value.int IntKind.i64 x.snd.snd.snd.fst, Value.int IntKind.i64 x.snd.snd.snd.snd.fst,
            Value.int IntKind.i64 x.snd.snd.snd.snd.snd.fst, Value.int IntKind.i64 x.snd.snd.snd.snd.snd.snd.fst,
            Value.int IntKind.i64 x.snd.snd.snd.snd.snd.snd.snd.fst,
            Value.int IntKind.i64 x.snd.snd.snd.snd.snd.snd.snd.snd] ∧
        CallT [Ty.one Sh.slice] Try.prog (169 : Nat)
          [Value.agg
              #[Value.int IntKind.i64 x.fst, Value.int IntKind.i64 x.snd.fst, Value.int IntKind.i64 x.snd.snd.fst,
                Value.int IntKind.i64 x.snd.snd.snd.fst, Value.int IntKind.i64 x.snd.snd.snd.snd.fst,
                Value.int IntKind.i64 x.snd.snd.snd.snd.snd.fst, Value.int IntKind.i64 x.snd.snd.snd.snd.snd.snd.fst,
                Value.int IntKind.i64 x.snd.snd.snd.snd.snd.snd.snd.fst,
                Value.int IntKind.i64 x.snd.snd.snd.snd.snd.snd.snd.snd]]
          w1 fun (x : SV) (w' : World) =>
          ∃ (I : Nat → Int → World → Prop),
            (∃ (n : Nat), I n (0 : Int) w') ∧
              ∀ (n : Nat) (x_1 : Int) (j : Nat → Value) (w' : World),
                I n x_1 w' →
                  ∃ (R_1 : PUnit → World → Prop),
                    cnd (decide (x_1 < (↑x.len : Int)))
                        (cnd (decide (n1 ≥ (0 : Int)))
                          (∃ (x : Int),
                            w'.cell? ((Addr.mk w.heap.size (0 : Nat) none).add (0 : Nat)) = some (Value.int IntKind.i64 x) ∧
                              cnd (decide (n1 < x)) (R_1 () w') (R (0 : Int) w'))
                          (R (0 : Int) w'))
                        (R (0 : Int) w') ∧
                      ∀ (x_2 : PUnit) (j : Nat → Value) (w' : World),
                        R_1 x_2 w' →
                          (0 : Int) ≤ x_1 ∧
                            x_1 < (↑x.len : Int) ∧
                              onP x.a fun (A : Addr) =>
                                ∃ (x : Int × Int × Int),
                                  cellsAt w' (A.add (x_1.toNat * (3 : Nat)))
                                      [Value.int IntKind.i64 x.fst, Value.int IntKind.i64 x.snd.fst,
                                        Value.int IntKind.i64 x.snd.snd] ∧
                                    let w1 :=
                                      w'.alloc
                                        (Obj.cells
                                          #[Value.int IntKind.i64 (0 : Int), Value.int IntKind.i64 (0 : Int),
                                            Value.int IntKind.i64 (0 : Int)]
                                          (220 : Nat));
                                    canSt w1 (Addr.mk w'.heap.size (0 : Nat) none) (3 : Nat) ∧
                                      let w1 :=
                                        setCells w1 (Addr.mk w'.heap.size (0 : Nat) none) (0 : Nat)
                                          [Value.int IntKind.i64 x.fst, Value.int IntKind.i64 x.snd.fst,
                                            Value.int IntKind.i64 x.snd.snd];
                                      ∃ (x : Int),
                                        w1.cell? ((Addr.mk w'.heap.size (0 : Nat) none).add (1 : Nat)) =
                                            some (Value.int IntKind.i64 x) ∧
                                          cnd (decide (n1 ≥ x))
                                            (∃ (x : Int),
                                              w1.cell? ((Addr.mk w'.heap.size (0 : Nat) none).add (1 : Nat)) =
                                                  some (Value.int IntKind.i64 x) ∧
                                                ∃ (x_3 : Int),
                                                  w1.cell? ((Addr.mk w'.heap.size (0 : Nat) none).add (2 : Nat)) =
                                                      some (Value.int IntKind.i64 x_3) ∧
                                                    cnd (decide (n1 < IntKind.i64.wrap (x + x_3)))
                                                      (∃ (x : Int),
                                                        w1.cell? ((Addr.mk w'.heap.size (0 : Nat) none).add (0 : Nat)) =
                                                            some (Value.int IntKind.i64 x) ∧
                                                          R x w1)
                                                      (∃ (m : Nat), m < n ∧ I m (IntKind.i64.wrap (x_1 + (1 : Int))) w1))
                                            (∃ (m : Nat), m < n ∧ I m (IntKind.i64.wrap (x_1 + (1 : Int))) w1))
  : CallT [Ty.one (Sh.int IntKind.i64)] Try.prog 134 [Value.agg
    #[Value.int IntKind.i64 x0.fst, Value.int IntKind.i64 x0.snd.fst, Value.int IntKind.i64 x0.snd.snd.fst,
      Value.int IntKind.i64 x0.snd.snd.snd.fst, Value.int IntKind.i64 x0.snd.snd.snd.snd.fst,
      Value.int IntKind.i64 x0.snd.snd.snd.snd.snd.fst, Value.int IntKind.i64 x0.snd.snd.snd.snd.snd.snd.fst,
      Value.int IntKind.i64 x0.snd.snd.snd.snd.snd.snd.snd.fst,
      Value.int IntKind.i64 x0.snd.snd.snd.snd.snd.snd.snd.snd],
  Value.int IntKind.i64 n1] w R :=
  fnV_sound (h := HT.z.sq (HT.z.sq ((HT.z.sq (HT.lp [((6 : Nat), Ty.one (Sh.int IntKind.i64))] (HT.jn [] HT.z HT.z)).bl).sq HT.z))) Try.func134 (by kernel_rfl) (by kernel_rfl) (Eq.mp (by kernel_rfl) h)

end Go.Proofs
