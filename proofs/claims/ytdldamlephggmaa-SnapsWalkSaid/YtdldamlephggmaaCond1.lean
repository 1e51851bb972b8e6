/- The conditions of the seat's functions, written by a program (VcTool, genvc.py) off 'vc' reduced; each is tied to 'vc' by the kernel. Conditions: none. -/
import Derived.Test.YtdldamlephggmaaVcSound5
import Derived.Test.YtdldamlephggmaaProg
set_option linter.unusedVariables false
set_option maxRecDepth 100000
namespace Go.Proofs
open Go Go.Vc
/-- dunnage/dunnagelaw19.SnapsWalk -/
theorem dunnagelaw19_SnapsWalk.vc (s0 : SV) (w : World) (R : Bool → World → Prop)
  (h : let w1 := w.alloc (Obj.cells #[Value.int IntKind.i64 (0 : Int), Value.slice none (0 : Nat) (0 : Nat)] (46 : Nat));
    canSt w1 (Addr.mk w.heap.size (0 : Nat) none) (2 : Nat) ∧
      CallT [Ty.one Sh.bool] Try.prog (29 : Nat) []
        (setCells w1 (Addr.mk w.heap.size (0 : Nat) none) (0 : Nat)
          [Value.int IntKind.i64 (1 : Int), Value.slice none (0 : Nat) (0 : Nat)])
        fun (x : Bool) (w' : World) =>
        cnd (!x) (R false w')
          (∃ (R_1 : PUnit → World → Prop),
            (∃ (I : Nat → Int × Int → World → Prop),
                (∃ (n : Nat), I n ((0 : Int), (0 : Int)) w') ∧
                  ∀ (n : Nat) (x : Int × Int) (j : Nat → Value) (w' : World),
                    I n x w' →
                      ∃ (R_2 : PUnit → World → Prop),
                        (let e1 := x.snd;
                          cnd (decide (e1 < (↑s0.len : Int)))
                            (let e1 := x.snd;
                            cnd (decide (e1 < (300 : Int))) (R_2 () w') (R_1 () w'))
                            (R_1 () w')) ∧
                          ∀ (x_1 : PUnit) (j : Nat → Value) (w' : World),
                            R_2 x_1 w' →
                              let e1 := x.snd;
                              (0 : Int) ≤ e1 ∧
                                e1 < (↑s0.len : Int) ∧
                                  onP s0.a fun (A : Addr) =>
                                    ∃ (x_2 : Int),
                                      w'.cell? (A.add (e1.toNat * (1 : Nat))) = some (Value.int IntKind.i64 x_2) ∧
                                        cnd (decide (x_2 > (0 : Int)))
                                          (∃ (S : World → Prop),
                                            S w'.drew ∧
                                              ∃ (x_3 : Int × SV),
                                                (∀ (w_1 : World),
                                                    S w_1 →
                                                      cellsAt w_1 (Addr.mk w.heap.size (0 : Nat) none)
                                                        [Value.int IntKind.i64 x_3.fst,
                                                          Value.slice x_3.snd.a x_3.snd.len x_3.snd.cap]) ∧
                                                  let e1 := x.snd;
                                                  (0 : Int) ≤ e1 ∧
                                                    e1 < (↑s0.len : Int) ∧
                                                      onP s0.a fun (A : Addr) =>
                                                        ∃ (x_4 : Int),
                                                          (∀ (w : World),
                                                              S w →
                                                                w.cell? (A.add (e1.toNat * (1 : Nat))) =
                                                                  some (Value.int IntKind.i64 x_4)) ∧
                                                            CallT [Ty.one (Sh.int IntKind.i64), Ty.one Sh.bool] Try.prog
                                                              (27 : Nat)
                                                              [Value.agg
                                                                  #[Value.int IntKind.i64 x_3.fst,
                                                                    Value.slice x_3.snd.a x_3.snd.len x_3.snd.cap],
                                                                Value.int IntKind.i64 x_4]
                                                              w'.drew fun (x_5 : Int × Bool) (w' : World) =>
                                                              ∃ (R_3 : Option Addr × Int × Int → World → Prop),
                                                                (∃ (S : World → Prop),
                                                                    S w'.drew ∧
                                                                      ∃ (x_6 : Int × SV),
                                                                        (∀ (w_1 : World),
                                                                            S w_1 →
                                                                              cellsAt w_1
                                                                                (Addr.mk w.heap.size (0 : Nat) none)
                                                                                [Value.int IntKind.i64 x_6.fst,
                                                                                  Value.slice x_6.snd.a x_6.snd.len
                                                                                    x_6.snd.cap]) ∧
                                                                          let e1 := x.snd;
                                                                          (0 : Int) ≤ e1 ∧
                                                                            e1 < (↑s0.len : Int) ∧
                                                                              onP s0.a fun (A : Addr) =>
                                                                                ∃ (x : Int),
                                                                                  (∀ (w : World),
                                                                                      S w →
                                                                                        w.cell?
                                                                                            (A.add (e1.toNat * (1 : Nat))) =
                                                                                          some (Value.int IntKind.i64 x)) ∧
                                                                                    (CallT
                                                                                        [Ty.agg
                                                                                            [Sh.int IntKind.i64, Sh.slice],
                                                                                          Ty.one (Sh.int IntKind.i64),
                                                                                          Ty.one (Sh.int IntKind.i64)]
                                                                                        Try.prog (25 : Nat)
                                                                                        [Value.agg
                                                                                            #[Value.int IntKind.i64 x_6.fst,
                                                                                              Value.slice x_6.snd.a
                                                                                                x_6.snd.len x_6.snd.cap],
                                                                                          Value.int IntKind.i64 x]
                                                                                        w'.drew
                                                                                        fun (x : (Int × SV) × Int × Int)
                                                                                          (w' : World) =>
                                                                                        let w1 :=
                                                                                          w'.alloc
                                                                                            (Obj.cells
                                                                                              #[Value.int IntKind.i64
                                                                                                  (0 : Int),
                                                                                                Value.slice none (0 : Nat)
                                                                                                  (0 : Nat)]
                                                                                              (46 : Nat));
                                                                                        S w1 ∧
                                                                                          canSt w1
                                                                                              (Addr.mk w'.heap.size
                                                                                                (0 : Nat) none)
                                                                                              (2 : Nat) ∧
                                                                                            R_3
                                                                                              (some
                                                                                                  (Addr.mk w'.heap.size
                                                                                                    (0 : Nat) none),
                                                                                                x.snd.fst, x.snd.snd)
                                                                                              (setCells w1
                                                                                                (Addr.mk w'.heap.size
                                                                                                  (0 : Nat) none)
                                                                                                (0 : Nat)
                                                                                                [Value.int IntKind.i64
                                                                                                    x.fst.fst,
                                                                                                  Value.slice x.fst.snd.a
                                                                                                    x.fst.snd.len
                                                                                                    x.fst.snd.cap])) ∧
                                                                                      let w1 :=
                                                                                        w'.drew.alloc
                                                                                          (Obj.cells
                                                                                            #[Value.int IntKind.i64
                                                                                                (0 : Int),
                                                                                              Value.slice none (0 : Nat)
                                                                                                (0 : Nat)]
                                                                                            (46 : Nat));
                                                                                      S w1 ∧
                                                                                        CallT
                                                                                          [Ty.agg
                                                                                              [Sh.int IntKind.i64,
                                                                                                Sh.slice],
                                                                                            Ty.one (Sh.int IntKind.i64),
                                                                                            Ty.one (Sh.int IntKind.i64)]
                                                                                          Try.prog (25 : Nat)
                                                                                          [Value.agg
                                                                                              #[Value.int IntKind.i64
                                                                                                  x_6.fst,
                                                                                                Value.slice x_6.snd.a
                                                                                                  x_6.snd.len x_6.snd.cap],
                                                                                            Value.int IntKind.i64 x]
                                                                                          w1
                                                                                          fun (x : (Int × SV) × Int × Int)
                                                                                            (w'_1 : World) =>
                                                                                          canSt w'_1
                                                                                              (Addr.mk w'.drew.heap.size
                                                                                                (0 : Nat) none)
                                                                                              (2 : Nat) ∧
                                                                                            R_3
                                                                                              (some
                                                                                                  (Addr.mk w'.drew.heap.size
                                                                                                    (0 : Nat) none),
                                                                                                x.snd.fst, x.snd.snd)
                                                                                              (setCells w'_1
                                                                                                (Addr.mk w'.drew.heap.size
                                                                                                  (0 : Nat) none)
                                                                                                (0 : Nat)
                                                                                                [Value.int IntKind.i64
                                                                                                    x.fst.fst,
                                                                                                  Value.slice x.fst.snd.a
                                                                                                    x.fst.snd.len
                                                                                                    x.fst.snd.cap])) ∧
                                                                  ∀ (x_6 : Option Addr × Int × Int) (j : Nat → Value)
                                                                    (w' : World),
                                                                    R_3 x_6 w' →
                                                                      ∃ (R_4 : PUnit → World → Prop),
                                                                        cnd (!x_5.snd == (x_6.snd.snd == (0 : Int)))
                                                                            (R false w')
                                                                            (cnd (!x_5.snd)
                                                                              (cnd (x_6.snd.snd != (6 : Int)) (R false w')
                                                                                (cnd x_5.snd
                                                                                  (let e1 := x_6.snd.fst;
                                                                                  cnd (decide (e1 < (1 : Int))) (R false w')
                                                                                    (let e1 := x_6.snd.fst;
                                                                                    cnd (decide (e1 > (8 : Int)))
                                                                                      (R false w')
                                                                                      (onP x_6.fst fun (A : Addr) =>
                                                                                        ∃ (x : SV),
                                                                                          w'.cell? (A.add (1 : Nat)) =
                                                                                              some
                                                                                                (Value.slice x.a x.len
                                                                                                  x.cap) ∧
                                                                                            ∃ (x_7 : SV),
                                                                                              w'.cell?
                                                                                                    ((Addr.mk w.heap.size
                                                                                                          (0 : Nat)
                                                                                                          none).add
                                                                                                      (1 : Nat)) =
                                                                                                  some
                                                                                                    (Value.slice x_7.a
                                                                                                      x_7.len x_7.cap) ∧
                                                                                                cnd
                                                                                                  ((↑x.len : Int) !=
                                                                                                    IntKind.i64.wrap
                                                                                                      ((↑x_7.len : Int) -
                                                                                                        (1 : Int)))
                                                                                                  (R false w')
                                                                                                  (R_4 () w'))))
                                                                                  (R_4 () w')))
                                                                              (cnd x_5.snd
                                                                                (let e1 := x_6.snd.fst;
                                                                                cnd (decide (e1 < (1 : Int))) (R false w')
                                                                                  (let e1 := x_6.snd.fst;
                                                                                  cnd (decide (e1 > (8 : Int))) (R false w')
                                                                                    (onP x_6.fst fun (A : Addr) =>
                                                                                      ∃ (x : SV),
                                                                                        w'.cell? (A.add (1 : Nat)) =
                                                                                            some
                                                                                              (Value.slice x.a x.len
                                                                                                x.cap) ∧
                                                                                          ∃ (x_7 : SV),
                                                                                            w'.cell?
                                                                                                  ((Addr.mk w.heap.size
                                                                                                        (0 : Nat) none).add
                                                                                                    (1 : Nat)) =
                                                                                                some
                                                                                                  (Value.slice x_7.a x_7.len
                                                                                                    x_7.cap) ∧
                                                                                              cnd
                                                                                                ((↑x.len : Int) !=
                                                                                                  IntKind.i64.wrap
                                                                                                    ((↑x_7.len : Int) -
                                                                                                      (1 : Int)))
                                                                                                (R false w') (R_4 () w'))))
                                                                                (R_4 () w'))) ∧
                                                                          ∀ (x_7 : PUnit) (j : Nat → Value) (w' : World),
                                                                            R_4 x_7 w' →
                                                                              cnd x_5.snd
                                                                                (onP x_6.fst fun (A : Addr) =>
                                                                                  ∃ (x_8 : Int × SV),
                                                                                    cellsAt w' A
                                                                                        [Value.int IntKind.i64 x_8.fst,
                                                                                          Value.slice x_8.snd.a x_8.snd.len
                                                                                            x_8.snd.cap] ∧
                                                                                      canSt w'
                                                                                          (Addr.mk w.heap.size (0 : Nat)
                                                                                            none)
                                                                                          (2 : Nat) ∧
                                                                                        ∃ (m : Nat),
                                                                                          m < n ∧
                                                                                            I m
                                                                                              (x.fst,
                                                                                                IntKind.i64.wrap
                                                                                                  (x.snd + (1 : Int)))
                                                                                              (setCells w'
                                                                                                (Addr.mk w.heap.size
                                                                                                  (0 : Nat) none)
                                                                                                (0 : Nat)
                                                                                                [Value.int IntKind.i64
                                                                                                    x_8.fst,
                                                                                                  Value.slice x_8.snd.a
                                                                                                    x_8.snd.len
                                                                                                    x_8.snd.cap]))
                                                                                (∃ (m : Nat),
                                                                                  m < n ∧
                                                                                    I m
                                                                                      (x.fst,
                                                                                        IntKind.i64.wrap
                                                                                          (x.snd + (1 : Int)))
                                                                                      w'))
                                          (∃ (x_3 : Int × SV),
                                            cellsAt w' (Addr.mk w.heap.size (0 : Nat) none)
                                                [Value.int IntKind.i64 x_3.fst,
                                                  Value.slice x_3.snd.a x_3.snd.len x_3.snd.cap] ∧
                                              CallT
                                                [Ty.agg [Sh.int IntKind.i64, Sh.slice],
                                                  Ty.agg [Sh.int IntKind.i64, Sh.int IntKind.i64],
                                                  Ty.one (Sh.int IntKind.i64)]
                                                Try.prog (23 : Nat)
                                                [Value.agg
                                                    #[Value.int IntKind.i64 x_3.fst,
                                                      Value.slice x_3.snd.a x_3.snd.len x_3.snd.cap]]
                                                w' fun (x_4 : (Int × SV) × (Int × Int) × Int) (w' : World) =>
                                                let e1 := x_4.snd.snd;
                                                let w1 :=
                                                  w'.alloc
                                                    (Obj.cells
                                                      #[Value.int IntKind.i64 (0 : Int),
                                                        Value.slice none (0 : Nat) (0 : Nat)]
                                                      (46 : Nat));
                                                let w1_1 :=
                                                  w1.alloc
                                                    (Obj.cells
                                                      #[Value.int IntKind.i64 (0 : Int), Value.int IntKind.i64 (0 : Int)]
                                                      (49 : Nat));
                                                canSt w1_1 (Addr.mk w'.heap.size (0 : Nat) none) (2 : Nat) ∧
                                                  let w1_2 :=
                                                    setCells w1_1 (Addr.mk w'.heap.size (0 : Nat) none) (0 : Nat)
                                                      [Value.int IntKind.i64 x_4.fst.fst,
                                                        Value.slice x_4.fst.snd.a x_4.fst.snd.len x_4.fst.snd.cap];
                                                  canSt w1_2 (Addr.mk w1.heap.size (0 : Nat) none) (2 : Nat) ∧
                                                    let w1_3 :=
                                                      setCells w1_2 (Addr.mk w1.heap.size (0 : Nat) none) (0 : Nat)
                                                        [Value.int IntKind.i64 x_4.snd.fst.fst,
                                                          Value.int IntKind.i64 x_4.snd.fst.snd];
                                                    ∃ (x_5 : SV),
                                                      w1_3.cell? ((Addr.mk w.heap.size (0 : Nat) none).add (1 : Nat)) =
                                                          some (Value.slice x_5.a x_5.len x_5.cap) ∧
                                                        cnd ((↑x_5.len : Int) == (8 : Int))
                                                          (cnd (e1 != (3 : Int)) (R false w1_3)
                                                            (∃ (m : Nat),
                                                              m < n ∧
                                                                I m (x.fst, IntKind.i64.wrap (x.snd + (1 : Int))) w1_3))
                                                          (∃ (I_1 : Nat → Int → World → Prop),
                                                            (∃ (n : Nat), I_1 n (0 : Int) w1_3) ∧
                                                              ∀ (n_1 : Nat) (x_6 : Int) (j : Nat → Value) (w'_1 : World),
                                                                I_1 n_1 x_6 w'_1 →
                                                                  ∃ (x_7 : SV),
                                                                    w'_1.cell?
                                                                          ((Addr.mk w.heap.size (0 : Nat) none).add
                                                                            (1 : Nat)) =
                                                                        some (Value.slice x_7.a x_7.len x_7.cap) ∧
                                                                      cnd (decide (x_6 < (↑x_7.len : Int)))
                                                                        (∃ (x : SV),
                                                                          w'_1.drew.cell?
                                                                                ((Addr.mk w.heap.size (0 : Nat) none).add
                                                                                  (1 : Nat)) =
                                                                              some (Value.slice x.a x.len x.cap) ∧
                                                                            (0 : Int) ≤ x_6 ∧
                                                                              x_6 < (↑x.len : Int) ∧
                                                                                onP x.a fun (A : Addr) =>
                                                                                  ∃ (x : Int),
                                                                                    w'_1.drew.cell?
                                                                                          ((A.add
                                                                                                (x_6.toNat * (2 : Nat))).add
                                                                                            (1 : Nat)) =
                                                                                        some (Value.int IntKind.i64 x) ∧
                                                                                      ∃ (x_8 : Int),
                                                                                        w'_1.drew.cell?
                                                                                              ((Addr.mk w1.heap.size
                                                                                                    (0 : Nat) none).add
                                                                                                (1 : Nat)) =
                                                                                            some
                                                                                              (Value.int IntKind.i64 x_8) ∧
                                                                                          cnd (x == x_8) (R false w'_1.drew)
                                                                                            (∃ (m : Nat),
                                                                                              m < n_1 ∧
                                                                                                I_1 m
                                                                                                  (IntKind.i64.wrap
                                                                                                    (x_6 + (1 : Int)))
                                                                                                  w'_1.drew))
                                                                        (cnd (e1 != (0 : Int)) (R false w'_1)
                                                                          (∃ (x_8 : Int),
                                                                            w'_1.cell?
                                                                                  ((Addr.mk w1.heap.size (0 : Nat) none).add
                                                                                    (0 : Nat)) =
                                                                                some (Value.int IntKind.i64 x_8) ∧
                                                                              let e1 := x.fst;
                                                                              cnd (decide (x_8 ≤ e1)) (R false w'_1)
                                                                                (∃ (x_9 : Int × SV),
                                                                                  cellsAt w'_1
                                                                                      (Addr.mk w'.heap.size (0 : Nat) none)
                                                                                      [Value.int IntKind.i64 x_9.fst,
                                                                                        Value.slice x_9.snd.a x_9.snd.len
                                                                                          x_9.snd.cap] ∧
                                                                                    CallT [Ty.one (Sh.int IntKind.i64)]
                                                                                      Try.prog (30 : Nat)
                                                                                      [Value.agg
                                                                                          #[Value.int IntKind.i64 x_9.fst,
                                                                                            Value.slice x_9.snd.a
                                                                                              x_9.snd.len x_9.snd.cap]]
                                                                                      w'_1
                                                                                      fun (x_10 : Int) (w'_2 : World) =>
                                                                                      cnd (x_10 != (0 : Int)) (R false w'_2)
                                                                                        (∃ (x_11 : SV),
                                                                                          w'_2.cell?
                                                                                                ((Addr.mk w'.heap.size
                                                                                                      (0 : Nat) none).add
                                                                                                  (1 : Nat)) =
                                                                                              some
                                                                                                (Value.slice x_11.a x_11.len
                                                                                                  x_11.cap) ∧
                                                                                            ∃ (x_12 : SV),
                                                                                              w'_2.cell?
                                                                                                    ((Addr.mk w.heap.size
                                                                                                          (0 : Nat)
                                                                                                          none).add
                                                                                                      (1 : Nat)) =
                                                                                                  some
                                                                                                    (Value.slice x_12.a
                                                                                                      x_12.len x_12.cap) ∧
                                                                                                cnd
                                                                                                  ((↑x_11.len : Int) !=
                                                                                                    IntKind.i64.wrap
                                                                                                      ((↑x_12.len : Int) +
                                                                                                        (1 : Int)))
                                                                                                  (R false w'_2)
                                                                                                  (∃ (x_13 : Int),
                                                                                                    w'_2.drew.cell?
                                                                                                          ((Addr.mk
                                                                                                                w1.heap.size
                                                                                                                (0 : Nat)
                                                                                                                none).add
                                                                                                            (0 : Nat)) =
                                                                                                        some
                                                                                                          (Value.int
                                                                                                            IntKind.i64
                                                                                                            x_13) ∧
                                                                                                      ∃ (x_14 : Int × SV),
                                                                                                        cellsAt w'_2.drew
                                                                                                            (Addr.mk
                                                                                                              w'.heap.size
                                                                                                              (0 : Nat)
                                                                                                              none)
                                                                                                            [Value.int
                                                                                                                IntKind.i64
                                                                                                                x_14.fst,
                                                                                                              Value.slice
                                                                                                                x_14.snd.a
                                                                                                                x_14.snd.len
                                                                                                                x_14.snd.cap] ∧
                                                                                                          canSt w'_2.drew
                                                                                                              (Addr.mk
                                                                                                                w.heap.size
                                                                                                                (0 : Nat)
                                                                                                                none)
                                                                                                              (2 : Nat) ∧
                                                                                                            ∃ (m : Nat),
                                                                                                              m < n ∧
                                                                                                                I m
                                                                                                                  (x_13,
                                                                                                                    IntKind.i64.wrap
                                                                                                                      (x.snd +
                                                                                                                        (1 :
                                                                                                                          Int)))
                                                                                                                  (setCells
                                                                                                                    w'_2.drew
                                                                                                                    (Addr.mk
                                                                                                                      w.heap.size
                                                                                                                      (0 :
                                                                                                                        Nat)
                                                                                                                      none)
                                                                                                                    (0 :
                                                                                                                      Nat)
                                                                                                                    [Value.int
                                                                                                                        IntKind.i64
                                                                                                                        x_14.fst,
                                                                                                                      Value.slice
                                                                                                                        x_14.snd.a
                                                                                                                        x_14.snd.len
                                                                                                                        x_14.snd.cap]))))))))) ∧
              ∀ (x : PUnit) (j : Nat → Value) (w' : World),
                R_1 x w' →
                  ∃ (x : Int × SV),
                    cellsAt w' (Addr.mk w.heap.size (0 : Nat) none)
                        [Value.int IntKind.i64 x.fst, Value.slice x.snd.a x.snd.len x.snd.cap] ∧
                      CallT [Ty.one (Sh.int IntKind.i64)] Try.prog (30 : Nat)
                        [Value.agg #[Value.int IntKind.i64 x.fst, Value.slice x.snd.a x.snd.len x.snd.cap]] w'
                        fun (x : Int) (w' : World) => R (x == (0 : Int)) w'))
  : CallT [Ty.one Sh.bool] Try.prog 7 [Value.slice s0.a s0.len s0.cap] w R :=
  fnV_sound (h := HT.z.sq
  (HT.z.sq
    (HT.z.sq
      (HT.z.sq
        (HT.jn []
          (HT.z.sq
            (HT.lp [((4 : Nat), Ty.one (Sh.int IntKind.i64)), ((5 : Nat), Ty.one (Sh.int IntKind.i64))]
                (HT.jn [] HT.z
                  (((HT.z.sq
                              (((HT.dr
                                        (DT.take (0 : Nat)
                                          (DT.take (1 : Nat)
                                            (DT.take (2 : Nat)
                                              (DT.take (3 : Nat)
                                                (DT.take (4 : Nat)
                                                  (DT.alt (5 : Nat)
                                                    (DT.take (6 : Nat)
                                                      (DT.take (7 : Nat)
                                                        (DT.take (8 : Nat)
                                                          (DT.take (9 : Nat) (DT.take (10 : Nat) DT.fin)))))
                                                    DT.fin))))))).sq
                                    (HT.jn
                                      [((8 : Nat), Ty.one Sh.ptr), ((9 : Nat), Ty.one (Sh.int IntKind.i64)),
                                        ((10 : Nat), Ty.one (Sh.int IntKind.i64))]
                                      (HT.dr
                                        (DT.take (0 : Nat)
                                          (DT.take (1 : Nat)
                                            (DT.take (2 : Nat)
                                              (DT.take (3 : Nat)
                                                (DT.take (4 : Nat)
                                                  (DT.alt (5 : Nat)
                                                    (DT.take (6 : Nat)
                                                      (DT.take (7 : Nat)
                                                        (DT.take (8 : Nat)
                                                          (DT.take (9 : Nat)
                                                            (DT.alt (10 : Nat)
                                                              (DT.alt (11 : Nat)
                                                                (DT.take (12 : Nat) (DT.take (13 : Nat) DT.fin)) DT.fin)
                                                              DT.fin)))))
                                                    (DT.alt (10 : Nat)
                                                      (DT.alt (5 : Nat)
                                                        (DT.take (6 : Nat)
                                                          (DT.take (7 : Nat)
                                                            (DT.take (8 : Nat)
                                                              (DT.take (9 : Nat)
                                                                (DT.alt (11 : Nat)
                                                                  (DT.take (12 : Nat) (DT.take (13 : Nat) DT.fin))
                                                                  DT.fin)))))
                                                        DT.fin)
                                                      DT.fin))))))))
                                      (HT.jn [] HT.z HT.z))).cd
                                HT.z)).sq
                          (HT.z.sq
                            (HT.z.sq
                              ((HT.z.sq
                                    (HT.lp [((14 : Nat), Ty.one (Sh.int IntKind.i64))]
                                        (HT.z.sq (((HT.rg (9 : Nat)).sq HT.z).bl.sq HT.z))).bl).sq
                                (HT.z.sq (HT.rg (4 : Nat))))))).bl.sq
                    HT.z))).bl)
          HT.z))))) Try.func7 (by kernel_rfl) (by kernel_rfl) (Eq.mp (by kernel_rfl) h)

/-- dunnage/dunnagelaw26.awake -/
theorem dunnagelaw26_awake.vc (w : World) (R : Bool → World → Prop)
  (h : CallT [Ty.one (Sh.int IntKind.i64)] Try.prog (9 : Nat)
      [Value.slice (some (Addr.mk w.heap.size (0 : Nat) none)) (1 : Nat) (1 : Nat), Value.int IntKind.u64 (1 : Int),
        Value.int IntKind.i64 (5 : Int)]
      (w.alloc
        (Obj.cells
          #[Value.int IntKind.u64 (1 : Int), Value.int IntKind.i64 (5 : Int), Value.int IntKind.i64 (2 : Int),
            Value.int IntKind.i64 (0 : Int)]
          (28 : Nat)))
      fun (x : Int) (w' : World) => R (x == (2 : Int)) w')
  : CallT [Ty.one Sh.bool] Try.prog 8 [] w R :=
  fnV_sound (h := HT.z) Try.func8 (by kernel_rfl) (by kernel_rfl) (Eq.mp (by kernel_rfl) h)

/-- dunnage/forward.Where -/
theorem forward_Where.vc (s0 : SV) (n1 : Int) (n2 : Int) (w : World) (R : Int → World → Prop)
  (h : ∃ (I : Nat → Int × Int → World → Prop),
      (∃ (n : Nat), I n (n2, (0 : Int)) w) ∧
        ∀ (n : Nat) (x : Int × Int) (j : Nat → Value) (w' : World),
          I n x w' →
            cnd (decide (x.snd < (↑s0.len : Int)))
              ((0 : Int) ≤ x.snd ∧
                x.snd < (↑s0.len : Int) ∧
                  onP s0.a fun (A : Addr) =>
                    ∃ (x_1 : Int × Int × Int × Int),
                      cellsAt w' (A.add (Int.toNat x.snd * (4 : Nat)))
                          [Value.int IntKind.u64 x_1.fst, Value.int IntKind.i64 x_1.snd.fst,
                            Value.int IntKind.i64 x_1.snd.snd.fst, Value.int IntKind.i64 x_1.snd.snd.snd] ∧
                        let w1 :=
                          w'.alloc
                            (Obj.cells
                              #[Value.int IntKind.u64 (0 : Int), Value.int IntKind.i64 (0 : Int),
                                Value.int IntKind.i64 (0 : Int), Value.int IntKind.i64 (0 : Int)]
                              (28 : Nat));
                        canSt w1 (Addr.mk w'.heap.size (0 : Nat) none) (4 : Nat) ∧
                          let w1 :=
                            setCells w1 (Addr.mk w'.heap.size (0 : Nat) none) (0 : Nat)
                              [Value.int IntKind.u64 x_1.fst, Value.int IntKind.i64 x_1.snd.fst,
                                Value.int IntKind.i64 x_1.snd.snd.fst, Value.int IntKind.i64 x_1.snd.snd.snd];
                          ∃ (x_2 : Int),
                            w1.cell? ((Addr.mk w'.heap.size (0 : Nat) none).add (0 : Nat)) =
                                some (Value.int IntKind.u64 x_2) ∧
                              cnd (x_2 == n1)
                                (∃ (x_3 : Int),
                                  w1.cell? ((Addr.mk w'.heap.size (0 : Nat) none).add (1 : Nat)) =
                                      some (Value.int IntKind.i64 x_3) ∧
                                    cnd (x_3 == x.fst)
                                      (∃ (x_4 : Int),
                                        w1.cell? ((Addr.mk w'.heap.size (0 : Nat) none).add (2 : Nat)) =
                                            some (Value.int IntKind.i64 x_4) ∧
                                          ∃ (m : Nat), m < n ∧ I m (x_4, IntKind.i64.wrap (x.snd + (1 : Int))) w1)
                                      (∃ (m : Nat), m < n ∧ I m (x.fst, IntKind.i64.wrap (x.snd + (1 : Int))) w1))
                                (∃ (m : Nat), m < n ∧ I m (x.fst, IntKind.i64.wrap (x.snd + (1 : Int))) w1))
              (R x.fst w'))
  : CallT [Ty.one (Sh.int IntKind.i64)] Try.prog 9 [Value.slice s0.a s0.len s0.cap, Value.int IntKind.u64 n1, Value.int IntKind.i64 n2] w R :=
  fnV_sound (h := HT.z.sq
  ((HT.z.sq (HT.lp [((2 : Nat), Ty.one (Sh.int IntKind.i64)), ((11 : Nat), Ty.one (Sh.int IntKind.i64))] HT.z).bl).sq
    HT.z)) Try.func9 (by kernel_rfl) (by kernel_rfl) (Eq.mp (by kernel_rfl) h)

/-- dunnage/forward.Fold -/
theorem forward_Fold.vc (s0 : SV) (w : World) (R : SV → World → Prop)
  (h : mkMV Try.prog (64 : Nat) none w fun (s : Option Nat) (w' : World) =>
      ∃ (I : Nat → SV × Int → World → Prop),
        (∃ (n : Nat), I n (SV.mk none (0 : Nat) (0 : Nat), (0 : Int)) w') ∧
          ∀ (n : Nat) (x : SV × Int) (j : Nat → Value) (w' : World),
            I n x w' →
              cnd (decide (x.snd < (↑s0.len : Int)))
                ((0 : Int) ≤ x.snd ∧
                  x.snd < (↑s0.len : Int) ∧
                    onP s0.a fun (A : Addr) =>
                      ∃ (x_1 : Int × Int × Int × Int),
                        cellsAt w' (A.add (Int.toNat x.snd * (4 : Nat)))
                            [Value.int IntKind.u64 x_1.fst, Value.int IntKind.i64 x_1.snd.fst,
                              Value.int IntKind.i64 x_1.snd.snd.fst, Value.int IntKind.i64 x_1.snd.snd.snd] ∧
                          let w1 :=
                            w'.alloc
                              (Obj.cells
                                #[Value.int IntKind.u64 (0 : Int), Value.int IntKind.i64 (0 : Int),
                                  Value.int IntKind.i64 (0 : Int), Value.int IntKind.i64 (0 : Int)]
                                (28 : Nat));
                          canSt w1 (Addr.mk w'.heap.size (0 : Nat) none) (4 : Nat) ∧
                            let w1 :=
                              setCells w1 (Addr.mk w'.heap.size (0 : Nat) none) (0 : Nat)
                                [Value.int IntKind.u64 x_1.fst, Value.int IntKind.i64 x_1.snd.fst,
                                  Value.int IntKind.i64 x_1.snd.snd.fst, Value.int IntKind.i64 x_1.snd.snd.snd];
                            ∃ (x_2 : Int),
                              w1.cell? ((Addr.mk w'.heap.size (0 : Nat) none).add (0 : Nat)) =
                                  some (Value.int IntKind.u64 x_2) ∧
                                lkV Try.prog (64 : Nat) (Value.map s) (Value.int IntKind.u64 x_2) false w1 [Ty.one Sh.bool]
                                  fun (x_3 : Bool) (w'_1 : World) =>
                                  cnd x_3 (∃ (m : Nat), m < n ∧ I m (x.fst, IntKind.i64.wrap (x.snd + (1 : Int))) w'_1)
                                    (∃ (x_4 : Int),
                                      w'_1.cell? ((Addr.mk w'.heap.size (0 : Nat) none).add (0 : Nat)) =
                                          some (Value.int IntKind.u64 x_4) ∧
                                        mupV Try.prog (64 : Nat) (Value.map s) (Value.int IntKind.u64 x_4) (Value.bool true)
                                          w'_1 fun (w'_2 : World) =>
                                          ∃ (x_5 : Int),
                                            w'_2.cell? ((Addr.mk w'.heap.size (0 : Nat) none).add (0 : Nat)) =
                                                some (Value.int IntKind.u64 x_5) ∧
                                              ∃ (x_6 : Int),
                                                w'_2.cell? ((Addr.mk w'.heap.size (0 : Nat) none).add (1 : Nat)) =
                                                    some (Value.int IntKind.i64 x_6) ∧
                                                  CallT [Ty.one (Sh.int IntKind.i64)] Try.prog (9 : Nat)
                                                    [Value.slice s0.a s0.len s0.cap, Value.int IntKind.u64 x_5,
                                                      Value.int IntKind.i64 x_6]
                                                    w'_2 fun (x_7 : Int) (w'_3 : World) =>
                                                    ∃ (x_8 : Int),
                                                      w'_3.cell? ((Addr.mk w'.heap.size (0 : Nat) none).add (1 : Nat)) =
                                                          some (Value.int IntKind.i64 x_8) ∧
                                                        cnd (x_7 != x_8)
                                                          (∃ (x_9 : Int),
                                                            w'_3.cell?
                                                                  ((Addr.mk w'.heap.size (0 : Nat) none).add (0 : Nat)) =
                                                                some (Value.int IntKind.u64 x_9) ∧
                                                              ∃ (x_10 : Int),
                                                                w'_3.cell?
                                                                      ((Addr.mk w'.heap.size (0 : Nat) none).add
                                                                        (1 : Nat)) =
                                                                    some (Value.int IntKind.i64 x_10) ∧
                                                                  ∃ (x_11 : Int),
                                                                    w'_3.cell?
                                                                          ((Addr.mk w'.heap.size (0 : Nat) none).add
                                                                            (3 : Nat)) =
                                                                        some (Value.int IntKind.i64 x_11) ∧
                                                                      appV Try.prog [(22 : Nat), (22 : Nat)] (22 : Nat)
                                                                        [Value.slice x.fst.a x.fst.len x.fst.cap,
                                                                          Value.slice
                                                                            (some (Addr.mk w'_3.heap.size (0 : Nat) none))
                                                                            (1 : Nat) (1 : Nat)]
                                                                        (w'_3.alloc
                                                                          (Obj.cells
                                                                            #[Value.int IntKind.u64 x_9,
                                                                              Value.int IntKind.i64 x_10,
                                                                              Value.int IntKind.i64 x_7,
                                                                              Value.int IntKind.i64 x_11]
                                                                            (28 : Nat)))
                                                                        fun (s : SV) (w' : World) =>
                                                                        ∃ (m : Nat),
                                                                          m < n ∧
                                                                            I m (s, IntKind.i64.wrap (x.snd + (1 : Int)))
                                                                              w')
                                                          (∃ (m : Nat),
                                                            m < n ∧
                                                              I m (x.fst, IntKind.i64.wrap (x.snd + (1 : Int))) w'_3)))
                (R x.fst w'))
  : CallT [Ty.one Sh.slice] Try.prog 10 [Value.slice s0.a s0.len s0.cap] w R :=
  fnV_sound (h := HT.z.sq
  (HT.z.sq
    (HT.z.sq
      ((HT.z.sq (HT.lp [((4 : Nat), Ty.one Sh.slice), ((11 : Nat), Ty.one (Sh.int IntKind.i64))] HT.z).bl).sq HT.z)))) Try.func10 (by kernel_rfl) (by kernel_rfl) (Eq.mp (by kernel_rfl) h)

/-- dunnage/dunnagehelp.Plain[dunnage/api.Move] -/
theorem dunnagehelp_Plain_api_Move.vc (s0 : SV) (s1 : SV) (w : World) (R : Bool → World → Prop)
  (h : CallT [Ty.one Sh.bool] Try.prog (33 : Nat)
      [Value.slice s0.a s0.len s0.cap, Value.slice s1.a s1.len s1.cap, Value.func (Fn.func (34 : Nat)) #[] #[]] w
      fun (x : Bool) (w' : World) => R x w')
  : CallT [Ty.one Sh.bool] Try.prog 11 [Value.slice s0.a s0.len s0.cap, Value.slice s1.a s1.len s1.cap] w R :=
  fnV_sound (h := HT.z) Try.func11 (by kernel_rfl) (by kernel_rfl) (Eq.mp (by kernel_rfl) h)

/-- dunnage/dunnagehelp.Own[dunnage/api.Move] -/
theorem dunnagehelp_Own_api_Move.vc (s0 : SV) (x1 : Int × Int × Int × Int) (w : World) (R : SV → World → Prop)
  (h : mkSV Try.prog (22 : Nat) (Value.int IntKind.i64 (0 : Int))
      (Value.int IntKind.i64 (IntKind.i64.wrap ((↑s0.len : Int) + (3 : Int))))
      (w.alloc
        (Obj.cells
          #[Value.int IntKind.u64 x1.fst, Value.int IntKind.i64 x1.snd.fst, Value.int IntKind.i64 x1.snd.snd.fst,
            Value.int IntKind.i64 x1.snd.snd.snd]
          (28 : Nat)))
      fun (s : SV) (w' : World) =>
      appV Try.prog [(22 : Nat), (22 : Nat)] (22 : Nat) [Value.slice s.a s.len s.cap, Value.slice s0.a s0.len s0.cap] w'
        fun (s : SV) (w' : World) =>
        (0 : Int) ≤ IntKind.i64.wrap ((↑s0.len : Int) + (3 : Int)) ∧
          IntKind.i64.wrap ((↑s0.len : Int) + (3 : Int)) ≤ (↑s.cap : Int) ∧
            ∃ (I : Nat → Int → World → Prop),
              (∃ (n : Nat), I n (↑s0.len : Int) w') ∧
                ∀ (n : Nat) (x : Int) (j : Nat → Value) (w' : World),
                  I n x w' →
                    let e1 := (↑((IntKind.i64.wrap ((↑s0.len : Int) + (3 : Int))).toNat - (0 : Nat)) : Int);
                    cnd (decide (x < e1))
                      (∃ (x_1 : Int × Int × Int × Int),
                        cellsAt w' (Addr.mk w.heap.size (0 : Nat) none)
                            [Value.int IntKind.u64 x_1.fst, Value.int IntKind.i64 x_1.snd.fst,
                              Value.int IntKind.i64 x_1.snd.snd.fst, Value.int IntKind.i64 x_1.snd.snd.snd] ∧
                          (0 : Int) ≤ x ∧
                            x < (↑((IntKind.i64.wrap ((↑s0.len : Int) + (3 : Int))).toNat - (0 : Nat)) : Int) ∧
                              onP (subA s.a (0 : Nat) (4 : Nat) s.cap) fun (A : Addr) =>
                                canSt w' (A.add (x.toNat * (4 : Nat))) (4 : Nat) ∧
                                  ∃ (m : Nat),
                                    m < n ∧
                                      I m (IntKind.i64.wrap (x + (1 : Int)))
                                        (setCells w' (A.add (x.toNat * (4 : Nat))) (0 : Nat)
                                          [Value.int IntKind.u64 x_1.fst, Value.int IntKind.i64 x_1.snd.fst,
                                            Value.int IntKind.i64 x_1.snd.snd.fst, Value.int IntKind.i64 x_1.snd.snd.snd]))
                      (R s w'))
  : CallT [Ty.one Sh.slice] Try.prog 12 [Value.slice s0.a s0.len s0.cap,
  Value.agg
    #[Value.int IntKind.u64 x1.fst, Value.int IntKind.i64 x1.snd.fst, Value.int IntKind.i64 x1.snd.snd.fst,
      Value.int IntKind.i64 x1.snd.snd.snd]] w R :=
  fnV_sound (h := HT.z.sq (HT.z.sq (HT.z.sq (HT.z.sq ((HT.z.sq (HT.lp [((7 : Nat), Ty.one (Sh.int IntKind.i64))] HT.z).bl).sq HT.z))))) Try.func12 (by kernel_rfl) (by kernel_rfl) (Eq.mp (by kernel_rfl) h)

/-- dunnage/dunnagehelp.Own[dunnage/api.Entry] -/
theorem dunnagehelp_Own_api_Entry.vc (s0 : SV) (x1 : ByteArray × Int × Int × Int) (w : World) (R : SV → World → Prop)
  (h : mkSV Try.prog (32 : Nat) (Value.int IntKind.i64 (0 : Int))
      (Value.int IntKind.i64 (IntKind.i64.wrap ((↑s0.len : Int) + (3 : Int))))
      (w.alloc
        (Obj.cells
          #[Value.string x1.fst, Value.int IntKind.u64 x1.snd.fst, Value.int IntKind.i64 x1.snd.snd.fst,
            Value.int IntKind.i64 x1.snd.snd.snd]
          (38 : Nat)))
      fun (s : SV) (w' : World) =>
      appV Try.prog [(32 : Nat), (32 : Nat)] (32 : Nat) [Value.slice s.a s.len s.cap, Value.slice s0.a s0.len s0.cap] w'
        fun (s : SV) (w' : World) =>
        (0 : Int) ≤ IntKind.i64.wrap ((↑s0.len : Int) + (3 : Int)) ∧
          IntKind.i64.wrap ((↑s0.len : Int) + (3 : Int)) ≤ (↑s.cap : Int) ∧
            ∃ (I : Nat → Int → World → Prop),
              (∃ (n : Nat), I n (↑s0.len : Int) w') ∧
                ∀ (n : Nat) (x : Int) (j : Nat → Value) (w' : World),
                  I n x w' →
                    let e1 := (↑((IntKind.i64.wrap ((↑s0.len : Int) + (3 : Int))).toNat - (0 : Nat)) : Int);
                    cnd (decide (x < e1))
                      (∃ (x_1 : ByteArray × Int × Int × Int),
                        cellsAt w' (Addr.mk w.heap.size (0 : Nat) none)
                            [Value.string x_1.fst, Value.int IntKind.u64 x_1.snd.fst, Value.int IntKind.i64 x_1.snd.snd.fst,
                              Value.int IntKind.i64 x_1.snd.snd.snd] ∧
                          (0 : Int) ≤ x ∧
                            x < (↑((IntKind.i64.wrap ((↑s0.len : Int) + (3 : Int))).toNat - (0 : Nat)) : Int) ∧
                              onP (subA s.a (0 : Nat) (4 : Nat) s.cap) fun (A : Addr) =>
                                canSt w' (A.add (x.toNat * (4 : Nat))) (4 : Nat) ∧
                                  ∃ (m : Nat),
                                    m < n ∧
                                      I m (IntKind.i64.wrap (x + (1 : Int)))
                                        (setCells w' (A.add (x.toNat * (4 : Nat))) (0 : Nat)
                                          [Value.string x_1.fst, Value.int IntKind.u64 x_1.snd.fst,
                                            Value.int IntKind.i64 x_1.snd.snd.fst, Value.int IntKind.i64 x_1.snd.snd.snd]))
                      (R s w'))
  : CallT [Ty.one Sh.slice] Try.prog 13 [Value.slice s0.a s0.len s0.cap,
  Value.agg
    #[Value.string x1.fst, Value.int IntKind.u64 x1.snd.fst, Value.int IntKind.i64 x1.snd.snd.fst,
      Value.int IntKind.i64 x1.snd.snd.snd]] w R :=
  fnV_sound (h := HT.z.sq (HT.z.sq (HT.z.sq (HT.z.sq ((HT.z.sq (HT.lp [((7 : Nat), Ty.one (Sh.int IntKind.i64))] HT.z).bl).sq HT.z))))) Try.func13 (by kernel_rfl) (by kernel_rfl) (Eq.mp (by kernel_rfl) h)

/-- dunnage/dunnageref26.Where -/
theorem dunnageref26_Where.vc (s0 : SV) (n1 : Int) (n2 : Int) (w : World) (R : Int → World → Prop)
  (h : ∃ (I : Nat → Int × Int → World → Prop),
      (∃ (n : Nat), I n (n2, (0 : Int)) w) ∧
        ∀ (n : Nat) (x : Int × Int) (j : Nat → Value) (w' : World),
          I n x w' →
            let e1 := x.snd;
            cnd (decide (e1 < (↑s0.len : Int)))
              (∃ (R : Bool → World → Prop),
                (let e1 := x.snd;
                  (0 : Int) ≤ e1 ∧
                    e1 < (↑s0.len : Int) ∧
                      onP s0.a fun (A : Addr) =>
                        ∃ (x_1 : Int),
                          w'.cell? ((A.add (e1.toNat * (4 : Nat))).add (0 : Nat)) = some (Value.int IntKind.u64 x_1) ∧
                            cnd (x_1 == n1)
                              (let e1 := x.snd;
                              (0 : Int) ≤ e1 ∧
                                e1 < (↑s0.len : Int) ∧
                                  onP s0.a fun (A : Addr) =>
                                    ∃ (x_2 : Int),
                                      w'.cell? ((A.add (e1.toNat * (4 : Nat))).add (1 : Nat)) =
                                          some (Value.int IntKind.i64 x_2) ∧
                                        R (x_2 == x.fst) w')
                              (R false w')) ∧
                  ∀ (x_1 : Bool) (j : Nat → Value) (w' : World),
                    R x_1 w' →
                      cnd x_1
                        (let e1 := x.snd;
                        (0 : Int) ≤ e1 ∧
                          e1 < (↑s0.len : Int) ∧
                            onP s0.a fun (A : Addr) =>
                              ∃ (x_2 : Int),
                                w'.cell? ((A.add (e1.toNat * (4 : Nat))).add (2 : Nat)) = some (Value.int IntKind.i64 x_2) ∧
                                  ∃ (m : Nat), m < n ∧ I m (x_2, IntKind.i64.wrap (x.snd + (1 : Int))) w')
                        (∃ (m : Nat), m < n ∧ I m (x.fst, IntKind.i64.wrap (x.snd + (1 : Int))) w'))
              (R x.fst w'))
  : CallT [Ty.one (Sh.int IntKind.i64)] Try.prog 14 [Value.slice s0.a s0.len s0.cap, Value.int IntKind.u64 n1, Value.int IntKind.i64 n2] w R :=
  fnV_sound (h := HT.z.sq
  ((HT.z.sq
        (HT.lp [((2 : Nat), Ty.one (Sh.int IntKind.i64)), ((7 : Nat), Ty.one (Sh.int IntKind.i64))]
            (HT.z.sq ((HT.jn [((29 : Nat), Ty.one Sh.bool)] HT.z HT.z).bl.sq HT.z))).bl).sq
    HT.z)) Try.func14 (by kernel_rfl) (by kernel_rfl) (Eq.mp (by kernel_rfl) h)

/-- dunnage/dunnageref26.Fold -/
theorem dunnageref26_Fold.vc (s0 : SV) (w : World) (R : SV → World → Prop)
  (h : ∃ (I : Nat → SV × Int → World → Prop),
      (∃ (n : Nat), I n (SV.mk none (0 : Nat) (0 : Nat), (0 : Int)) w) ∧
        ∀ (n : Nat) (x : SV × Int) (j : Nat → Value) (w' : World),
          I n x w' →
            let e1 := x.snd;
            cnd (decide (e1 < (↑s0.len : Int)))
              (∃ (I_1 : Nat → Bool × Int → World → Prop),
                (∃ (n : Nat), I_1 n (false, (0 : Int)) w') ∧
                  ∀ (n_1 : Nat) (x_1 : Bool × Int) (j : Nat → Value) (w' : World),
                    I_1 n_1 x_1 w' →
                      let e1 := x_1.snd;
                      let e1_1 := x.snd;
                      cnd (decide (e1 < e1_1))
                        (cnd x_1.fst (∃ (m : Nat), m < n_1 ∧ I_1 m (true, IntKind.i64.wrap (x_1.snd + (1 : Int))) w'.drew)
                          (let e1 := x_1.snd;
                          (0 : Int) ≤ e1 ∧
                            e1 < (↑s0.len : Int) ∧
                              onP s0.a fun (A : Addr) =>
                                ∃ (x_2 : Int),
                                  w'.drew.cell? ((A.add (e1.toNat * (4 : Nat))).add (0 : Nat)) =
                                      some (Value.int IntKind.u64 x_2) ∧
                                    let e1 := x.snd;
                                    (0 : Int) ≤ e1 ∧
                                      e1 < (↑s0.len : Int) ∧
                                        onP s0.a fun (A : Addr) =>
                                          ∃ (x : Int),
                                            w'.drew.cell? ((A.add (e1.toNat * (4 : Nat))).add (0 : Nat)) =
                                                some (Value.int IntKind.u64 x) ∧
                                              ∃ (m : Nat),
                                                m < n_1 ∧ I_1 m (x_2 == x, IntKind.i64.wrap (x_1.snd + (1 : Int))) w'.drew))
                        (let e1 := x.snd;
                        (0 : Int) ≤ e1 ∧
                          e1 < (↑s0.len : Int) ∧
                            onP s0.a fun (A : Addr) =>
                              ∃ (x_2 : Int × Int × Int × Int),
                                cellsAt w' (A.add (e1.toNat * (4 : Nat)))
                                    [Value.int IntKind.u64 x_2.fst, Value.int IntKind.i64 x_2.snd.fst,
                                      Value.int IntKind.i64 x_2.snd.snd.fst, Value.int IntKind.i64 x_2.snd.snd.snd] ∧
                                  let w1 :=
                                    w'.alloc
                                      (Obj.cells
                                        #[Value.int IntKind.u64 (0 : Int), Value.int IntKind.i64 (0 : Int),
                                          Value.int IntKind.i64 (0 : Int), Value.int IntKind.i64 (0 : Int)]
                                        (28 : Nat));
                                  canSt w1 (Addr.mk w'.heap.size (0 : Nat) none) (4 : Nat) ∧
                                    let w1 :=
                                      setCells w1 (Addr.mk w'.heap.size (0 : Nat) none) (0 : Nat)
                                        [Value.int IntKind.u64 x_2.fst, Value.int IntKind.i64 x_2.snd.fst,
                                          Value.int IntKind.i64 x_2.snd.snd.fst, Value.int IntKind.i64 x_2.snd.snd.snd];
                                    ∃ (x_3 : Int),
                                      w1.cell? ((Addr.mk w'.heap.size (0 : Nat) none).add (0 : Nat)) =
                                          some (Value.int IntKind.u64 x_3) ∧
                                        ∃ (x_4 : Int),
                                          w1.cell? ((Addr.mk w'.heap.size (0 : Nat) none).add (1 : Nat)) =
                                              some (Value.int IntKind.i64 x_4) ∧
                                            CallT [Ty.one (Sh.int IntKind.i64)] Try.prog (14 : Nat)
                                              [Value.slice s0.a s0.len s0.cap, Value.int IntKind.u64 x_3,
                                                Value.int IntKind.i64 x_4]
                                              w1 fun (x_5 : Int) (w'_1 : World) =>
                                              (w'_1.cell? ((Addr.mk w'.heap.size (0 : Nat) none).add (2 : Nat))).isSome =
                                                  true ∧
                                                w'_1.frozen? ((Addr.mk w'.heap.size (0 : Nat) none).add (2 : Nat)) = false ∧
                                                  let w1 :=
                                                    w'_1.setCell ((Addr.mk w'.heap.size (0 : Nat) none).add (2 : Nat))
                                                      (Value.int IntKind.i64 x_5);
                                                  ∃ (R : Bool → World → Prop),
                                                    cnd (!x_1.fst)
                                                        (∃ (x : Int),
                                                          w1.cell? ((Addr.mk w'.heap.size (0 : Nat) none).add (2 : Nat)) =
                                                              some (Value.int IntKind.i64 x) ∧
                                                            ∃ (x_6 : Int),
                                                              w1.cell?
                                                                    ((Addr.mk w'.heap.size (0 : Nat) none).add (1 : Nat)) =
                                                                  some (Value.int IntKind.i64 x_6) ∧
                                                                R (x != x_6) w1)
                                                        (R false w1) ∧
                                                      ∀ (x_6 : Bool) (j : Nat → Value) (w'_2 : World),
                                                        R x_6 w'_2 →
                                                          cnd x_6
                                                            (∃ (x_7 : Int × Int × Int × Int),
                                                              cellsAt w'_2 (Addr.mk w'.heap.size (0 : Nat) none)
                                                                  [Value.int IntKind.u64 x_7.fst,
                                                                    Value.int IntKind.i64 x_7.snd.fst,
                                                                    Value.int IntKind.i64 x_7.snd.snd.fst,
                                                                    Value.int IntKind.i64 x_7.snd.snd.snd] ∧
                                                                appV Try.prog [(22 : Nat), (22 : Nat)] (22 : Nat)
                                                                  [Value.slice x.fst.a x.fst.len x.fst.cap,
                                                                    Value.slice
                                                                      (some (Addr.mk w'_2.heap.size (0 : Nat) none))
                                                                      (1 : Nat) (1 : Nat)]
                                                                  (w'_2.alloc
                                                                    (Obj.cells
                                                                      #[Value.int IntKind.u64 x_7.fst,
                                                                        Value.int IntKind.i64 x_7.snd.fst,
                                                                        Value.int IntKind.i64 x_7.snd.snd.fst,
                                                                        Value.int IntKind.i64 x_7.snd.snd.snd]
                                                                      (28 : Nat)))
                                                                  fun (s : SV) (w' : World) =>
                                                                  ∃ (m : Nat),
                                                                    m < n ∧
                                                                      I m (s, IntKind.i64.wrap (x.snd + (1 : Int))) w')
                                                            (∃ (m : Nat),
                                                              m < n ∧
                                                                I m (x.fst, IntKind.i64.wrap (x.snd + (1 : Int))) w'_2)))
              (R x.fst w'))
  : CallT [Ty.one Sh.slice] Try.prog 15 [Value.slice s0.a s0.len s0.cap] w R :=
  fnV_sound (h := HT.z.sq
  (HT.z.sq
    ((HT.z.sq
          (HT.lp [((3 : Nat), Ty.one Sh.slice), ((4 : Nat), Ty.one (Sh.int IntKind.i64))]
              (HT.z.sq
                ((HT.z.sq
                        ((HT.z.sq
                              (HT.lp [((5 : Nat), Ty.one Sh.bool), ((6 : Nat), Ty.one (Sh.int IntKind.i64))]
                                  (HT.z.sq ((HT.rg (15 : Nat)).bl.sq HT.z))).bl).sq
                          (HT.z.sq (HT.z.sq (HT.jn [((52 : Nat), Ty.one Sh.bool)] HT.z HT.z))))).bl.sq
                  HT.z))).bl).sq
      HT.z))) Try.func15 (by kernel_rfl) (by kernel_rfl) (Eq.mp (by kernel_rfl) h)

/-- dunnage/dunnagehelp.Plain[dunnage/api.Entry] -/
theorem dunnagehelp_Plain_api_Entry.vc (s0 : SV) (s1 : SV) (w : World) (R : Bool → World → Prop)
  (h : CallT [Ty.one Sh.bool] Try.prog (35 : Nat)
      [Value.slice s0.a s0.len s0.cap, Value.slice s1.a s1.len s1.cap, Value.func (Fn.func (36 : Nat)) #[] #[]] w
      fun (x : Bool) (w' : World) => R x w')
  : CallT [Ty.one Sh.bool] Try.prog 16 [Value.slice s0.a s0.len s0.cap, Value.slice s1.a s1.len s1.cap] w R :=
  fnV_sound (h := HT.z) Try.func16 (by kernel_rfl) (by kernel_rfl) (Eq.mp (by kernel_rfl) h)

/-- dunnage/forward.Apply -/
theorem forward_Apply.vc (s0 : SV) (s1 : SV) (w : World) (R : SV → World → Prop)
  (h : CallT [Ty.one Sh.slice] Try.prog (37 : Nat) [Value.slice s0.a s0.len s0.cap] w fun (x : SV) (w' : World) =>
      ∃ (I : Nat → Int → World → Prop),
        (∃ (n : Nat), I n (0 : Int) w') ∧
          ∀ (n : Nat) (x_1 : Int) (j : Nat → Value) (w' : World),
            I n x_1 w' →
              cnd (decide (x_1 < (↑x.len : Int)))
                ((0 : Int) ≤ x_1 ∧
                  x_1 < (↑x.len : Int) ∧
                    onP x.a fun (A : Addr) =>
                      ∃ (S : World → Prop),
                        S w'.drew ∧
                          ∃ (x : Int),
                            (∀ (w : World),
                                S w →
                                  w.cell? (((A.add (x_1.toNat * (4 : Nat))).add (1 : Nat)).add (0 : Nat)) =
                                    some (Value.int IntKind.u64 x)) ∧
                              ∃ (x_2 : Int),
                                (∀ (w : World),
                                    S w →
                                      w.cell? (((A.add (x_1.toNat * (4 : Nat))).add (1 : Nat)).add (1 : Nat)) =
                                        some (Value.int IntKind.i64 x_2)) ∧
                                  CallT [Ty.one (Sh.int IntKind.i64)] Try.prog (9 : Nat)
                                    [Value.slice s1.a s1.len s1.cap, Value.int IntKind.u64 x, Value.int IntKind.i64 x_2]
                                    w'.drew fun (x : Int) (w' : World) =>
                                    (w'.cell? (((A.add (x_1.toNat * (4 : Nat))).add (1 : Nat)).add (1 : Nat))).isSome =
                                        true ∧
                                      w'.frozen? (((A.add (x_1.toNat * (4 : Nat))).add (1 : Nat)).add (1 : Nat)) = false ∧
                                        ∃ (m : Nat),
                                          m < n ∧
                                            I m (IntKind.i64.wrap (x_1 + (1 : Int)))
                                              (w'.setCell (((A.add (x_1.toNat * (4 : Nat))).add (1 : Nat)).add (1 : Nat))
                                                (Value.int IntKind.i64 x)))
                (R x w'))
  : CallT [Ty.one Sh.slice] Try.prog 17 [Value.slice s0.a s0.len s0.cap, Value.slice s1.a s1.len s1.cap] w R :=
  fnV_sound (h := HT.z.sq
  (HT.z.sq
    ((HT.z.sq
          (HT.lp [((12 : Nat), Ty.one (Sh.int IntKind.i64))]
              (HT.z.sq
                (HT.z.sq
                  ((HT.z.sq
                          (HT.z.sq
                            (HT.dr
                              (DT.take (0 : Nat)
                                (DT.take (1 : Nat)
                                  (DT.take (2 : Nat)
                                    (DT.take (3 : Nat)
                                      (DT.take (4 : Nat)
                                        (DT.take (5 : Nat)
                                          (DT.take (6 : Nat)
                                            (DT.take (7 : Nat)
                                              (DT.take (8 : Nat)
                                                (DT.take (9 : Nat)
                                                  (DT.alt (10 : Nat)
                                                    (DT.take (11 : Nat)
                                                      (DT.take (12 : Nat) (DT.alt (13 : Nat) DT.fin DT.fin)))
                                                    DT.fin)))))))))))))).bl.sq
                    HT.z)))).bl).sq
      HT.z))) Try.func17 (by kernel_rfl) (by kernel_rfl) (Eq.mp (by kernel_rfl) h)

/-- dunnage/dunnageref26.Apply -/
theorem dunnageref26_Apply.vc (s0 : SV) (s1 : SV) (w : World) (R : SV → World → Prop)
  (h : ∃ (I : Nat → SV × Int → World → Prop),
      (∃ (n : Nat), I n (SV.mk none (0 : Nat) (0 : Nat), (0 : Int)) w) ∧
        ∀ (n : Nat) (x : SV × Int) (j : Nat → Value) (w' : World),
          I n x w' →
            let e1 := x.snd;
            cnd (decide (e1 < (↑s0.len : Int)))
              (let e1 := x.snd;
              (0 : Int) ≤ e1 ∧
                e1 < (↑s0.len : Int) ∧
                  onP s0.a fun (A : Addr) =>
                    ∃ (x_1 : ByteArray × Int × Int × Int),
                      cellsAt w' (A.add (e1.toNat * (4 : Nat)))
                          [Value.string x_1.fst, Value.int IntKind.u64 x_1.snd.fst, Value.int IntKind.i64 x_1.snd.snd.fst,
                            Value.int IntKind.i64 x_1.snd.snd.snd] ∧
                        let w1 :=
                          w'.alloc
                            (Obj.cells
                              #[Value.string (ByteArray.mk (Array.mk [])), Value.int IntKind.u64 (0 : Int),
                                Value.int IntKind.i64 (0 : Int), Value.int IntKind.i64 (0 : Int)]
                              (38 : Nat));
                        canSt w1 (Addr.mk w'.heap.size (0 : Nat) none) (4 : Nat) ∧
                          let w1 :=
                            setCells w1 (Addr.mk w'.heap.size (0 : Nat) none) (0 : Nat)
                              [Value.string x_1.fst, Value.int IntKind.u64 x_1.snd.fst,
                                Value.int IntKind.i64 x_1.snd.snd.fst, Value.int IntKind.i64 x_1.snd.snd.snd];
                          ∃ (x_2 : Int),
                            w1.cell? (((Addr.mk w'.heap.size (0 : Nat) none).add (1 : Nat)).add (0 : Nat)) =
                                some (Value.int IntKind.u64 x_2) ∧
                              ∃ (x_3 : Int),
                                w1.cell? (((Addr.mk w'.heap.size (0 : Nat) none).add (1 : Nat)).add (1 : Nat)) =
                                    some (Value.int IntKind.i64 x_3) ∧
                                  CallT [Ty.one (Sh.int IntKind.i64)] Try.prog (14 : Nat)
                                    [Value.slice s1.a s1.len s1.cap, Value.int IntKind.u64 x_2, Value.int IntKind.i64 x_3]
                                    w1 fun (x_4 : Int) (w'_1 : World) =>
                                    (w'_1.cell?
                                            (((Addr.mk w'.heap.size (0 : Nat) none).add (1 : Nat)).add (1 : Nat))).isSome =
                                        true ∧
                                      w'_1.frozen? (((Addr.mk w'.heap.size (0 : Nat) none).add (1 : Nat)).add (1 : Nat)) =
                                          false ∧
                                        let w1 :=
                                          w'_1.setCell (((Addr.mk w'.heap.size (0 : Nat) none).add (1 : Nat)).add (1 : Nat))
                                            (Value.int IntKind.i64 x_4);
                                        ∃ (x_5 : ByteArray × Int × Int × Int),
                                          cellsAt w1 (Addr.mk w'.heap.size (0 : Nat) none)
                                              [Value.string x_5.fst, Value.int IntKind.u64 x_5.snd.fst,
                                                Value.int IntKind.i64 x_5.snd.snd.fst,
                                                Value.int IntKind.i64 x_5.snd.snd.snd] ∧
                                            appV Try.prog [(32 : Nat), (32 : Nat)] (32 : Nat)
                                              [Value.slice x.fst.a x.fst.len x.fst.cap,
                                                Value.slice (some (Addr.mk w1.heap.size (0 : Nat) none)) (1 : Nat)
                                                  (1 : Nat)]
                                              (w1.alloc
                                                (Obj.cells
                                                  #[Value.string x_5.fst, Value.int IntKind.u64 x_5.snd.fst,
                                                    Value.int IntKind.i64 x_5.snd.snd.fst,
                                                    Value.int IntKind.i64 x_5.snd.snd.snd]
                                                  (38 : Nat)))
                                              fun (s : SV) (w' : World) =>
                                              ∃ (m : Nat), m < n ∧ I m (s, IntKind.i64.wrap (x.snd + (1 : Int))) w')
              (R x.fst w'))
  : CallT [Ty.one Sh.slice] Try.prog 18 [Value.slice s0.a s0.len s0.cap, Value.slice s1.a s1.len s1.cap] w R :=
  fnV_sound (h := HT.z.sq
  (HT.z.sq ((HT.z.sq (HT.lp [((5 : Nat), Ty.one Sh.slice), ((6 : Nat), Ty.one (Sh.int IntKind.i64))] HT.z).bl).sq HT.z))) Try.func18 (by kernel_rfl) (by kernel_rfl) (Eq.mp (by kernel_rfl) h)

/-- dunnage/dunnagehelp.Kept[dunnage/api.Move] -/
theorem dunnagehelp_Kept_api_Move.vc (s0 : SV) (s1 : SV) (x2 : Int × Int × Int × Int) (w : World) (R : Bool → World → Prop)
  (h : ∃ (R_1 : PUnit → World → Prop),
      (CallT [Ty.one Sh.bool] Try.prog (11 : Nat) [Value.slice s0.a s0.len s0.cap, Value.slice s1.a s1.len s1.cap]
          (w.alloc
            (Obj.cells
              #[Value.int IntKind.u64 x2.fst, Value.int IntKind.i64 x2.snd.fst, Value.int IntKind.i64 x2.snd.snd.fst,
                Value.int IntKind.i64 x2.snd.snd.snd]
              (28 : Nat)))
          fun (x : Bool) (w' : World) =>
          cnd (!x) (R false w')
            (cnd (decide ((↑s0.cap : Int) < IntKind.i64.wrap ((↑s1.len : Int) + (3 : Int)))) (R false w') (R_1 () w'))) ∧
        ∀ (x : PUnit) (j : Nat → Value) (w' : World),
          R_1 x w' →
            (0 : Int) ≤ IntKind.i64.wrap ((↑s1.len : Int) + (3 : Int)) ∧
              IntKind.i64.wrap ((↑s1.len : Int) + (3 : Int)) ≤ (↑s0.cap : Int) ∧
                ∃ (I : Nat → Int → World → Prop),
                  (∃ (n : Nat), I n (↑s1.len : Int) w') ∧
                    ∀ (n : Nat) (x : Int) (j : Nat → Value) (w' : World),
                      I n x w' →
                        let e1 := (↑((IntKind.i64.wrap ((↑s1.len : Int) + (3 : Int))).toNat - (0 : Nat)) : Int);
                        cnd (decide (x < e1))
                          ((0 : Int) ≤ x ∧
                            x < (↑((IntKind.i64.wrap ((↑s1.len : Int) + (3 : Int))).toNat - (0 : Nat)) : Int) ∧
                              onP (subA s0.a (0 : Nat) (4 : Nat) s0.cap) fun (A : Addr) =>
                                ∃ (x_1 : Int × Int × Int × Int),
                                  cellsAt w'.drew (A.add (x.toNat * (4 : Nat)))
                                      [Value.int IntKind.u64 x_1.fst, Value.int IntKind.i64 x_1.snd.fst,
                                        Value.int IntKind.i64 x_1.snd.snd.fst, Value.int IntKind.i64 x_1.snd.snd.snd] ∧
                                    ∃ (x_2 : Int × Int × Int × Int),
                                      cellsAt w'.drew (Addr.mk w.heap.size (0 : Nat) none)
                                          [Value.int IntKind.u64 x_2.fst, Value.int IntKind.i64 x_2.snd.fst,
                                            Value.int IntKind.i64 x_2.snd.snd.fst, Value.int IntKind.i64 x_2.snd.snd.snd] ∧
                                        cnd
                                          (!(x_1.fst == x_2.fst &&
                                              (x_1.snd.fst == x_2.snd.fst &&
                                                (x_1.snd.snd.fst == x_2.snd.snd.fst &&
                                                  (x_1.snd.snd.snd == x_2.snd.snd.snd && true)))))
                                          (R false w'.drew)
                                          (∃ (m : Nat), m < n ∧ I m (IntKind.i64.wrap (x + (1 : Int))) w'.drew))
                          (R true w'))
  : CallT [Ty.one Sh.bool] Try.prog 19 [Value.slice s0.a s0.len s0.cap, Value.slice s1.a s1.len s1.cap,
  Value.agg
    #[Value.int IntKind.u64 x2.fst, Value.int IntKind.i64 x2.snd.fst, Value.int IntKind.i64 x2.snd.snd.fst,
      Value.int IntKind.i64 x2.snd.snd.snd]] w R :=
  fnV_sound (h := HT.z.sq
  (HT.jn [] HT.z
    (HT.z.sq
      ((HT.z.sq
            (HT.lp [((8 : Nat), Ty.one (Sh.int IntKind.i64))] (HT.z.sq (((HT.rg (6 : Nat)).sq HT.z).bl.sq HT.z))).bl).sq
        HT.z)))) Try.func19 (by kernel_rfl) (by kernel_rfl) (Eq.mp (by kernel_rfl) h)

/-- dunnage/dunnagehelp.Kept[dunnage/api.Entry] -/
theorem dunnagehelp_Kept_api_Entry.vc (s0 : SV) (s1 : SV) (x2 : ByteArray × Int × Int × Int) (w : World) (R : Bool → World → Prop)
  (h : ∃ (R_1 : PUnit → World → Prop),
      (CallT [Ty.one Sh.bool] Try.prog (16 : Nat) [Value.slice s0.a s0.len s0.cap, Value.slice s1.a s1.len s1.cap]
          (w.alloc
            (Obj.cells
              #[Value.string x2.fst, Value.int IntKind.u64 x2.snd.fst, Value.int IntKind.i64 x2.snd.snd.fst,
                Value.int IntKind.i64 x2.snd.snd.snd]
              (38 : Nat)))
          fun (x : Bool) (w' : World) =>
          cnd (!x) (R false w')
            (cnd (decide ((↑s0.cap : Int) < IntKind.i64.wrap ((↑s1.len : Int) + (3 : Int)))) (R false w') (R_1 () w'))) ∧
        ∀ (x : PUnit) (j : Nat → Value) (w' : World),
          R_1 x w' →
            (0 : Int) ≤ IntKind.i64.wrap ((↑s1.len : Int) + (3 : Int)) ∧
              IntKind.i64.wrap ((↑s1.len : Int) + (3 : Int)) ≤ (↑s0.cap : Int) ∧
                ∃ (I : Nat → Int → World → Prop),
                  (∃ (n : Nat), I n (↑s1.len : Int) w') ∧
                    ∀ (n : Nat) (x : Int) (j : Nat → Value) (w' : World),
                      I n x w' →
                        let e1 := (↑((IntKind.i64.wrap ((↑s1.len : Int) + (3 : Int))).toNat - (0 : Nat)) : Int);
                        cnd (decide (x < e1))
                          ((0 : Int) ≤ x ∧
                            x < (↑((IntKind.i64.wrap ((↑s1.len : Int) + (3 : Int))).toNat - (0 : Nat)) : Int) ∧
                              onP (subA s0.a (0 : Nat) (4 : Nat) s0.cap) fun (A : Addr) =>
                                ∃ (x_1 : ByteArray × Int × Int × Int),
                                  cellsAt w'.drew (A.add (x.toNat * (4 : Nat)))
                                      [Value.string x_1.fst, Value.int IntKind.u64 x_1.snd.fst,
                                        Value.int IntKind.i64 x_1.snd.snd.fst, Value.int IntKind.i64 x_1.snd.snd.snd] ∧
                                    ∃ (x_2 : ByteArray × Int × Int × Int),
                                      cellsAt w'.drew (Addr.mk w.heap.size (0 : Nat) none)
                                          [Value.string x_2.fst, Value.int IntKind.u64 x_2.snd.fst,
                                            Value.int IntKind.i64 x_2.snd.snd.fst, Value.int IntKind.i64 x_2.snd.snd.snd] ∧
                                        cnd
                                          (!(x_1.fst == x_2.fst &&
                                              (x_1.snd.fst == x_2.snd.fst &&
                                                  (x_1.snd.snd.fst == x_2.snd.snd.fst &&
                                                    (x_1.snd.snd.snd == x_2.snd.snd.snd && true)) &&
                                                true)))
                                          (R false w'.drew)
                                          (∃ (m : Nat), m < n ∧ I m (IntKind.i64.wrap (x + (1 : Int))) w'.drew))
                          (R true w'))
  : CallT [Ty.one Sh.bool] Try.prog 20 [Value.slice s0.a s0.len s0.cap, Value.slice s1.a s1.len s1.cap,
  Value.agg
    #[Value.string x2.fst, Value.int IntKind.u64 x2.snd.fst, Value.int IntKind.i64 x2.snd.snd.fst,
      Value.int IntKind.i64 x2.snd.snd.snd]] w R :=
  fnV_sound (h := HT.z.sq
  (HT.jn [] HT.z
    (HT.z.sq
      ((HT.z.sq
            (HT.lp [((8 : Nat), Ty.one (Sh.int IntKind.i64))] (HT.z.sq (((HT.rg (6 : Nat)).sq HT.z).bl.sq HT.z))).bl).sq
        HT.z)))) Try.func20 (by kernel_rfl) (by kernel_rfl) (Eq.mp (by kernel_rfl) h)

/-- dunnage/dunnagehelp.Own[dunnage/api.Pin] -/
theorem dunnagehelp_Own_api_Pin.vc (s0 : SV) (x1 : Int × Int) (w : World) (R : SV → World → Prop)
  (h : mkSV Try.prog (44 : Nat) (Value.int IntKind.i64 (0 : Int))
      (Value.int IntKind.i64 (IntKind.i64.wrap ((↑s0.len : Int) + (3 : Int))))
      (w.alloc (Obj.cells #[Value.int IntKind.i64 x1.fst, Value.int IntKind.i64 x1.snd] (49 : Nat)))
      fun (s : SV) (w' : World) =>
      appV Try.prog [(44 : Nat), (44 : Nat)] (44 : Nat) [Value.slice s.a s.len s.cap, Value.slice s0.a s0.len s0.cap] w'
        fun (s : SV) (w' : World) =>
        (0 : Int) ≤ IntKind.i64.wrap ((↑s0.len : Int) + (3 : Int)) ∧
          IntKind.i64.wrap ((↑s0.len : Int) + (3 : Int)) ≤ (↑s.cap : Int) ∧
            ∃ (I : Nat → Int → World → Prop),
              (∃ (n : Nat), I n (↑s0.len : Int) w') ∧
                ∀ (n : Nat) (x : Int) (j : Nat → Value) (w' : World),
                  I n x w' →
                    let e1 := (↑((IntKind.i64.wrap ((↑s0.len : Int) + (3 : Int))).toNat - (0 : Nat)) : Int);
                    cnd (decide (x < e1))
                      (∃ (x_1 : Int × Int),
                        cellsAt w' (Addr.mk w.heap.size (0 : Nat) none)
                            [Value.int IntKind.i64 x_1.fst, Value.int IntKind.i64 x_1.snd] ∧
                          (0 : Int) ≤ x ∧
                            x < (↑((IntKind.i64.wrap ((↑s0.len : Int) + (3 : Int))).toNat - (0 : Nat)) : Int) ∧
                              onP (subA s.a (0 : Nat) (2 : Nat) s.cap) fun (A : Addr) =>
                                canSt w' (A.add (x.toNat * (2 : Nat))) (2 : Nat) ∧
                                  ∃ (m : Nat),
                                    m < n ∧
                                      I m (IntKind.i64.wrap (x + (1 : Int)))
                                        (setCells w' (A.add (x.toNat * (2 : Nat))) (0 : Nat)
                                          [Value.int IntKind.i64 x_1.fst, Value.int IntKind.i64 x_1.snd]))
                      (R s w'))
  : CallT [Ty.one Sh.slice] Try.prog 21 [Value.slice s0.a s0.len s0.cap, Value.agg #[Value.int IntKind.i64 x1.fst, Value.int IntKind.i64 x1.snd]] w R :=
  fnV_sound (h := HT.z.sq (HT.z.sq (HT.z.sq (HT.z.sq ((HT.z.sq (HT.lp [((7 : Nat), Ty.one (Sh.int IntKind.i64))] HT.z).bl).sq HT.z))))) Try.func21 (by kernel_rfl) (by kernel_rfl) (Eq.mp (by kernel_rfl) h)

/-- dunnage/dunnageref19.Right -/
theorem dunnageref19_Right.vc (x0 : Int × SV) (w : World) (R : Bool → World → Prop)
  (h : let w1 := w.alloc (Obj.cells #[Value.int IntKind.i64 x0.fst, Value.slice x0.snd.a x0.snd.len x0.snd.cap] (46 : Nat));
    ∃ (R_1 : PUnit → World → Prop),
      (∃ (x : Int),
          w1.cell? ((Addr.mk w.heap.size (0 : Nat) none).add (0 : Nat)) = some (Value.int IntKind.i64 x) ∧
            cnd (decide (x < (1 : Int))) (R false w1)
              (∃ (x : Int),
                w1.cell? ((Addr.mk w.heap.size (0 : Nat) none).add (0 : Nat)) = some (Value.int IntKind.i64 x) ∧
                  cnd (decide (x > (4611686018427387904 : Int))) (R false w1)
                    (∃ (x : SV),
                      w1.cell? ((Addr.mk w.heap.size (0 : Nat) none).add (1 : Nat)) = some (Value.slice x.a x.len x.cap) ∧
                        cnd (decide ((↑x.len : Int) > (8 : Int))) (R false w1) (R_1 () w1)))) ∧
        ∀ (x : PUnit) (j : Nat → Value) (w' : World),
          R_1 x w' →
            ∃ (I : Nat → Int → World → Prop),
              (∃ (n : Nat), I n (0 : Int) w') ∧
                ∀ (n : Nat) (x : Int) (j : Nat → Value) (w' : World),
                  I n x w' →
                    ∃ (x_1 : SV),
                      w'.cell? ((Addr.mk w.heap.size (0 : Nat) none).add (1 : Nat)) =
                          some (Value.slice x_1.a x_1.len x_1.cap) ∧
                        cnd (decide (x < (↑x_1.len : Int)))
                          (∃ (x_2 : SV),
                            w'.cell? ((Addr.mk w.heap.size (0 : Nat) none).add (1 : Nat)) =
                                some (Value.slice x_2.a x_2.len x_2.cap) ∧
                              (0 : Int) ≤ x ∧
                                x < (↑x_2.len : Int) ∧
                                  onP x_2.a fun (A : Addr) =>
                                    ∃ (x_3 : Int × Int),
                                      cellsAt w' (A.add (x.toNat * (2 : Nat)))
                                          [Value.int IntKind.i64 x_3.fst, Value.int IntKind.i64 x_3.snd] ∧
                                        let w1 :=
                                          w'.alloc
                                            (Obj.cells #[Value.int IntKind.i64 (0 : Int), Value.int IntKind.i64 (0 : Int)]
                                              (49 : Nat));
                                        canSt w1 (Addr.mk w'.heap.size (0 : Nat) none) (2 : Nat) ∧
                                          let w1 :=
                                            setCells w1 (Addr.mk w'.heap.size (0 : Nat) none) (0 : Nat)
                                              [Value.int IntKind.i64 x_3.fst, Value.int IntKind.i64 x_3.snd];
                                          ∃ (R_2 : PUnit → World → Prop),
                                            (∃ (x_4 : Int),
                                                w1.drew.cell? ((Addr.mk w'.heap.size (0 : Nat) none).add (0 : Nat)) =
                                                    some (Value.int IntKind.i64 x_4) ∧
                                                  cnd (decide (x_4 < (1 : Int))) (R false w1.drew)
                                                    (∃ (x_5 : Int),
                                                      w1.drew.cell? ((Addr.mk w'.heap.size (0 : Nat) none).add (0 : Nat)) =
                                                          some (Value.int IntKind.i64 x_5) ∧
                                                        ∃ (x_6 : Int),
                                                          w1.drew.cell?
                                                                ((Addr.mk w.heap.size (0 : Nat) none).add (0 : Nat)) =
                                                              some (Value.int IntKind.i64 x_6) ∧
                                                            cnd (decide (x_5 ≥ x_6)) (R false w1.drew)
                                                              (∃ (x_7 : Int),
                                                                w1.drew.cell?
                                                                      ((Addr.mk w'.heap.size (0 : Nat) none).add
                                                                        (1 : Nat)) =
                                                                    some (Value.int IntKind.i64 x_7) ∧
                                                                  cnd (decide (x_7 < (1 : Int))) (R false w1.drew)
                                                                    (∃ (x_8 : Int),
                                                                      w1.drew.cell?
                                                                            ((Addr.mk w'.heap.size (0 : Nat) none).add
                                                                              (1 : Nat)) =
                                                                          some (Value.int IntKind.i64 x_8) ∧
                                                                        cnd (decide (x_8 > (8 : Int))) (R false w1.drew)
                                                                          (cnd (decide (x > (0 : Int)))
                                                                            (∃ (x_9 : Int),
                                                                              w1.drew.cell?
                                                                                    ((Addr.mk w'.heap.size (0 : Nat)
                                                                                          none).add
                                                                                      (0 : Nat)) =
                                                                                  some (Value.int IntKind.i64 x_9) ∧
                                                                                ∃ (x_10 : SV),
                                                                                  w1.drew.cell?
                                                                                        ((Addr.mk w.heap.size (0 : Nat)
                                                                                              none).add
                                                                                          (1 : Nat)) =
                                                                                      some
                                                                                        (Value.slice x_10.a x_10.len
                                                                                          x_10.cap) ∧
                                                                                    (0 : Int) ≤
                                                                                        IntKind.i64.wrap (x - (1 : Int)) ∧
                                                                                      IntKind.i64.wrap (x - (1 : Int)) <
                                                                                          (↑x_10.len : Int) ∧
                                                                                        onP x_10.a fun (A : Addr) =>
                                                                                          ∃ (x_11 : Int),
                                                                                            w1.drew.cell?
                                                                                                  ((A.add
                                                                                                        ((IntKind.i64.wrap
                                                                                                              (x -
                                                                                                                (1 :
                                                                                                                  Int))).toNat *
                                                                                                          (2 : Nat))).add
                                                                                                    (0 : Nat)) =
                                                                                                some
                                                                                                  (Value.int IntKind.i64
                                                                                                    x_11) ∧
                                                                                              cnd (decide (x_9 ≤ x_11))
                                                                                                (R false w1.drew)
                                                                                                (R_2 () w1.drew))
                                                                            (R_2 () w1.drew)))))) ∧
                                              ∀ (x_4 : PUnit) (j : Nat → Value) (w'_1 : World),
                                                R_2 x_4 w'_1 →
                                                  ∃ (I_1 : Nat → Int → World → Prop),
                                                    (∃ (n : Nat), I_1 n (0 : Int) w'_1) ∧
                                                      ∀ (n_1 : Nat) (x_5 : Int) (j : Nat → Value) (w'_2 : World),
                                                        I_1 n_1 x_5 w'_2 →
                                                          cnd (decide (x_5 < x))
                                                            (∃ (x : SV),
                                                              w'_2.drew.cell?
                                                                    ((Addr.mk w.heap.size (0 : Nat) none).add (1 : Nat)) =
                                                                  some (Value.slice x.a x.len x.cap) ∧
                                                                (0 : Int) ≤ x_5 ∧
                                                                  x_5 < (↑x.len : Int) ∧
                                                                    onP x.a fun (A : Addr) =>
                                                                      ∃ (x : Int),
                                                                        w'_2.drew.cell?
                                                                              ((A.add (x_5.toNat * (2 : Nat))).add
                                                                                (1 : Nat)) =
                                                                            some (Value.int IntKind.i64 x) ∧
                                                                          ∃ (x_6 : Int),
                                                                            w'_2.drew.cell?
                                                                                  ((Addr.mk w'.heap.size (0 : Nat) none).add
                                                                                    (1 : Nat)) =
                                                                                some (Value.int IntKind.i64 x_6) ∧
                                                                              cnd (x == x_6) (R false w'_2.drew)
                                                                                (∃ (m : Nat),
                                                                                  m < n_1 ∧
                                                                                    I_1 m
                                                                                      (IntKind.i64.wrap (x_5 + (1 : Int)))
                                                                                      w'_2.drew))
                                                            (∃ (m : Nat),
                                                              m < n ∧ I m (IntKind.i64.wrap (x + (1 : Int))) w'_2))
                          (R true w'))
  : CallT [Ty.one Sh.bool] Try.prog 22 [Value.agg #[Value.int IntKind.i64 x0.fst, Value.slice x0.snd.a x0.snd.len x0.snd.cap]] w R :=
  fnV_sound (h := HT.z.sq
  (HT.jn [] HT.z
    ((HT.z.sq
          (HT.lp [((3 : Nat), Ty.one (Sh.int IntKind.i64))]
              (HT.z.sq
                ((HT.z.sq
                        (HT.jn [] ((HT.rg (36 : Nat)).sq HT.z)
                          (HT.z.sq
                            (HT.lp [((5 : Nat), Ty.one (Sh.int IntKind.i64))]
                                (HT.z.sq (((HT.rg (9 : Nat)).sq HT.z).bl.sq HT.z))).bl))).bl.sq
                  HT.z))).bl).sq
      HT.z))) Try.func22 (by kernel_rfl) (by kernel_rfl) (Eq.mp (by kernel_rfl) h)

end Go.Proofs
