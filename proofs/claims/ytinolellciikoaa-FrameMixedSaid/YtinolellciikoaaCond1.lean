/- The conditions of the seat's functions, written by a program (VcTool, genvc.py) off 'vc' reduced; each is tied to 'vc' by the kernel. Conditions: none. -/
import Derived.Test.YtinolellciikoaaVcSound5
import Derived.Test.YtinolellciikoaaProg
set_option linter.unusedVariables false
set_option maxRecDepth 100000
namespace Go.Proofs
open Go Go.Vc
/-- dunnage/dunnagelaw04.DiskForks -/
theorem dunnagelaw04_DiskForks.vc (s0 : SV) (s1 : SV) (w : World) (R : Bool → World → Prop)
  (h : CallT [Ty.one Sh.ptr] Try.prog (53 : Nat) [Value.slice s0.a s0.len s0.cap] w fun (x : Option Addr) (w' : World) =>
      ∃ (R_1 : PUnit → World → Prop),
        (CallT [Ty.one Sh.bool] Try.prog (38 : Nat) [] w' fun (x_1 : Bool) (w' : World) =>
            cnd (!x_1) (R false w') (cnd x.isNone (R false w') (R_1 () w'))) ∧
          ∀ (x_1 : PUnit) (j : Nat → Value) (w' : World),
            R_1 x_1 w' →
              CallT [Ty.one Sh.ptr] Try.prog (56 : Nat) [Value.pointer x] w' fun (x_2 : Option Addr) (w' : World) =>
                CallT [Ty.one Sh.ptr] Try.prog (56 : Nat) [Value.pointer x] w' fun (x_3 : Option Addr) (w' : World) =>
                  ∃ (R_2 : PUnit → World → Prop),
                    cnd x_2.isNone (R false w') (cnd x_3.isNone (R false w') (R_2 () w')) ∧
                      ∀ (x_4 : PUnit) (j : Nat → Value) (w' : World),
                        R_2 x_4 w' →
                          ∃ (R_3 : PUnit → World → Prop),
                            (∃ (I : Nat → Int → World → Prop),
                                (∃ (n : Nat), I n (0 : Int) w') ∧
                                  ∀ (n : Nat) (x : Int) (j : Nat → Value) (w' : World),
                                    I n x w' →
                                      ∃ (R_4 : PUnit → World → Prop),
                                        cnd (decide (x < (↑s1.len : Int)))
                                            (cnd (decide (x < (60 : Int))) (R_4 () w') (R_3 () w')) (R_3 () w') ∧
                                          ∀ (x_5 : PUnit) (j : Nat → Value) (w' : World),
                                            R_4 x_5 w' →
                                              (0 : Int) ≤ x ∧
                                                x < (↑s1.len : Int) ∧
                                                  onP s1.a fun (A : Addr) =>
                                                    ∃ (x_6 : Int × Int × Int × Int × Bool × SV),
                                                      cellsAt w' (A.add (x.toNat * (6 : Nat)))
                                                          [Value.int IntKind.i64 x_6.fst, Value.int IntKind.i64 x_6.snd.fst,
                                                            Value.int IntKind.i64 x_6.snd.snd.fst,
                                                            Value.int IntKind.u8 x_6.snd.snd.snd.fst,
                                                            Value.bool x_6.snd.snd.snd.snd.fst,
                                                            Value.slice x_6.snd.snd.snd.snd.snd.a
                                                              x_6.snd.snd.snd.snd.snd.len x_6.snd.snd.snd.snd.snd.cap] ∧
                                                        let w1 :=
                                                          w'.alloc
                                                            (Obj.cells
                                                              #[Value.int IntKind.i64 (0 : Int),
                                                                Value.int IntKind.i64 (0 : Int),
                                                                Value.int IntKind.i64 (0 : Int),
                                                                Value.int IntKind.u8 (0 : Int), Value.bool false,
                                                                Value.slice none (0 : Nat) (0 : Nat)]
                                                              (62 : Nat));
                                                        canSt w1 (Addr.mk w'.heap.size (0 : Nat) none) (6 : Nat) ∧
                                                          let w1 :=
                                                            setCells w1 (Addr.mk w'.heap.size (0 : Nat) none) (0 : Nat)
                                                              [Value.int IntKind.i64 x_6.fst,
                                                                Value.int IntKind.i64 x_6.snd.fst,
                                                                Value.int IntKind.i64 x_6.snd.snd.fst,
                                                                Value.int IntKind.u8 x_6.snd.snd.snd.fst,
                                                                Value.bool x_6.snd.snd.snd.snd.fst,
                                                                Value.slice x_6.snd.snd.snd.snd.snd.a
                                                                  x_6.snd.snd.snd.snd.snd.len x_6.snd.snd.snd.snd.snd.cap];
                                                          ∃ (x_7 : Int),
                                                            w1.cell? ((Addr.mk w'.heap.size (0 : Nat) none).add (3 : Nat)) =
                                                                some (Value.int IntKind.u8 x_7) ∧
                                                              ∃ (x_8 : Bool),
                                                                w1.cell?
                                                                      ((Addr.mk w'.heap.size (0 : Nat) none).add
                                                                        (4 : Nat)) =
                                                                    some (Value.bool x_8) ∧
                                                                  CallT [Ty.one Sh.slice] Try.prog (42 : Nat)
                                                                    [Value.int IntKind.u8 x_7, Value.bool x_8] w1
                                                                    fun (x_9 : SV) (w'_1 : World) =>
                                                                    ∃ (x_10 : Int),
                                                                      w'_1.cell?
                                                                            ((Addr.mk w'.heap.size (0 : Nat) none).add
                                                                              (0 : Nat)) =
                                                                          some (Value.int IntKind.i64 x_10) ∧
                                                                        cnd (x_10 == (2 : Int))
                                                                          (CallT [Ty.one (Sh.int IntKind.i64)] Try.prog
                                                                            (40 : Nat) [Value.pointer x_2] w'_1
                                                                            fun (x_11 : Int) (w' : World) =>
                                                                            CallT [Ty.one (Sh.int IntKind.i64)] Try.prog
                                                                              (40 : Nat) [Value.pointer x_3] w'
                                                                              fun (x_12 : Int) (w' : World) =>
                                                                              cnd (x_11 != x_12) (R false w')
                                                                                (∃ (m : Nat),
                                                                                  m < n ∧
                                                                                    I m (IntKind.i64.wrap (x + (1 : Int)))
                                                                                      w'))
                                                                          (cnd (x_10 == (4 : Int))
                                                                            (∃ (x_11 : SV),
                                                                              w'_1.cell?
                                                                                    ((Addr.mk w'.heap.size (0 : Nat)
                                                                                          none).add
                                                                                      (5 : Nat)) =
                                                                                  some
                                                                                    (Value.slice x_11.a x_11.len x_11.cap) ∧
                                                                                CallT [Ty.one (Sh.int IntKind.i64)] Try.prog
                                                                                  (54 : Nat)
                                                                                  [Value.pointer x_2,
                                                                                    Value.slice x_11.a x_11.len x_11.cap]
                                                                                  w'_1 fun (x_12 : Int) (w'_2 : World) =>
                                                                                  ∃ (x_13 : SV),
                                                                                    w'_2.cell?
                                                                                          ((Addr.mk w'.heap.size (0 : Nat)
                                                                                                none).add
                                                                                            (5 : Nat)) =
                                                                                        some
                                                                                          (Value.slice x_13.a x_13.len
                                                                                            x_13.cap) ∧
                                                                                      CallT [Ty.one (Sh.int IntKind.i64)]
                                                                                        Try.prog (54 : Nat)
                                                                                        [Value.pointer x_3,
                                                                                          Value.slice x_13.a x_13.len
                                                                                            x_13.cap]
                                                                                        w'_2
                                                                                        fun (x_14 : Int) (w' : World) =>
                                                                                        ∃ (m : Nat),
                                                                                          m < n ∧
                                                                                            I m
                                                                                              (IntKind.i64.wrap
                                                                                                (x + (1 : Int)))
                                                                                              w')
                                                                            (cnd (x_10 == (5 : Int))
                                                                              (CallT [Ty.one (Sh.int IntKind.i64)] Try.prog
                                                                                (45 : Nat) [Value.pointer x_2] w'_1
                                                                                fun (x_11 : Int) (w' : World) =>
                                                                                CallT [Ty.one (Sh.int IntKind.i64)] Try.prog
                                                                                  (45 : Nat) [Value.pointer x_3] w'
                                                                                  fun (x_12 : Int) (w' : World) =>
                                                                                  ∃ (m : Nat),
                                                                                    m < n ∧
                                                                                      I m (IntKind.i64.wrap (x + (1 : Int)))
                                                                                        w')
                                                                              (cnd (x_10 == (3 : Int))
                                                                                (∃ (S : World → Prop),
                                                                                  S w'_1.drew ∧
                                                                                    ∃ (x_11 : Int),
                                                                                      (∀ (w : World),
                                                                                          S w →
                                                                                            w.cell?
                                                                                                ((Addr.mk w'.heap.size
                                                                                                      (0 : Nat) none).add
                                                                                                  (2 : Nat)) =
                                                                                              some
                                                                                                (Value.int IntKind.i64
                                                                                                  x_11)) ∧
                                                                                        ∃ (x_12 : Int),
                                                                                          (∀ (w : World),
                                                                                              S w →
                                                                                                w.cell?
                                                                                                    ((Addr.mk w'.heap.size
                                                                                                          (0 : Nat)
                                                                                                          none).add
                                                                                                      (2 : Nat)) =
                                                                                                  some
                                                                                                    (Value.int IntKind.i64
                                                                                                      x_12)) ∧
                                                                                            CallT
                                                                                              [Ty.one (Sh.int IntKind.i64)]
                                                                                              Try.prog (39 : Nat)
                                                                                              [Value.pointer x_2,
                                                                                                Value.int IntKind.i64 x_11]
                                                                                              w'_1.drew
                                                                                              fun (x_13 : Int)
                                                                                                (w' : World) =>
                                                                                              S w' ∧
                                                                                                CallT
                                                                                                  [Ty.one
                                                                                                      (Sh.int IntKind.i64)]
                                                                                                  Try.prog (39 : Nat)
                                                                                                  [Value.pointer x_3,
                                                                                                    Value.int IntKind.i64
                                                                                                      x_12]
                                                                                                  w'
                                                                                                  fun (x_14 : Int)
                                                                                                    (w' : World) =>
                                                                                                  S w' ∧
                                                                                                    cnd (x_13 != x_14)
                                                                                                      (R false w')
                                                                                                      (∃ (m : Nat),
                                                                                                        m < n ∧
                                                                                                          I m
                                                                                                            (IntKind.i64.wrap
                                                                                                              (x +
                                                                                                                (1 : Int)))
                                                                                                            w'))
                                                                                (cnd (x_10 == (6 : Int))
                                                                                  (∃ (S : World → Prop),
                                                                                    S w'_1.drew ∧
                                                                                      ∃ (x_11 : Int),
                                                                                        (∀ (w : World),
                                                                                            S w →
                                                                                              w.cell?
                                                                                                  ((Addr.mk w'.heap.size
                                                                                                        (0 : Nat) none).add
                                                                                                    (1 : Nat)) =
                                                                                                some
                                                                                                  (Value.int IntKind.i64
                                                                                                    x_11)) ∧
                                                                                          ∃ (x_12 : Int),
                                                                                            (∀ (w : World),
                                                                                                S w →
                                                                                                  w.cell?
                                                                                                      ((Addr.mk w'.heap.size
                                                                                                            (0 : Nat)
                                                                                                            none).add
                                                                                                        (2 : Nat)) =
                                                                                                    some
                                                                                                      (Value.int IntKind.i64
                                                                                                        x_12)) ∧
                                                                                              ∃ (x_13 : Int),
                                                                                                (∀ (w : World),
                                                                                                    S w →
                                                                                                      w.cell?
                                                                                                          ((Addr.mk
                                                                                                                w'.heap.size
                                                                                                                (0 : Nat)
                                                                                                                none).add
                                                                                                            (1 : Nat)) =
                                                                                                        some
                                                                                                          (Value.int
                                                                                                            IntKind.i64
                                                                                                            x_13)) ∧
                                                                                                  ∃ (x_14 : Int),
                                                                                                    (∀ (w : World),
                                                                                                        S w →
                                                                                                          w.cell?
                                                                                                              ((Addr.mk
                                                                                                                    w'.heap.size
                                                                                                                    (0 :
                                                                                                                      Nat)
                                                                                                                    none).add
                                                                                                                (2 : Nat)) =
                                                                                                            some
                                                                                                              (Value.int
                                                                                                                IntKind.i64
                                                                                                                x_14)) ∧
                                                                                                      CallT
                                                                                                        [Ty.one
                                                                                                            (Sh.int
                                                                                                              IntKind.i64)]
                                                                                                        Try.prog (57 : Nat)
                                                                                                        [Value.pointer x_2,
                                                                                                          Value.int
                                                                                                            IntKind.i64
                                                                                                            x_11,
                                                                                                          Value.int
                                                                                                            IntKind.i64
                                                                                                            x_12]
                                                                                                        w'_1.drew
                                                                                                        fun (x_15 : Int)
                                                                                                          (w' : World) =>
                                                                                                        S w' ∧
                                                                                                          CallT
                                                                                                            [Ty.one
                                                                                                                (Sh.int
                                                                                                                  IntKind.i64)]
                                                                                                            Try.prog
                                                                                                            (57 : Nat)
                                                                                                            [Value.pointer
                                                                                                                x_3,
                                                                                                              Value.int
                                                                                                                IntKind.i64
                                                                                                                x_13,
                                                                                                              Value.int
                                                                                                                IntKind.i64
                                                                                                                x_14]
                                                                                                            w'
                                                                                                            fun (x_16 : Int)
                                                                                                              (w' :
                                                                                                                World) =>
                                                                                                            S w' ∧
                                                                                                              cnd
                                                                                                                (x_15 !=
                                                                                                                  x_16)
                                                                                                                (R false w')
                                                                                                                (∃ (m :
                                                                                                                  Nat),
                                                                                                                  m < n ∧
                                                                                                                    I m
                                                                                                                      (IntKind.i64.wrap
                                                                                                                        (x +
                                                                                                                          (1 :
                                                                                                                            Int)))
                                                                                                                      w'))
                                                                                  (∃ (S : World → Prop),
                                                                                    S w'_1.drew ∧
                                                                                      ∃ (x_11 : Int),
                                                                                        (∀ (w : World),
                                                                                            S w →
                                                                                              w.cell?
                                                                                                  ((Addr.mk w'.heap.size
                                                                                                        (0 : Nat) none).add
                                                                                                    (1 : Nat)) =
                                                                                                some
                                                                                                  (Value.int IntKind.i64
                                                                                                    x_11)) ∧
                                                                                          ∃ (x_12 : Int),
                                                                                            (∀ (w : World),
                                                                                                S w →
                                                                                                  w.cell?
                                                                                                      ((Addr.mk w'.heap.size
                                                                                                            (0 : Nat)
                                                                                                            none).add
                                                                                                        (1 : Nat)) =
                                                                                                    some
                                                                                                      (Value.int IntKind.i64
                                                                                                        x_12)) ∧
                                                                                              CallT
                                                                                                [Ty.one
                                                                                                    (Sh.int IntKind.i64)]
                                                                                                Try.prog (41 : Nat)
                                                                                                [Value.pointer x_2,
                                                                                                  Value.int IntKind.i64
                                                                                                    x_11,
                                                                                                  Value.slice x_9.a x_9.len
                                                                                                    x_9.cap]
                                                                                                w'_1.drew
                                                                                                fun (x_13 : Int)
                                                                                                  (w' : World) =>
                                                                                                S w' ∧
                                                                                                  CallT
                                                                                                    [Ty.one
                                                                                                        (Sh.int
                                                                                                          IntKind.i64)]
                                                                                                    Try.prog (41 : Nat)
                                                                                                    [Value.pointer x_3,
                                                                                                      Value.int IntKind.i64
                                                                                                        x_12,
                                                                                                      Value.slice x_9.a
                                                                                                        x_9.len x_9.cap]
                                                                                                    w'
                                                                                                    fun (x_14 : Int)
                                                                                                      (w' : World) =>
                                                                                                    S w' ∧
                                                                                                      cnd (x_13 != x_14)
                                                                                                        (R false w')
                                                                                                        (∃ (m : Nat),
                                                                                                          m < n ∧
                                                                                                            I m
                                                                                                              (IntKind.i64.wrap
                                                                                                                (x +
                                                                                                                  (1 :
                                                                                                                    Int)))
                                                                                                              w'))))))) ∧
                              ∀ (x_5 : PUnit) (j : Nat → Value) (w' : World),
                                R_3 x_5 w' →
                                  CallT [Ty.one Sh.ptr] Try.prog (53 : Nat) [Value.slice s0.a s0.len s0.cap] w'
                                    fun (x_6 : Option Addr) (w' : World) =>
                                    ∃ (R_4 : PUnit → World → Prop),
                                      (∃ (I : Nat → Int → World → Prop),
                                          (∃ (n : Nat), I n (0 : Int) w') ∧
                                            ∀ (n : Nat) (x_7 : Int) (j : Nat → Value) (w' : World),
                                              I n x_7 w' →
                                                ∃ (R_5 : PUnit → World → Prop),
                                                  cnd (!x_6.isNone) (cnd (decide (x_7 < (8 : Int))) (R_5 () w') (R_4 () w'))
                                                      (R_4 () w') ∧
                                                    ∀ (x_8 : PUnit) (j : Nat → Value) (w' : World),
                                                      R_5 x_8 w' →
                                                        CallT [Ty.one Sh.slice, Ty.one (Sh.int IntKind.i64)] Try.prog
                                                          (44 : Nat) [Value.pointer x_2, Value.int IntKind.i64 x_7] w'
                                                          fun (x_9 : SV × Int) (w' : World) =>
                                                          CallT [Ty.one Sh.slice, Ty.one (Sh.int IntKind.i64)] Try.prog
                                                            (44 : Nat) [Value.pointer x_3, Value.int IntKind.i64 x_7] w'
                                                            fun (x_10 : SV × Int) (w' : World) =>
                                                            CallT [Ty.one Sh.slice, Ty.one (Sh.int IntKind.i64)] Try.prog
                                                              (44 : Nat) [Value.pointer x, Value.int IntKind.i64 x_7] w'
                                                              fun (x : SV × Int) (w' : World) =>
                                                              CallT [Ty.one Sh.slice, Ty.one (Sh.int IntKind.i64)] Try.prog
                                                                (44 : Nat) [Value.pointer x_6, Value.int IntKind.i64 x_7] w'
                                                                fun (x_11 : SV × Int) (w' : World) =>
                                                                CallT [Ty.one Sh.bool] Try.prog (33 : Nat)
                                                                  [Value.slice x_9.fst.a x_9.fst.len x_9.fst.cap,
                                                                    Value.slice x_10.fst.a x_10.fst.len x_10.fst.cap]
                                                                  w' fun (x_12 : Bool) (w' : World) =>
                                                                  cnd (!x_12) (R false w')
                                                                    (cnd (x_9.snd != x_10.snd) (R false w')
                                                                      (CallT [Ty.one Sh.bool] Try.prog (33 : Nat)
                                                                        [Value.slice x.fst.a x.fst.len x.fst.cap,
                                                                          Value.slice x_11.fst.a x_11.fst.len x_11.fst.cap]
                                                                        w' fun (x_13 : Bool) (w' : World) =>
                                                                        cnd (!x_13) (R false w')
                                                                          (cnd (x.snd != x_11.snd) (R false w')
                                                                            (∃ (m : Nat),
                                                                              m < n ∧
                                                                                I m (IntKind.i64.wrap (x_7 + (1 : Int)))
                                                                                  w'))))) ∧
                                        ∀ (x_7 : PUnit) (j : Nat → Value) (w' : World),
                                          R_4 x_7 w' →
                                            cnd (!x_6.isNone)
                                              (CallT [Ty.one Sh.bool] Try.prog (43 : Nat) [Value.pointer x_2] w'
                                                fun (x_8 : Bool) (w' : World) =>
                                                CallT [Ty.one Sh.bool] Try.prog (43 : Nat) [Value.pointer x_3] w'
                                                  fun (x_9 : Bool) (w' : World) =>
                                                  cnd (x_8 == x_9)
                                                    (CallT [Ty.one (Sh.int IntKind.i64)] Try.prog (55 : Nat)
                                                      [Value.pointer x_2] w' fun (x_10 : Int) (w' : World) =>
                                                      CallT [Ty.one (Sh.int IntKind.i64)] Try.prog (55 : Nat)
                                                        [Value.pointer x_3] w' fun (x_11 : Int) (w' : World) =>
                                                        cnd (x_10 == x_11)
                                                          (CallT [Ty.one (Sh.int IntKind.i64)] Try.prog (55 : Nat)
                                                            [Value.pointer x] w' fun (x_12 : Int) (w' : World) =>
                                                            CallT [Ty.one (Sh.int IntKind.i64)] Try.prog (55 : Nat)
                                                              [Value.pointer x_6] w' fun (x_13 : Int) (w' : World) =>
                                                              cnd (x_12 == x_13)
                                                                (CallT [Ty.one Sh.bool] Try.prog (43 : Nat)
                                                                  [Value.pointer x] w' fun (x : Bool) (w' : World) =>
                                                                  CallT [Ty.one Sh.bool] Try.prog (43 : Nat)
                                                                    [Value.pointer x_6] w' fun (x_14 : Bool) (w' : World) =>
                                                                    R (x == x_14) w')
                                                                (R false w'))
                                                          (R false w'))
                                                    (R false w'))
                                              (R false w'))
  : CallT [Ty.one Sh.bool] Try.prog 10 [Value.slice s0.a s0.len s0.cap, Value.slice s1.a s1.len s1.cap] w R :=
  fnV_sound (h := HT.z.sq
  (HT.z.sq
    (HT.jn [] HT.z
      (HT.z.sq
        (HT.jn [] HT.z
          (HT.jn []
            (HT.z.sq
              (HT.lp [((8 : Nat), Ty.one (Sh.int IntKind.i64))]
                  (HT.jn [] HT.z
                    ((HT.z.sq
                            (HT.z.sq
                              (HT.z.sq
                                (HT.z.sq
                                    (HT.z.cd
                                      (HT.z.sq
                                        (HT.z.cd
                                          (HT.z.sq
                                            (HT.z.cd
                                              (HT.z.sq
                                                (((HT.dr
                                                          (DT.take (0 : Nat)
                                                            (DT.take (1 : Nat)
                                                              (DT.take (2 : Nat)
                                                                (DT.take (4 : Nat)
                                                                  (DT.take (5 : Nat)
                                                                    (DT.take (6 : Nat)
                                                                      (DT.alt (3 : Nat)
                                                                        (DT.alt (7 : Nat) (DT.take (8 : Nat) DT.fin)
                                                                          DT.fin)
                                                                        DT.fin)))))))).sq
                                                      HT.z).cd
                                                  (HT.z.sq
                                                    (((HT.dr
                                                              (DT.take (0 : Nat)
                                                                (DT.take (1 : Nat)
                                                                  (DT.take (2 : Nat)
                                                                    (DT.take (3 : Nat)
                                                                      (DT.take (4 : Nat)
                                                                        (DT.take (6 : Nat)
                                                                          (DT.take (7 : Nat)
                                                                            (DT.take (8 : Nat)
                                                                              (DT.take (9 : Nat)
                                                                                (DT.take (10 : Nat)
                                                                                  (DT.alt (5 : Nat)
                                                                                    (DT.alt (11 : Nat)
                                                                                      (DT.take (12 : Nat) DT.fin)
                                                                                      DT.fin)
                                                                                    DT.fin)))))))))))).sq
                                                          HT.z).cd
                                                      ((HT.dr
                                                            (DT.take (0 : Nat)
                                                              (DT.take (1 : Nat)
                                                                (DT.take (2 : Nat)
                                                                  (DT.take (3 : Nat)
                                                                    (DT.take (5 : Nat)
                                                                      (DT.take (6 : Nat)
                                                                        (DT.take (7 : Nat)
                                                                          (DT.take (8 : Nat)
                                                                            (DT.alt (4 : Nat)
                                                                              (DT.alt (9 : Nat)
                                                                                (DT.take (10 : Nat) DT.fin) DT.fin)
                                                                              DT.fin)))))))))).sq
                                                        HT.z))))))))))).bl))).bl.sq
                      HT.z))).bl)
            (HT.z.sq
              (HT.jn [] (HT.z.sq (HT.lp [((12 : Nat), Ty.one (Sh.int IntKind.i64))] (HT.jn [] HT.z HT.z)).bl)
                HT.z)))))))) Try.func10 (by kernel_rfl) (by kernel_rfl) (Eq.mp (by kernel_rfl) h)

/-- dunnage/dunnagelaw04.DiskPlays -/
theorem dunnagelaw04_DiskPlays.vc (n0 : Int) (s1 : SV) (w : World) (R : Bool → World → Prop)
  (h : CallT [Ty.one Sh.ptr, Ty.one (Sh.int IntKind.i64)] Try.prog (37 : Nat) [Value.int IntKind.i64 n0] w
      fun (x : Option Addr × Int) (w' : World) =>
      CallT [Ty.one Sh.ptr, Ty.one (Sh.int IntKind.i64)] Try.prog (58 : Nat) [Value.int IntKind.i64 n0] w'
        fun (x_1 : Option Addr × Int) (w' : World) =>
        ∃ (R_1 : PUnit → World → Prop),
          (CallT [Ty.one Sh.bool] Try.prog (38 : Nat) [] w' fun (x_2 : Bool) (w' : World) =>
              cnd (!x_2) (R false w')
                (cnd (x.snd != x_1.snd) (R false w')
                  (cnd (!Option.isNone x.fst == (x.snd != (0 : Int))) (R false w') (R_1 () w')))) ∧
            ∀ (x_2 : PUnit) (j : Nat → Value) (w' : World),
              R_1 x_2 w' →
                cnd (x.snd != (0 : Int)) (R true w')
                  (∃ (I : Nat → Int → World → Prop),
                    (∃ (n : Nat), I n (0 : Int) w') ∧
                      ∀ (n : Nat) (x_3 : Int) (j : Nat → Value) (w' : World),
                        I n x_3 w' →
                          ∃ (R_2 : PUnit → World → Prop),
                            cnd (decide (x_3 < (↑s1.len : Int))) (cnd (decide (x_3 < (200 : Int))) (R_2 () w') (R true w'))
                                (R true w') ∧
                              ∀ (x_4 : PUnit) (j : Nat → Value) (w' : World),
                                R_2 x_4 w' →
                                  (0 : Int) ≤ x_3 ∧
                                    x_3 < (↑s1.len : Int) ∧
                                      onP s1.a fun (A : Addr) =>
                                        ∃ (x_5 : Int × Int × Int × Int × Bool × SV),
                                          cellsAt w' (A.add (x_3.toNat * (6 : Nat)))
                                              [Value.int IntKind.i64 x_5.fst, Value.int IntKind.i64 x_5.snd.fst,
                                                Value.int IntKind.i64 x_5.snd.snd.fst,
                                                Value.int IntKind.u8 x_5.snd.snd.snd.fst,
                                                Value.bool x_5.snd.snd.snd.snd.fst,
                                                Value.slice x_5.snd.snd.snd.snd.snd.a x_5.snd.snd.snd.snd.snd.len
                                                  x_5.snd.snd.snd.snd.snd.cap] ∧
                                            CallT [Ty.one Sh.bool] Try.prog (59 : Nat)
                                              [Value.pointer x.fst, Value.pointer x_1.fst,
                                                Value.agg
                                                  #[Value.int IntKind.i64 x_5.fst, Value.int IntKind.i64 x_5.snd.fst,
                                                    Value.int IntKind.i64 x_5.snd.snd.fst,
                                                    Value.int IntKind.u8 x_5.snd.snd.snd.fst,
                                                    Value.bool x_5.snd.snd.snd.snd.fst,
                                                    Value.slice x_5.snd.snd.snd.snd.snd.a x_5.snd.snd.snd.snd.snd.len
                                                      x_5.snd.snd.snd.snd.snd.cap]]
                                              w' fun (x_6 : Bool) (w' : World) =>
                                              cnd (!x_6) (R false w')
                                                (CallT [Ty.one Sh.bool] Try.prog (60 : Nat)
                                                  [Value.pointer x.fst, Value.pointer x_1.fst] w'
                                                  fun (x : Bool) (w' : World) =>
                                                  cnd (!x) (R false w')
                                                    (∃ (m : Nat), m < n ∧ I m (IntKind.i64.wrap (x_3 + (1 : Int))) w'))))
  : CallT [Ty.one Sh.bool] Try.prog 11 [Value.int IntKind.i64 n0, Value.slice s1.a s1.len s1.cap] w R :=
  fnV_sound (h := HT.z.sq
  (HT.z.sq
    (HT.z.sq
      (HT.jn [] HT.z
        (HT.z.sq ((HT.z.sq (HT.lp [((9 : Nat), Ty.one (Sh.int IntKind.i64))] (HT.jn [] HT.z HT.z)).bl).sq HT.z)))))) Try.func11 (by kernel_rfl) (by kernel_rfl) (Eq.mp (by kernel_rfl) h)

/-- dunnage/dunnagelaw04.DiskNil -/
theorem dunnagelaw04_DiskNil.vc (n0 : Int) (n1 : Int) (s2 : SV) (s3 : SV) (w : World) (R : Bool → World → Prop)
  (h : CallT [Ty.one Sh.slice, Ty.one (Sh.int IntKind.i64)] Try.prog (44 : Nat) [Value.pointer none, Value.int IntKind.i64 n0]
      w fun (x : SV × Int) (w' : World) =>
      CallT [Ty.one Sh.bool] Try.prog (38 : Nat) [] w' fun (x_1 : Bool) (w' : World) =>
        cnd x_1
          (CallT [Ty.one (Sh.int IntKind.i64)] Try.prog (61 : Nat) [Value.pointer none] w' fun (x_2 : Int) (w' : World) =>
            cnd (x_2 == (0 : Int))
              (CallT [Ty.one (Sh.int IntKind.i64)] Try.prog (41 : Nat)
                [Value.pointer none, Value.int IntKind.i64 n0, Value.slice s2.a s2.len s2.cap] w'
                fun (x_3 : Int) (w' : World) =>
                cnd (x_3 == (2 : Int))
                  (cnd ((↑x.fst.len : Int) == (0 : Int))
                    (cnd (x.snd == (2 : Int))
                      (CallT [Ty.one (Sh.int IntKind.i64)] Try.prog (40 : Nat) [Value.pointer none] w'
                        fun (x : Int) (w' : World) =>
                        cnd (x == (2 : Int))
                          (CallT [Ty.one (Sh.int IntKind.i64)] Try.prog (39 : Nat)
                            [Value.pointer none, Value.int IntKind.i64 n1] w' fun (x : Int) (w' : World) =>
                            cnd (x == (2 : Int))
                              (CallT [Ty.one (Sh.int IntKind.i64)] Try.prog (54 : Nat)
                                [Value.pointer none, Value.slice s3.a s3.len s3.cap] w' fun (x : Int) (w' : World) =>
                                cnd (x == (2 : Int))
                                  (CallT [Ty.one (Sh.int IntKind.i64)] Try.prog (45 : Nat) [Value.pointer none] w'
                                    fun (x : Int) (w' : World) =>
                                    cnd (x == (2 : Int))
                                      (CallT [Ty.one (Sh.int IntKind.i64)] Try.prog (57 : Nat)
                                        [Value.pointer none, Value.int IntKind.i64 n0, Value.int IntKind.i64 n1] w'
                                        fun (x : Int) (w' : World) =>
                                        cnd (x == (2 : Int))
                                          (CallT [Ty.one Sh.bool] Try.prog (43 : Nat) [Value.pointer none] w'
                                            fun (x : Bool) (w' : World) =>
                                            cnd (!x)
                                              (CallT [Ty.one (Sh.int IntKind.i64)] Try.prog (55 : Nat) [Value.pointer none]
                                                w' fun (x : Int) (w' : World) =>
                                                cnd (x == (0 : Int))
                                                  (CallT [Ty.one (Sh.int IntKind.i64)] Try.prog (62 : Nat)
                                                    [Value.pointer none] w' fun (x : Int) (w' : World) =>
                                                    cnd (x == (0 : Int))
                                                      (CallT [Ty.one Sh.ptr] Try.prog (56 : Nat) [Value.pointer none] w'
                                                        fun (x : Option Addr) (w' : World) => R x.isNone w')
                                                      (R false w'))
                                                  (R false w'))
                                              (R false w'))
                                          (R false w'))
                                      (R false w'))
                                  (R false w'))
                              (R false w'))
                          (R false w'))
                      (R false w'))
                    (R false w'))
                  (R false w'))
              (R false w'))
          (R false w'))
  : CallT [Ty.one Sh.bool] Try.prog 12 [Value.int IntKind.i64 n0, Value.int IntKind.i64 n1, Value.slice s2.a s2.len s2.cap, Value.slice s3.a s3.len s3.cap] w R :=
  fnV_sound (h := HT.z) Try.func12 (by kernel_rfl) (by kernel_rfl) (Eq.mp (by kernel_rfl) h)

/-- dunnage/dunnagelaw06.FrameBack -/
theorem dunnagelaw06_FrameBack.vc (n0 : Int) (n1 : Int) (s2 : SV) (s3 : SV) (w : World) (R : Bool → World → Prop)
  (h : CallT [Ty.one Sh.slice, Ty.one (Sh.int IntKind.i64)] Try.prog (28 : Nat)
      [Value.int IntKind.u64 n0, Value.int IntKind.u64 n1, Value.slice s2.a s2.len s2.cap] w
      fun (x : SV × Int) (w' : World) =>
      ∃ (R_1 : PUnit → World → Prop),
        (CallT [Ty.one Sh.bool] Try.prog (30 : Nat) [] w' fun (x_1 : Bool) (w' : World) =>
            cnd (!x_1) (R false w')
              (cnd (!(x.snd == (0 : Int)) == decide ((↑s2.len : Int) ≤ (8192 : Int))) (R false w') (R_1 () w'))) ∧
          ∀ (x_1 : PUnit) (j : Nat → Value) (w' : World),
            R_1 x_1 w' →
              ∃ (R_2 : PUnit → World → Prop),
                cnd (x.snd == (0 : Int))
                    (CallT [Ty.one Sh.slice, Ty.one Sh.bool] Try.prog (63 : Nat) [Value.slice x.fst.a x.fst.len x.fst.cap]
                      w' fun (x_2 : SV × Bool) (w' : World) =>
                      ∃ (R_3 : PUnit → World → Prop),
                        cnd (!x_2.snd) (R false w')
                            (CallT [Ty.one (Sh.int IntKind.i64)] Try.prog (51 : Nat) [Value.int IntKind.i64 (↑s2.len : Int)]
                              w' fun (x : Int) (w' : World) => cnd ((↑x_2.fst.len : Int) != x) (R false w') (R_3 () w')) ∧
                          ∀ (x_3 : PUnit) (j : Nat → Value) (w' : World),
                            R_3 x_3 w' →
                              CallT [Ty.one Sh.slice, Ty.one (Sh.int IntKind.i64)] Try.prog (35 : Nat)
                                [Value.slice x_2.fst.a x_2.fst.len x_2.fst.cap] w' fun (x_4 : SV × Int) (w' : World) =>
                                ∃ (R_4 : PUnit → World → Prop),
                                  cnd (x_4.snd != (0 : Int)) (R false w')
                                      (CallT [Ty.one Sh.bool] Try.prog (33 : Nat)
                                        [Value.slice x_4.fst.a x_4.fst.len x_4.fst.cap, Value.slice s2.a s2.len s2.cap] w'
                                        fun (x : Bool) (w' : World) => cnd (!x) (R false w') (R_4 () w')) ∧
                                    ∀ (x_5 : PUnit) (j : Nat → Value) (w' : World),
                                      R_4 x_5 w' →
                                        ∃ (I : Nat → Int → World → Prop),
                                          (∃ (n : Nat), I n (0 : Int) w') ∧
                                            ∀ (n : Nat) (x_6 : Int) (j : Nat → Value) (w' : World),
                                              I n x_6 w' →
                                                cnd (decide (x_6 < (↑x.fst.len : Int)))
                                                  ((0 : Int) ≤ x_6 ∧
                                                    x_6 < (↑x.fst.len : Int) ∧
                                                      onP x.fst.a fun (A : Addr) =>
                                                        ∃ (x_7 : SV),
                                                          w'.cell? (A.add (x_6.toNat * (1 : Nat))) =
                                                              some (Value.slice x_7.a x_7.len x_7.cap) ∧
                                                            cnd (decide ((↑x_7.len : Int) > (496 : Int))) (R false w')
                                                              ((0 : Int) ≤ x_6 ∧
                                                                x_6 < (↑x_2.fst.len : Int) ∧
                                                                  onP x_2.fst.a fun (A : Addr) =>
                                                                    ∃ (x_8 : Int),
                                                                      w'.cell?
                                                                            ((A.add (x_6.toNat * (4 : Nat))).add
                                                                              (0 : Nat)) =
                                                                          some (Value.int IntKind.u64 x_8) ∧
                                                                        cnd (x_8 != n0) (R false w')
                                                                          ((0 : Int) ≤ x_6 ∧
                                                                            x_6 < (↑x_2.fst.len : Int) ∧
                                                                              onP x_2.fst.a fun (A : Addr) =>
                                                                                ∃ (x_9 : Int),
                                                                                  w'.cell?
                                                                                        ((A.add (x_6.toNat * (4 : Nat))).add
                                                                                          (1 : Nat)) =
                                                                                      some (Value.int IntKind.u64 x_9) ∧
                                                                                    cnd (x_9 != n1) (R false w')
                                                                                      ((0 : Int) ≤ x_6 ∧
                                                                                        x_6 < (↑x_2.fst.len : Int) ∧
                                                                                          onP x_2.fst.a fun (A : Addr) =>
                                                                                            ∃ (x_10 : Int),
                                                                                              w'.cell?
                                                                                                    ((A.add
                                                                                                          (x_6.toNat *
                                                                                                            (4 : Nat))).add
                                                                                                      (2 : Nat)) =
                                                                                                  some
                                                                                                    (Value.int IntKind.i64
                                                                                                      x_10) ∧
                                                                                                cnd
                                                                                                  (x_10 !=
                                                                                                    (↑x.fst.len : Int))
                                                                                                  (R false w')
                                                                                                  (∃ (m : Nat),
                                                                                                    m < n ∧
                                                                                                      I m
                                                                                                        (IntKind.i64.wrap
                                                                                                          (x_6 + (1 : Int)))
                                                                                                        w')))))
                                                  (R_2 () w'))
                    (R_2 () w') ∧
                  ∀ (x : PUnit) (j : Nat → Value) (w' : World),
                    R_2 x w' →
                      CallT
                        [Ty.agg [Sh.int IntKind.u64, Sh.int IntKind.u64, Sh.int IntKind.i64, Sh.slice],
                          Ty.one (Sh.int IntKind.i64)]
                        Try.prog (48 : Nat) [Value.slice s3.a s3.len s3.cap] w'
                        fun (x : (Int × Int × Int × SV) × Int) (w' : World) =>
                        let w1 :=
                          w'.alloc
                            (Obj.cells
                              #[Value.int IntKind.u64 (0 : Int), Value.int IntKind.u64 (0 : Int),
                                Value.int IntKind.i64 (0 : Int), Value.slice none (0 : Nat) (0 : Nat)]
                              (51 : Nat));
                        canSt w1 (Addr.mk w'.heap.size (0 : Nat) none) (4 : Nat) ∧
                          let w1 :=
                            setCells w1 (Addr.mk w'.heap.size (0 : Nat) none) (0 : Nat)
                              [Value.int IntKind.u64 x.fst.fst, Value.int IntKind.u64 x.fst.snd.fst,
                                Value.int IntKind.i64 x.fst.snd.snd.fst,
                                Value.slice x.fst.snd.snd.snd.a x.fst.snd.snd.snd.len x.fst.snd.snd.snd.cap];
                          cnd (x.snd != (0 : Int)) (R true w1)
                            (∃ (x : Int × Int × Int × SV),
                              cellsAt w1 (Addr.mk w'.heap.size (0 : Nat) none)
                                  [Value.int IntKind.u64 x.fst, Value.int IntKind.u64 x.snd.fst,
                                    Value.int IntKind.i64 x.snd.snd.fst,
                                    Value.slice x.snd.snd.snd.a x.snd.snd.snd.len x.snd.snd.snd.cap] ∧
                                CallT [Ty.one Sh.slice, Ty.one (Sh.int IntKind.i64)] Try.prog (46 : Nat)
                                  [Value.agg
                                      #[Value.int IntKind.u64 x.fst, Value.int IntKind.u64 x.snd.fst,
                                        Value.int IntKind.i64 x.snd.snd.fst,
                                        Value.slice x.snd.snd.snd.a x.snd.snd.snd.len x.snd.snd.snd.cap]]
                                  w1 fun (x : SV × Int) (w' : World) =>
                                  cnd (x.snd == (0 : Int))
                                    (CallT [Ty.one Sh.bool] Try.prog (33 : Nat)
                                      [Value.slice x.fst.a x.fst.len x.fst.cap, Value.slice s3.a s3.len s3.cap] w'
                                      fun (x : Bool) (w' : World) => R x w')
                                    (R false w')))
  : CallT [Ty.one Sh.bool] Try.prog 13 [Value.int IntKind.u64 n0, Value.int IntKind.u64 n1, Value.slice s2.a s2.len s2.cap, Value.slice s3.a s3.len s3.cap] w R :=
  fnV_sound (h := HT.z.sq
  (HT.z.sq
    (HT.jn [] HT.z
      (HT.jn []
        (HT.z.sq
          ((HT.z.sq
                (HT.jn [] HT.z
                  (HT.z.sq (HT.jn [] HT.z (HT.z.sq (HT.lp [((15 : Nat), Ty.one (Sh.int IntKind.i64))] HT.z).bl))))).cd
            HT.z))
        HT.z)))) Try.func13 (by kernel_rfl) (by kernel_rfl) (Eq.mp (by kernel_rfl) h)

/-- dunnage/dunnagelaw06.FrameMixed -/
theorem dunnagelaw06_FrameMixed.vc (n0 : Int) (n1 : Int) (s2 : SV) (n3 : Int) (n4 : Int) (s5 : SV) (n6 : Int) (w : World) (R : Bool → World → Prop)
  (h : CallT [Ty.one Sh.slice, Ty.one (Sh.int IntKind.i64)] Try.prog (28 : Nat)
      [Value.int IntKind.u64 n0, Value.int IntKind.u64 n1, Value.slice s2.a s2.len s2.cap] w
      fun (x : SV × Int) (w' : World) =>
      CallT [Ty.one Sh.slice, Ty.one (Sh.int IntKind.i64)] Try.prog (28 : Nat)
        [Value.int IntKind.u64 n3, Value.int IntKind.u64 n4, Value.slice s5.a s5.len s5.cap] w'
        fun (x_1 : SV × Int) (w' : World) =>
        ∃ (R_1 : PUnit → World → Prop),
          (∃ (R_2 : Bool → World → Prop),
              (CallT [Ty.one Sh.bool] Try.prog (30 : Nat) [] w' fun (x_2 : Bool) (w' : World) =>
                  cnd (!x_2) (R_2 true w') (cnd (x.snd != (0 : Int)) (R_2 true w') (R_2 (x_1.snd != (0 : Int)) w'))) ∧
                ∀ (x : Bool) (j : Nat → Value) (w' : World),
                  R_2 x w' →
                    cnd x (CallT [Ty.one Sh.bool] Try.prog (30 : Nat) [] w' fun (x : Bool) (w' : World) => R x w')
                      (R_1 () w')) ∧
            ∀ (x_2 : PUnit) (j : Nat → Value) (w' : World),
              R_1 x_2 w' →
                CallT [Ty.one Sh.slice, Ty.one Sh.bool] Try.prog (63 : Nat) [Value.slice x.fst.a x.fst.len x.fst.cap] w'
                  fun (x : SV × Bool) (w' : World) =>
                  CallT [Ty.one Sh.slice, Ty.one Sh.bool] Try.prog (63 : Nat)
                    [Value.slice x_1.fst.a x_1.fst.len x_1.fst.cap] w' fun (x_3 : SV × Bool) (w' : World) =>
                    ∃ (R_2 : PUnit → World → Prop),
                      cnd (!x.snd) (R false w') (cnd (!x_3.snd) (R false w') (R_2 () w')) ∧
                        ∀ (x_4 : PUnit) (j : Nat → Value) (w' : World),
                          R_2 x_4 w' →
                            IntKind.u64.wrap (↑x.fst.len : Int) ≠ (0 : Int) ∧
                              ∃ (R_3 : PUnit → World → Prop),
                                cnd (decide ((↑x.fst.len : Int) > (1 : Int)))
                                    (∃ (S : World → Prop),
                                      S w'.drew ∧
                                        (0 : Int) ≤
                                            IntKind.i64.wrap
                                              ((IntKind.u64.wrap n6).tmod (IntKind.u64.wrap (↑x.fst.len : Int))) ∧
                                          IntKind.i64.wrap
                                                ((IntKind.u64.wrap n6).tmod (IntKind.u64.wrap (↑x.fst.len : Int))) ≤
                                              (↑x.fst.cap : Int) ∧
                                            let e1 :=
                                              IntKind.i64.wrap
                                                (IntKind.i64.wrap
                                                    ((IntKind.u64.wrap n6).tmod (IntKind.u64.wrap (↑x.fst.len : Int))) +
                                                  (1 : Int));
                                            (0 : Int) ≤ e1 ∧
                                              e1 ≤ (↑x.fst.len : Int) ∧
                                                appV Try.prog [(35 : Nat), (35 : Nat)] (35 : Nat)
                                                  [Value.slice none (0 : Nat) (0 : Nat),
                                                    Value.slice (subA x.fst.a (0 : Nat) (4 : Nat) x.fst.cap)
                                                      ((IntKind.i64.wrap
                                                            ((IntKind.u64.wrap n6).tmod
                                                              (IntKind.u64.wrap (↑x.fst.len : Int)))).toNat -
                                                        (0 : Nat))
                                                      (x.fst.cap - (0 : Nat))]
                                                  w'.drew fun (s : SV) (w' : World) =>
                                                  appV Try.prog [(35 : Nat), (35 : Nat)] (35 : Nat)
                                                    [Value.slice s.a s.len s.cap,
                                                      Value.slice (subA x.fst.a e1.toNat (4 : Nat) x.fst.cap)
                                                        (x.fst.len - e1.toNat) (x.fst.cap - e1.toNat)]
                                                    w' fun (s : SV) (w' : World) =>
                                                    CallT [Ty.one Sh.slice, Ty.one (Sh.int IntKind.i64)] Try.prog (35 : Nat)
                                                      [Value.slice s.a s.len s.cap] w' fun (x : SV × Int) (w' : World) =>
                                                      cnd (x.snd != (11 : Int)) (R false w') (R_3 () w'))
                                    (R_3 () w') ∧
                                  ∀ (x_5 : PUnit) (j : Nat → Value) (w' : World),
                                    R_3 x_5 w' →
                                      ∃ (S : World → Prop),
                                        S w'.drew ∧
                                          let e1 :=
                                            IntKind.i64.wrap
                                              (IntKind.i64.wrap
                                                  ((IntKind.u64.wrap n6).tmod (IntKind.u64.wrap (↑x.fst.len : Int))) +
                                                (1 : Int));
                                          (0 : Int) ≤ e1 ∧
                                            e1 ≤ (↑x.fst.cap : Int) ∧
                                              (0 : Int) ≤
                                                  IntKind.i64.wrap
                                                    ((IntKind.u64.wrap n6).tmod (IntKind.u64.wrap (↑x.fst.len : Int))) ∧
                                                IntKind.i64.wrap
                                                      ((IntKind.u64.wrap n6).tmod (IntKind.u64.wrap (↑x.fst.len : Int))) ≤
                                                    (↑x.fst.len : Int) ∧
                                                  appV Try.prog [(35 : Nat), (35 : Nat)] (35 : Nat)
                                                    [Value.slice none (0 : Nat) (0 : Nat),
                                                      Value.slice (subA x.fst.a (0 : Nat) (4 : Nat) x.fst.cap)
                                                        (e1.toNat - (0 : Nat)) (x.fst.cap - (0 : Nat))]
                                                    w'.drew fun (s : SV) (w' : World) =>
                                                    appV Try.prog [(35 : Nat), (35 : Nat)] (35 : Nat)
                                                      [Value.slice s.a s.len s.cap,
                                                        Value.slice
                                                          (subA x.fst.a
                                                            (IntKind.i64.wrap
                                                                ((IntKind.u64.wrap n6).tmod
                                                                  (IntKind.u64.wrap (↑x.fst.len : Int)))).toNat
                                                            (4 : Nat) x.fst.cap)
                                                          (x.fst.len -
                                                            (IntKind.i64.wrap
                                                                ((IntKind.u64.wrap n6).tmod
                                                                  (IntKind.u64.wrap (↑x.fst.len : Int)))).toNat)
                                                          (x.fst.cap -
                                                            (IntKind.i64.wrap
                                                                ((IntKind.u64.wrap n6).tmod
                                                                  (IntKind.u64.wrap (↑x.fst.len : Int)))).toNat)]
                                                      w' fun (s : SV) (w' : World) =>
                                                      CallT [Ty.one Sh.slice, Ty.one (Sh.int IntKind.i64)] Try.prog
                                                        (35 : Nat) [Value.slice s.a s.len s.cap] w'
                                                        fun (x_6 : SV × Int) (w' : World) =>
                                                        ∃ (R_4 : PUnit → World → Prop),
                                                          cnd (x_6.snd != (11 : Int)) (R (x_6.snd == (11 : Int)) w')
                                                              (cnd
                                                                (decide
                                                                  (IntKind.i64.wrap
                                                                      ((IntKind.u64.wrap n6).tmod
                                                                        (IntKind.u64.wrap (↑x.fst.len : Int))) ≥
                                                                    (↑x_3.fst.len : Int)))
                                                                (R (x_6.snd == (11 : Int)) w') (R_4 () w')) ∧
                                                            ∀ (x_7 : PUnit) (j : Nat → Value) (w' : World),
                                                              R_4 x_7 w' →
                                                                appV Try.prog [(35 : Nat), (35 : Nat)] (35 : Nat)
                                                                  [Value.slice none (0 : Nat) (0 : Nat),
                                                                    Value.slice x.fst.a x.fst.len x.fst.cap]
                                                                  w' fun (s : SV) (w' : World) =>
                                                                  (0 : Int) ≤
                                                                      IntKind.i64.wrap
                                                                        ((IntKind.u64.wrap n6).tmod
                                                                          (IntKind.u64.wrap (↑x.fst.len : Int))) ∧
                                                                    IntKind.i64.wrap
                                                                          ((IntKind.u64.wrap n6).tmod
                                                                            (IntKind.u64.wrap (↑x.fst.len : Int))) <
                                                                        (↑x_3.fst.len : Int) ∧
                                                                      onP x_3.fst.a fun (A : Addr) =>
                                                                        ∃ (x_8 : Int × Int × Int × SV),
                                                                          cellsAt w'
                                                                              (A.add
                                                                                ((IntKind.i64.wrap
                                                                                      ((IntKind.u64.wrap n6).tmod
                                                                                        (IntKind.u64.wrap
                                                                                          (↑x.fst.len : Int)))).toNat *
                                                                                  (4 : Nat)))
                                                                              [Value.int IntKind.u64 x_8.fst,
                                                                                Value.int IntKind.u64 x_8.snd.fst,
                                                                                Value.int IntKind.i64 x_8.snd.snd.fst,
                                                                                Value.slice x_8.snd.snd.snd.a
                                                                                  x_8.snd.snd.snd.len x_8.snd.snd.snd.cap] ∧
                                                                            (0 : Int) ≤
                                                                                IntKind.i64.wrap
                                                                                  ((IntKind.u64.wrap n6).tmod
                                                                                    (IntKind.u64.wrap (↑x.fst.len : Int))) ∧
                                                                              IntKind.i64.wrap
                                                                                    ((IntKind.u64.wrap n6).tmod
                                                                                      (IntKind.u64.wrap
                                                                                        (↑x.fst.len : Int))) <
                                                                                  (↑s.len : Int) ∧
                                                                                onP s.a fun (A : Addr) =>
                                                                                  canSt w'
                                                                                      (A.add
                                                                                        ((IntKind.i64.wrap
                                                                                              ((IntKind.u64.wrap n6).tmod
                                                                                                (IntKind.u64.wrap
                                                                                                  (↑x.fst.len :
                                                                                                    Int)))).toNat *
                                                                                          (4 : Nat)))
                                                                                      (4 : Nat) ∧
                                                                                    let w1 :=
                                                                                      setCells w'
                                                                                        (A.add
                                                                                          ((IntKind.i64.wrap
                                                                                                ((IntKind.u64.wrap n6).tmod
                                                                                                  (IntKind.u64.wrap
                                                                                                    (↑x.fst.len :
                                                                                                      Int)))).toNat *
                                                                                            (4 : Nat)))
                                                                                        (0 : Nat)
                                                                                        [Value.int IntKind.u64 x_8.fst,
                                                                                          Value.int IntKind.u64 x_8.snd.fst,
                                                                                          Value.int IntKind.i64
                                                                                            x_8.snd.snd.fst,
                                                                                          Value.slice x_8.snd.snd.snd.a
                                                                                            x_8.snd.snd.snd.len
                                                                                            x_8.snd.snd.snd.cap];
                                                                                    ∃ (R_5 : Bool → World → Prop),
                                                                                      cnd (n0 == n3)
                                                                                          (cnd (n1 == n4)
                                                                                            (R_5
                                                                                              ((↑x.fst.len : Int) ==
                                                                                                (↑x_3.fst.len : Int))
                                                                                              w1)
                                                                                            (R_5 false w1))
                                                                                          (R_5 false w1) ∧
                                                                                        ∀ (x_9 : Bool) (j : Nat → Value)
                                                                                          (w' : World),
                                                                                          R_5 x_9 w' →
                                                                                            CallT
                                                                                              [Ty.one Sh.slice,
                                                                                                Ty.one (Sh.int IntKind.i64)]
                                                                                              Try.prog (35 : Nat)
                                                                                              [Value.slice s.a s.len s.cap]
                                                                                              w'
                                                                                              fun (x_10 : SV × Int)
                                                                                                (w' : World) =>
                                                                                              cnd
                                                                                                ((↑x.fst.len : Int) ==
                                                                                                  (1 : Int))
                                                                                                (R true w')
                                                                                                (R
                                                                                                  (x_9 ==
                                                                                                    (x_10.snd == (0 : Int)))
                                                                                                  w'))
  : CallT [Ty.one Sh.bool] Try.prog 14 [Value.int IntKind.u64 n0, Value.int IntKind.u64 n1, Value.slice s2.a s2.len s2.cap, Value.int IntKind.u64 n3,
  Value.int IntKind.u64 n4, Value.slice s5.a s5.len s5.cap, Value.int IntKind.i64 n6] w R :=
  fnV_sound (h := HT.z.sq
  (HT.z.sq
    (HT.z.sq
      (HT.jn [] (HT.jn [((57 : Nat), Ty.one Sh.bool)] HT.z HT.z)
        (HT.z.sq
          (HT.z.sq
            (HT.jn [] HT.z
              (HT.z.sq
                (HT.jn []
                  (HT.z.sq
                    (((HT.dr
                              (DT.take (0 : Nat)
                                (DT.take (1 : Nat)
                                  (DT.take (2 : Nat)
                                    (DT.take (4 : Nat)
                                      (DT.take (5 : Nat)
                                        (DT.take (6 : Nat)
                                          (DT.take (7 : Nat)
                                            (DT.alt (3 : Nat) (DT.alt (8 : Nat) (DT.take (9 : Nat) DT.fin) DT.fin)
                                              DT.fin))))))))).sq
                          HT.z).cd
                      HT.z))
                  ((HT.dr
                        (DT.take (0 : Nat)
                          (DT.take (1 : Nat)
                            (DT.take (2 : Nat)
                              (DT.take (3 : Nat)
                                (DT.take (5 : Nat)
                                  (DT.take (6 : Nat)
                                    (DT.take (7 : Nat)
                                      (DT.alt (4 : Nat) (DT.alt (8 : Nat) (DT.take (9 : Nat) DT.fin) DT.fin)
                                        DT.fin))))))))).sq
                    (HT.z.sq
                      (HT.jn [] HT.z (HT.z.sq (HT.z.sq (HT.jn [((31 : Nat), Ty.one Sh.bool)] HT.z HT.z))))))))))))))) Try.func14 (by kernel_rfl) (by kernel_rfl) (Eq.mp (by kernel_rfl) h)

/-- dunnage/dunnagelaw29.ScrubNil -/
theorem dunnagelaw29_ScrubNil.vc (n0 : Int) (n1 : Int) (n2 : Int) (w : World) (R : Bool → World → Prop)
  (h : CallT [Ty.one Sh.ptr, Ty.one (Sh.int IntKind.i64)] Try.prog (37 : Nat) [Value.int IntKind.i64 (256 : Int)] w
      fun (x : Option Addr × Int) (w' : World) =>
      CallT
        [Ty.agg
            [Sh.int IntKind.i64, Sh.int IntKind.i64, Sh.int IntKind.i64, Sh.int IntKind.i64, Sh.int IntKind.i64,
              Sh.int IntKind.i64, Sh.int IntKind.i64, Sh.int IntKind.i64, Sh.int IntKind.i64],
          Ty.one (Sh.int IntKind.i64)]
        Try.prog (64 : Nat) [Value.int IntKind.i64 (256 : Int)] w'
        fun (x_1 : (Int × Int × Int × Int × Int × Int × Int × Int × Int) × Int) (w' : World) =>
        let w1 :=
          w'.alloc
            (Obj.cells
              #[Value.int IntKind.i64 (0 : Int), Value.int IntKind.i64 (0 : Int), Value.int IntKind.i64 (0 : Int),
                Value.int IntKind.i64 (0 : Int), Value.int IntKind.i64 (0 : Int), Value.int IntKind.i64 (0 : Int),
                Value.int IntKind.i64 (0 : Int), Value.int IntKind.i64 (0 : Int), Value.int IntKind.i64 (0 : Int)]
              (83 : Nat));
        canSt w1 (Addr.mk w'.heap.size (0 : Nat) none) (9 : Nat) ∧
          let w1 :=
            setCells w1 (Addr.mk w'.heap.size (0 : Nat) none) (0 : Nat)
              [Value.int IntKind.i64 x_1.fst.fst, Value.int IntKind.i64 x_1.fst.snd.fst,
                Value.int IntKind.i64 x_1.fst.snd.snd.fst, Value.int IntKind.i64 x_1.fst.snd.snd.snd.fst,
                Value.int IntKind.i64 x_1.fst.snd.snd.snd.snd.fst, Value.int IntKind.i64 x_1.fst.snd.snd.snd.snd.snd.fst,
                Value.int IntKind.i64 x_1.fst.snd.snd.snd.snd.snd.snd.fst,
                Value.int IntKind.i64 x_1.fst.snd.snd.snd.snd.snd.snd.snd.fst,
                Value.int IntKind.i64 x_1.fst.snd.snd.snd.snd.snd.snd.snd.snd];
          ∃ (x_2 : Int × Int × Int × Int × Int × Int × Int × Int × Int),
            cellsAt w1 (Addr.mk w'.heap.size (0 : Nat) none)
                [Value.int IntKind.i64 x_2.fst, Value.int IntKind.i64 x_2.snd.fst, Value.int IntKind.i64 x_2.snd.snd.fst,
                  Value.int IntKind.i64 x_2.snd.snd.snd.fst, Value.int IntKind.i64 x_2.snd.snd.snd.snd.fst,
                  Value.int IntKind.i64 x_2.snd.snd.snd.snd.snd.fst, Value.int IntKind.i64 x_2.snd.snd.snd.snd.snd.snd.fst,
                  Value.int IntKind.i64 x_2.snd.snd.snd.snd.snd.snd.snd.fst,
                  Value.int IntKind.i64 x_2.snd.snd.snd.snd.snd.snd.snd.snd] ∧
              CallT [Ty.one Sh.slice, Ty.one (Sh.int IntKind.i64)] Try.prog (65 : Nat)
                [Value.pointer none,
                  Value.agg
                    #[Value.int IntKind.i64 x_2.fst, Value.int IntKind.i64 x_2.snd.fst,
                      Value.int IntKind.i64 x_2.snd.snd.fst, Value.int IntKind.i64 x_2.snd.snd.snd.fst,
                      Value.int IntKind.i64 x_2.snd.snd.snd.snd.fst, Value.int IntKind.i64 x_2.snd.snd.snd.snd.snd.fst,
                      Value.int IntKind.i64 x_2.snd.snd.snd.snd.snd.snd.fst,
                      Value.int IntKind.i64 x_2.snd.snd.snd.snd.snd.snd.snd.fst,
                      Value.int IntKind.i64 x_2.snd.snd.snd.snd.snd.snd.snd.snd]]
                w1 fun (x_3 : SV × Int) (w'_1 : World) =>
                ∃ (x_4 : Int × Int × Int × Int × Int × Int × Int × Int × Int),
                  cellsAt w'_1 (Addr.mk w'.heap.size (0 : Nat) none)
                      [Value.int IntKind.i64 x_4.fst, Value.int IntKind.i64 x_4.snd.fst,
                        Value.int IntKind.i64 x_4.snd.snd.fst, Value.int IntKind.i64 x_4.snd.snd.snd.fst,
                        Value.int IntKind.i64 x_4.snd.snd.snd.snd.fst, Value.int IntKind.i64 x_4.snd.snd.snd.snd.snd.fst,
                        Value.int IntKind.i64 x_4.snd.snd.snd.snd.snd.snd.fst,
                        Value.int IntKind.i64 x_4.snd.snd.snd.snd.snd.snd.snd.fst,
                        Value.int IntKind.i64 x_4.snd.snd.snd.snd.snd.snd.snd.snd] ∧
                    CallT [Ty.one Sh.slice, Ty.one (Sh.int IntKind.i64)] Try.prog (66 : Nat)
                      [Value.pointer none,
                        Value.agg
                          #[Value.int IntKind.i64 x_4.fst, Value.int IntKind.i64 x_4.snd.fst,
                            Value.int IntKind.i64 x_4.snd.snd.fst, Value.int IntKind.i64 x_4.snd.snd.snd.fst,
                            Value.int IntKind.i64 x_4.snd.snd.snd.snd.fst,
                            Value.int IntKind.i64 x_4.snd.snd.snd.snd.snd.fst,
                            Value.int IntKind.i64 x_4.snd.snd.snd.snd.snd.snd.fst,
                            Value.int IntKind.i64 x_4.snd.snd.snd.snd.snd.snd.snd.fst,
                            Value.int IntKind.i64 x_4.snd.snd.snd.snd.snd.snd.snd.snd],
                        Value.int IntKind.i64 n0, Value.int IntKind.i64 n1]
                      w'_1 fun (x_5 : SV × Int) (w'_2 : World) =>
                      ∃ (R_1 : PUnit → World → Prop),
                        (CallT [Ty.one Sh.bool] Try.prog (67 : Nat) [] w'_2 fun (x_6 : Bool) (w' : World) =>
                            cnd (!x_6) (R false w')
                              (cnd (Option.isNone x.fst) (R false w')
                                (cnd (decide ((↑x_3.fst.len : Int) > (0 : Int))) (R false w')
                                  (cnd (x_3.snd != (2 : Int)) (R false w')
                                    (cnd (decide ((↑x_5.fst.len : Int) > (0 : Int))) (R false w')
                                      (cnd (x_5.snd != (2 : Int)) (R false w') (R_1 () w'))))))) ∧
                          ∀ (x_6 : PUnit) (j : Nat → Value) (w'_3 : World),
                            R_1 x_6 w'_3 →
                              ∃ (x_7 : Int × Int × Int × Int × Int × Int × Int × Int × Int),
                                cellsAt w'_3 (Addr.mk w'.heap.size (0 : Nat) none)
                                    [Value.int IntKind.i64 x_7.fst, Value.int IntKind.i64 x_7.snd.fst,
                                      Value.int IntKind.i64 x_7.snd.snd.fst, Value.int IntKind.i64 x_7.snd.snd.snd.fst,
                                      Value.int IntKind.i64 x_7.snd.snd.snd.snd.fst,
                                      Value.int IntKind.i64 x_7.snd.snd.snd.snd.snd.fst,
                                      Value.int IntKind.i64 x_7.snd.snd.snd.snd.snd.snd.fst,
                                      Value.int IntKind.i64 x_7.snd.snd.snd.snd.snd.snd.snd.fst,
                                      Value.int IntKind.i64 x_7.snd.snd.snd.snd.snd.snd.snd.snd] ∧
                                  let w1 :=
                                    w'_3.alloc
                                      (Obj.cells
                                        #[Value.int IntKind.i64 (0 : Int), Value.int IntKind.i64 (0 : Int),
                                          Value.int IntKind.i64 (0 : Int), Value.int IntKind.i64 (0 : Int),
                                          Value.int IntKind.i64 (0 : Int), Value.int IntKind.i64 (0 : Int),
                                          Value.int IntKind.i64 (0 : Int), Value.int IntKind.i64 (0 : Int),
                                          Value.int IntKind.i64 (0 : Int)]
                                        (83 : Nat));
                                  canSt w1 (Addr.mk w'_3.heap.size (0 : Nat) none) (9 : Nat) ∧
                                    let w1 :=
                                      setCells w1 (Addr.mk w'_3.heap.size (0 : Nat) none) (0 : Nat)
                                        [Value.int IntKind.i64 x_7.fst, Value.int IntKind.i64 x_7.snd.fst,
                                          Value.int IntKind.i64 x_7.snd.snd.fst, Value.int IntKind.i64 x_7.snd.snd.snd.fst,
                                          Value.int IntKind.i64 x_7.snd.snd.snd.snd.fst,
                                          Value.int IntKind.i64 x_7.snd.snd.snd.snd.snd.fst,
                                          Value.int IntKind.i64 x_7.snd.snd.snd.snd.snd.snd.fst,
                                          Value.int IntKind.i64 x_7.snd.snd.snd.snd.snd.snd.snd.fst,
                                          Value.int IntKind.i64 x_7.snd.snd.snd.snd.snd.snd.snd.snd];
                                    (w1.cell? ((Addr.mk w'_3.heap.size (0 : Nat) none).add (2 : Nat))).isSome = true ∧
                                      w1.frozen? ((Addr.mk w'_3.heap.size (0 : Nat) none).add (2 : Nat)) = false ∧
                                        let w1 :=
                                          w1.setCell ((Addr.mk w'_3.heap.size (0 : Nat) none).add (2 : Nat))
                                            (Value.int IntKind.i64 n2);
                                        ∃ (R_2 : PUnit → World → Prop),
                                          (∃ (x_8 : Int × Int × Int × Int × Int × Int × Int × Int × Int),
                                              cellsAt w1 (Addr.mk w'_3.heap.size (0 : Nat) none)
                                                  [Value.int IntKind.i64 x_8.fst, Value.int IntKind.i64 x_8.snd.fst,
                                                    Value.int IntKind.i64 x_8.snd.snd.fst,
                                                    Value.int IntKind.i64 x_8.snd.snd.snd.fst,
                                                    Value.int IntKind.i64 x_8.snd.snd.snd.snd.fst,
                                                    Value.int IntKind.i64 x_8.snd.snd.snd.snd.snd.fst,
                                                    Value.int IntKind.i64 x_8.snd.snd.snd.snd.snd.snd.fst,
                                                    Value.int IntKind.i64 x_8.snd.snd.snd.snd.snd.snd.snd.fst,
                                                    Value.int IntKind.i64 x_8.snd.snd.snd.snd.snd.snd.snd.snd] ∧
                                                ∃ (x_9 : Int × Int × Int × Int × Int × Int × Int × Int × Int),
                                                  cellsAt w1 (Addr.mk w'.heap.size (0 : Nat) none)
                                                      [Value.int IntKind.i64 x_9.fst, Value.int IntKind.i64 x_9.snd.fst,
                                                        Value.int IntKind.i64 x_9.snd.snd.fst,
                                                        Value.int IntKind.i64 x_9.snd.snd.snd.fst,
                                                        Value.int IntKind.i64 x_9.snd.snd.snd.snd.fst,
                                                        Value.int IntKind.i64 x_9.snd.snd.snd.snd.snd.fst,
                                                        Value.int IntKind.i64 x_9.snd.snd.snd.snd.snd.snd.fst,
                                                        Value.int IntKind.i64 x_9.snd.snd.snd.snd.snd.snd.snd.fst,
                                                        Value.int IntKind.i64 x_9.snd.snd.snd.snd.snd.snd.snd.snd] ∧
                                                    cnd
                                                      (!(x_8.fst == x_9.fst &&
                                                          (x_8.snd.fst == x_9.snd.fst &&
                                                            (x_8.snd.snd.fst == x_9.snd.snd.fst &&
                                                              (x_8.snd.snd.snd.fst == x_9.snd.snd.snd.fst &&
                                                                (x_8.snd.snd.snd.snd.fst == x_9.snd.snd.snd.snd.fst &&
                                                                    (x_8.snd.snd.snd.snd.snd.fst ==
                                                                        x_9.snd.snd.snd.snd.snd.fst &&
                                                                      true) &&
                                                                  (x_8.snd.snd.snd.snd.snd.snd.fst ==
                                                                      x_9.snd.snd.snd.snd.snd.snd.fst &&
                                                                    (x_8.snd.snd.snd.snd.snd.snd.snd.fst ==
                                                                        x_9.snd.snd.snd.snd.snd.snd.snd.fst &&
                                                                      (x_8.snd.snd.snd.snd.snd.snd.snd.snd ==
                                                                          x_9.snd.snd.snd.snd.snd.snd.snd.snd &&
                                                                        true)))))))))
                                                      (∃ (x_10 : Int × Int × Int × Int × Int × Int × Int × Int × Int),
                                                        cellsAt w1 (Addr.mk w'_3.heap.size (0 : Nat) none)
                                                            [Value.int IntKind.i64 x_10.fst,
                                                              Value.int IntKind.i64 x_10.snd.fst,
                                                              Value.int IntKind.i64 x_10.snd.snd.fst,
                                                              Value.int IntKind.i64 x_10.snd.snd.snd.fst,
                                                              Value.int IntKind.i64 x_10.snd.snd.snd.snd.fst,
                                                              Value.int IntKind.i64 x_10.snd.snd.snd.snd.snd.fst,
                                                              Value.int IntKind.i64 x_10.snd.snd.snd.snd.snd.snd.fst,
                                                              Value.int IntKind.i64 x_10.snd.snd.snd.snd.snd.snd.snd.fst,
                                                              Value.int IntKind.i64 x_10.snd.snd.snd.snd.snd.snd.snd.snd] ∧
                                                          CallT [Ty.one Sh.slice, Ty.one (Sh.int IntKind.i64)] Try.prog
                                                            (65 : Nat)
                                                            [Value.pointer x.fst,
                                                              Value.agg
                                                                #[Value.int IntKind.i64 x_10.fst,
                                                                  Value.int IntKind.i64 x_10.snd.fst,
                                                                  Value.int IntKind.i64 x_10.snd.snd.fst,
                                                                  Value.int IntKind.i64 x_10.snd.snd.snd.fst,
                                                                  Value.int IntKind.i64 x_10.snd.snd.snd.snd.fst,
                                                                  Value.int IntKind.i64 x_10.snd.snd.snd.snd.snd.fst,
                                                                  Value.int IntKind.i64 x_10.snd.snd.snd.snd.snd.snd.fst,
                                                                  Value.int IntKind.i64
                                                                    x_10.snd.snd.snd.snd.snd.snd.snd.fst,
                                                                  Value.int IntKind.i64
                                                                    x_10.snd.snd.snd.snd.snd.snd.snd.snd]]
                                                            w1 fun (x_11 : SV × Int) (w' : World) =>
                                                            ∃ (x_12 : Int × Int × Int × Int × Int × Int × Int × Int × Int),
                                                              cellsAt w' (Addr.mk w'_3.heap.size (0 : Nat) none)
                                                                  [Value.int IntKind.i64 x_12.fst,
                                                                    Value.int IntKind.i64 x_12.snd.fst,
                                                                    Value.int IntKind.i64 x_12.snd.snd.fst,
                                                                    Value.int IntKind.i64 x_12.snd.snd.snd.fst,
                                                                    Value.int IntKind.i64 x_12.snd.snd.snd.snd.fst,
                                                                    Value.int IntKind.i64 x_12.snd.snd.snd.snd.snd.fst,
                                                                    Value.int IntKind.i64 x_12.snd.snd.snd.snd.snd.snd.fst,
                                                                    Value.int IntKind.i64
                                                                      x_12.snd.snd.snd.snd.snd.snd.snd.fst,
                                                                    Value.int IntKind.i64
                                                                      x_12.snd.snd.snd.snd.snd.snd.snd.snd] ∧
                                                                CallT [Ty.one Sh.slice, Ty.one (Sh.int IntKind.i64)]
                                                                  Try.prog (66 : Nat)
                                                                  [Value.pointer x.fst,
                                                                    Value.agg
                                                                      #[Value.int IntKind.i64 x_12.fst,
                                                                        Value.int IntKind.i64 x_12.snd.fst,
                                                                        Value.int IntKind.i64 x_12.snd.snd.fst,
                                                                        Value.int IntKind.i64 x_12.snd.snd.snd.fst,
                                                                        Value.int IntKind.i64 x_12.snd.snd.snd.snd.fst,
                                                                        Value.int IntKind.i64 x_12.snd.snd.snd.snd.snd.fst,
                                                                        Value.int IntKind.i64
                                                                          x_12.snd.snd.snd.snd.snd.snd.fst,
                                                                        Value.int IntKind.i64
                                                                          x_12.snd.snd.snd.snd.snd.snd.snd.fst,
                                                                        Value.int IntKind.i64
                                                                          x_12.snd.snd.snd.snd.snd.snd.snd.snd],
                                                                    Value.int IntKind.i64 n0, Value.int IntKind.i64 n1]
                                                                  w' fun (x : SV × Int) (w' : World) =>
                                                                  cnd (x_11.snd != (1 : Int)) (R false w')
                                                                    (cnd (x.snd != (1 : Int)) (R false w') (R_2 () w')))
                                                      (R_2 () w1)) ∧
                                            ∀ (x_8 : PUnit) (j : Nat → Value) (w'_4 : World),
                                              R_2 x_8 w'_4 →
                                                CallT [Ty.one (Sh.int IntKind.i64)] Try.prog (54 : Nat)
                                                  [Value.pointer x.fst, Value.slice none (0 : Nat) (0 : Nat)] w'_4
                                                  fun (x_9 : Int) (w'_5 : World) =>
                                                  ∃ (x_10 : Int × Int × Int × Int × Int × Int × Int × Int × Int),
                                                    cellsAt w'_5 (Addr.mk w'.heap.size (0 : Nat) none)
                                                        [Value.int IntKind.i64 x_10.fst, Value.int IntKind.i64 x_10.snd.fst,
                                                          Value.int IntKind.i64 x_10.snd.snd.fst,
                                                          Value.int IntKind.i64 x_10.snd.snd.snd.fst,
                                                          Value.int IntKind.i64 x_10.snd.snd.snd.snd.fst,
                                                          Value.int IntKind.i64 x_10.snd.snd.snd.snd.snd.fst,
                                                          Value.int IntKind.i64 x_10.snd.snd.snd.snd.snd.snd.fst,
                                                          Value.int IntKind.i64 x_10.snd.snd.snd.snd.snd.snd.snd.fst,
                                                          Value.int IntKind.i64 x_10.snd.snd.snd.snd.snd.snd.snd.snd] ∧
                                                      CallT [Ty.one Sh.slice, Ty.one (Sh.int IntKind.i64)] Try.prog
                                                        (65 : Nat)
                                                        [Value.pointer x.fst,
                                                          Value.agg
                                                            #[Value.int IntKind.i64 x_10.fst,
                                                              Value.int IntKind.i64 x_10.snd.fst,
                                                              Value.int IntKind.i64 x_10.snd.snd.fst,
                                                              Value.int IntKind.i64 x_10.snd.snd.snd.fst,
                                                              Value.int IntKind.i64 x_10.snd.snd.snd.snd.fst,
                                                              Value.int IntKind.i64 x_10.snd.snd.snd.snd.snd.fst,
                                                              Value.int IntKind.i64 x_10.snd.snd.snd.snd.snd.snd.fst,
                                                              Value.int IntKind.i64 x_10.snd.snd.snd.snd.snd.snd.snd.fst,
                                                              Value.int IntKind.i64 x_10.snd.snd.snd.snd.snd.snd.snd.snd]]
                                                        w'_5 fun (x_11 : SV × Int) (w'_6 : World) =>
                                                        ∃ (x_12 : Int × Int × Int × Int × Int × Int × Int × Int × Int),
                                                          cellsAt w'_6 (Addr.mk w'.heap.size (0 : Nat) none)
                                                              [Value.int IntKind.i64 x_12.fst,
                                                                Value.int IntKind.i64 x_12.snd.fst,
                                                                Value.int IntKind.i64 x_12.snd.snd.fst,
                                                                Value.int IntKind.i64 x_12.snd.snd.snd.fst,
                                                                Value.int IntKind.i64 x_12.snd.snd.snd.snd.fst,
                                                                Value.int IntKind.i64 x_12.snd.snd.snd.snd.snd.fst,
                                                                Value.int IntKind.i64 x_12.snd.snd.snd.snd.snd.snd.fst,
                                                                Value.int IntKind.i64 x_12.snd.snd.snd.snd.snd.snd.snd.fst,
                                                                Value.int IntKind.i64
                                                                  x_12.snd.snd.snd.snd.snd.snd.snd.snd] ∧
                                                            CallT [Ty.one Sh.slice, Ty.one (Sh.int IntKind.i64)] Try.prog
                                                              (66 : Nat)
                                                              [Value.pointer x.fst,
                                                                Value.agg
                                                                  #[Value.int IntKind.i64 x_12.fst,
                                                                    Value.int IntKind.i64 x_12.snd.fst,
                                                                    Value.int IntKind.i64 x_12.snd.snd.fst,
                                                                    Value.int IntKind.i64 x_12.snd.snd.snd.fst,
                                                                    Value.int IntKind.i64 x_12.snd.snd.snd.snd.fst,
                                                                    Value.int IntKind.i64 x_12.snd.snd.snd.snd.snd.fst,
                                                                    Value.int IntKind.i64 x_12.snd.snd.snd.snd.snd.snd.fst,
                                                                    Value.int IntKind.i64
                                                                      x_12.snd.snd.snd.snd.snd.snd.snd.fst,
                                                                    Value.int IntKind.i64
                                                                      x_12.snd.snd.snd.snd.snd.snd.snd.snd],
                                                                Value.int IntKind.i64 (0 : Int),
                                                                Value.int IntKind.i64 (0 : Int)]
                                                              w'_6 fun (x : SV × Int) (w' : World) =>
                                                              cnd (x_11.snd == (40 : Int)) (R (x.snd == (40 : Int)) w')
                                                                (R false w'))
  : CallT [Ty.one Sh.bool] Try.prog 15 [Value.int IntKind.i64 n0, Value.int IntKind.i64 n1, Value.int IntKind.i64 n2] w R :=
  fnV_sound (h := HT.z.sq (HT.z.sq (HT.z.sq (HT.z.sq (HT.z.sq (HT.jn [] HT.z (HT.z.sq (HT.z.sq (HT.jn [] HT.z HT.z))))))))) Try.func15 (by kernel_rfl) (by kernel_rfl) (Eq.mp (by kernel_rfl) h)

end Go.Proofs
