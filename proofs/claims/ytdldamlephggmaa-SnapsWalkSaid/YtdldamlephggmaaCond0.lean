/- The conditions of the seat's functions, written by a program (VcTool, genvc.py) off 'vc' reduced; each is tied to 'vc' by the kernel. Conditions: none. -/
import Derived.Test.YtdldamlephggmaaVcSound5
import Derived.Test.YtdldamlephggmaaProg
set_option linter.unusedVariables false
set_option maxRecDepth 100000
namespace Go.Proofs
open Go Go.Vc
/-- dunnage/dunnagelaw26.ForwardBoth -/
theorem dunnagelaw26_ForwardBoth.vc (s0 : SV) (s1 : SV) (n2 : Int) (n3 : Int) (w : World) (R : Bool → World → Prop)
  (h : appV Try.prog [(22 : Nat), (22 : Nat)] (22 : Nat) [Value.slice none (0 : Nat) (0 : Nat), Value.slice s0.a s0.len s0.cap]
      w fun (s : SV) (w' : World) =>
      appV Try.prog [(22 : Nat), (22 : Nat)] (22 : Nat) [Value.slice s.a s.len s.cap, Value.slice s1.a s1.len s1.cap] w'
        fun (s : SV) (w' : World) =>
        CallT [Ty.one Sh.bool] Try.prog (8 : Nat) [] w' fun (x : Bool) (w' : World) =>
          cnd x
            (CallT [Ty.one (Sh.int IntKind.i64)] Try.prog (9 : Nat)
              [Value.slice s.a s.len s.cap, Value.int IntKind.u64 n2, Value.int IntKind.i64 n3] w'
              fun (x : Int) (w' : World) =>
              CallT [Ty.one (Sh.int IntKind.i64)] Try.prog (9 : Nat)
                [Value.slice s0.a s0.len s0.cap, Value.int IntKind.u64 n2, Value.int IntKind.i64 n3] w'
                fun (x_1 : Int) (w' : World) =>
                CallT [Ty.one (Sh.int IntKind.i64)] Try.prog (9 : Nat)
                  [Value.slice s1.a s1.len s1.cap, Value.int IntKind.u64 n2, Value.int IntKind.i64 x_1] w'
                  fun (x_2 : Int) (w' : World) => R (x == x_2) w')
            (R false w'))
  : CallT [Ty.one Sh.bool] Try.prog 3 [Value.slice s0.a s0.len s0.cap, Value.slice s1.a s1.len s1.cap, Value.int IntKind.u64 n2, Value.int IntKind.i64 n3] w R :=
  fnV_sound (h := HT.z) Try.func3 (by kernel_rfl) (by kernel_rfl) (Eq.mp (by kernel_rfl) h)

/-- dunnage/dunnagelaw26.ForwardFolds -/
theorem dunnagelaw26_ForwardFolds.vc (s0 : SV) (w : World) (R : Bool → World → Prop)
  (h : ∃ (I : Nat → Int → World → Prop),
      (∃ (n : Nat), I n (0 : Int) w) ∧
        ∀ (n : Nat) (x : Int) (j : Nat → Value) (w' : World),
          I n x w' →
            cnd (decide (x < (↑s0.len : Int)))
              (∃ (I_1 : Nat → Int → World → Prop),
                (∃ (n : Nat), I_1 n (IntKind.i64.wrap (x - (1 : Int))) w') ∧
                  ∀ (n_1 : Nat) (x_1 : Int) (j : Nat → Value) (w' : World),
                    I_1 n_1 x_1 w' →
                      cnd (decide (x_1 ≥ (0 : Int)))
                        ((0 : Int) ≤ x_1 ∧
                          x_1 < (↑s0.len : Int) ∧
                            onP s0.a fun (A : Addr) =>
                              ∃ (x_2 : Int),
                                w'.drew.cell? ((A.add (x_1.toNat * (4 : Nat))).add (0 : Nat)) =
                                    some (Value.int IntKind.u64 x_2) ∧
                                  (0 : Int) ≤ x ∧
                                    x < (↑s0.len : Int) ∧
                                      onP s0.a fun (A : Addr) =>
                                        ∃ (x_3 : Int),
                                          w'.drew.cell? ((A.add (x.toNat * (4 : Nat))).add (0 : Nat)) =
                                              some (Value.int IntKind.u64 x_3) ∧
                                            cnd (x_2 == x_3)
                                              ((0 : Int) ≤ x_1 ∧
                                                x_1 < (↑s0.len : Int) ∧
                                                  onP s0.a fun (A : Addr) =>
                                                    ∃ (x_4 : Int),
                                                      w'.drew.drew.cell? ((A.add (x_1.toNat * (4 : Nat))).add (2 : Nat)) =
                                                          some (Value.int IntKind.i64 x_4) ∧
                                                        (0 : Int) ≤ x ∧
                                                          x < (↑s0.len : Int) ∧
                                                            onP s0.a fun (A : Addr) =>
                                                              ∃ (x_5 : Int),
                                                                w'.drew.drew.cell?
                                                                      ((A.add (x.toNat * (4 : Nat))).add (1 : Nat)) =
                                                                    some (Value.int IntKind.i64 x_5) ∧
                                                                  cnd (x_4 != x_5)
                                                                    (CallT [Ty.one Sh.bool] Try.prog (8 : Nat) []
                                                                      w'.drew.drew fun (x : Bool) (w' : World) => R x w')
                                                                    (∃ (m : Nat),
                                                                      m < n ∧
                                                                        I m (IntKind.i64.wrap (x + (1 : Int)))
                                                                          w'.drew.drew))
                                              (∃ (m : Nat), m < n_1 ∧ I_1 m (IntKind.i64.wrap (x_1 - (1 : Int))) w'.drew))
                        (∃ (m : Nat), m < n ∧ I m (IntKind.i64.wrap (x + (1 : Int))) w'))
              (CallT [Ty.one Sh.slice] Try.prog (10 : Nat) [Value.slice s0.a s0.len s0.cap] w' fun (x : SV) (w' : World) =>
                CallT [Ty.one Sh.bool] Try.prog (8 : Nat) [] w' fun (x_1 : Bool) (w' : World) =>
                  cnd (!x_1) (R false w')
                    (∃ (I : Nat → Int → World → Prop),
                      (∃ (n : Nat), I n (0 : Int) w') ∧
                        ∀ (n : Nat) (x_2 : Int) (j : Nat → Value) (w' : World),
                          I n x_2 w' →
                            cnd (decide (x_2 < (↑s0.len : Int)))
                              (∃ (I_1 : Nat → Bool × Int → World → Prop),
                                (∃ (n : Nat), I_1 n (true, (0 : Int)) w') ∧
                                  ∀ (n_1 : Nat) (x_3 : Bool × Int) (j : Nat → Value) (w' : World),
                                    I_1 n_1 x_3 w' →
                                      let e1 := x_3.snd;
                                      cnd (decide (e1 < x_2))
                                        (cnd x_3.fst
                                          (let e1 := x_3.snd;
                                          (0 : Int) ≤ e1 ∧
                                            e1 < (↑s0.len : Int) ∧
                                              onP s0.a fun (A : Addr) =>
                                                ∃ (x : Int),
                                                  w'.drew.cell? ((A.add (e1.toNat * (4 : Nat))).add (0 : Nat)) =
                                                      some (Value.int IntKind.u64 x) ∧
                                                    (0 : Int) ≤ x_2 ∧
                                                      x_2 < (↑s0.len : Int) ∧
                                                        onP s0.a fun (A : Addr) =>
                                                          ∃ (x_4 : Int),
                                                            w'.drew.cell? ((A.add (x_2.toNat * (4 : Nat))).add (0 : Nat)) =
                                                                some (Value.int IntKind.u64 x_4) ∧
                                                              ∃ (m : Nat),
                                                                m < n_1 ∧
                                                                  I_1 m (x != x_4, IntKind.i64.wrap (x_3.snd + (1 : Int)))
                                                                    w'.drew)
                                          (∃ (m : Nat),
                                            m < n_1 ∧ I_1 m (false, IntKind.i64.wrap (x_3.snd + (1 : Int))) w'.drew))
                                        (∃ (S : World → Prop),
                                          S w'.drew ∧
                                            cnd x_3.fst
                                              ((0 : Int) ≤ x_2 ∧
                                                x_2 < (↑s0.len : Int) ∧
                                                  onP s0.a fun (A : Addr) =>
                                                    ∃ (x_4 : Int),
                                                      (∀ (w : World),
                                                          S w →
                                                            w.cell? ((A.add (x_2.toNat * (4 : Nat))).add (0 : Nat)) =
                                                              some (Value.int IntKind.u64 x_4)) ∧
                                                        (0 : Int) ≤ x_2 ∧
                                                          x_2 < (↑s0.len : Int) ∧
                                                            onP s0.a fun (A : Addr) =>
                                                              ∃ (x_5 : Int),
                                                                (∀ (w : World),
                                                                    S w →
                                                                      w.cell?
                                                                          ((A.add (x_2.toNat * (4 : Nat))).add (1 : Nat)) =
                                                                        some (Value.int IntKind.i64 x_5)) ∧
                                                                  (0 : Int) ≤ x_2 ∧
                                                                    x_2 < (↑s0.len : Int) ∧
                                                                      onP s0.a fun (A : Addr) =>
                                                                        ∃ (x_6 : Int),
                                                                          (∀ (w : World),
                                                                              S w →
                                                                                w.cell?
                                                                                    ((A.add (x_2.toNat * (4 : Nat))).add
                                                                                      (0 : Nat)) =
                                                                                  some (Value.int IntKind.u64 x_6)) ∧
                                                                            (0 : Int) ≤ x_2 ∧
                                                                              x_2 < (↑s0.len : Int) ∧
                                                                                onP s0.a fun (A : Addr) =>
                                                                                  ∃ (x_7 : Int),
                                                                                    (∀ (w : World),
                                                                                        S w →
                                                                                          w.cell?
                                                                                              ((A.add
                                                                                                    (x_2.toNat *
                                                                                                      (4 : Nat))).add
                                                                                                (1 : Nat)) =
                                                                                            some
                                                                                              (Value.int IntKind.i64 x_7)) ∧
                                                                                      CallT [Ty.one (Sh.int IntKind.i64)]
                                                                                        Try.prog (9 : Nat)
                                                                                        [Value.slice x.a x.len x.cap,
                                                                                          Value.int IntKind.u64 x_4,
                                                                                          Value.int IntKind.i64 x_5]
                                                                                        w'.drew
                                                                                        fun (x : Int) (w' : World) =>
                                                                                        S w' ∧
                                                                                          CallT
                                                                                            [Ty.one (Sh.int IntKind.i64)]
                                                                                            Try.prog (9 : Nat)
                                                                                            [Value.slice s0.a s0.len s0.cap,
                                                                                              Value.int IntKind.u64 x_6,
                                                                                              Value.int IntKind.i64 x_7]
                                                                                            w'
                                                                                            fun (x_8 : Int) (w' : World) =>
                                                                                            S w' ∧
                                                                                              cnd (x != x_8) (R false w')
                                                                                                (∃ (m : Nat),
                                                                                                  m < n ∧
                                                                                                    I m
                                                                                                      (IntKind.i64.wrap
                                                                                                        (x_2 + (1 : Int)))
                                                                                                      w'))
                                              (S w'.drew ∧
                                                S w'.drew ∧
                                                  ∃ (m : Nat), m < n ∧ I m (IntKind.i64.wrap (x_2 + (1 : Int))) w'.drew)))
                              (∃ (I : Nat → Int → World → Prop),
                                (∃ (n : Nat), I n (0 : Int) w') ∧
                                  ∀ (n : Nat) (x_3 : Int) (j : Nat → Value) (w' : World),
                                    I n x_3 w' →
                                      cnd (decide (x_3 < (↑x.len : Int)))
                                        (∃ (I_1 : Nat → Int → World → Prop),
                                          (∃ (n : Nat), I_1 n (0 : Int) w') ∧
                                            ∀ (n_1 : Nat) (x_4 : Int) (j : Nat → Value) (w' : World),
                                              I_1 n_1 x_4 w' →
                                                cnd (decide (x_4 < x_3))
                                                  ((0 : Int) ≤ x_4 ∧
                                                    x_4 < (↑x.len : Int) ∧
                                                      onP x.a fun (A : Addr) =>
                                                        ∃ (x_5 : Int),
                                                          w'.drew.cell? ((A.add (x_4.toNat * (4 : Nat))).add (0 : Nat)) =
                                                              some (Value.int IntKind.u64 x_5) ∧
                                                            (0 : Int) ≤ x_3 ∧
                                                              x_3 < (↑x.len : Int) ∧
                                                                onP x.a fun (A : Addr) =>
                                                                  ∃ (x : Int),
                                                                    w'.drew.cell?
                                                                          ((A.add (x_3.toNat * (4 : Nat))).add (0 : Nat)) =
                                                                        some (Value.int IntKind.u64 x) ∧
                                                                      cnd (x_5 == x) (R false w'.drew)
                                                                        (∃ (m : Nat),
                                                                          m < n_1 ∧
                                                                            I_1 m (IntKind.i64.wrap (x_4 + (1 : Int)))
                                                                              w'.drew))
                                                  (∃ (m : Nat), m < n ∧ I m (IntKind.i64.wrap (x_3 + (1 : Int))) w'))
                                        (CallT [Ty.one Sh.slice] Try.prog (10 : Nat) [Value.slice x.a x.len x.cap] w'
                                          fun (x_4 : SV) (w' : World) =>
                                          CallT [Ty.one Sh.bool] Try.prog (11 : Nat)
                                            [Value.slice x_4.a x_4.len x_4.cap, Value.slice x.a x.len x.cap] w'
                                            fun (x_5 : Bool) (w' : World) =>
                                            cnd x_5 (R (decide ((↑x.len : Int) ≤ (↑s0.len : Int))) w') (R false w'))))))
  : CallT [Ty.one Sh.bool] Try.prog 4 [Value.slice s0.a s0.len s0.cap] w R :=
  fnV_sound (h := HT.z.sq
  ((HT.z.sq
        (HT.lp [((3 : Nat), Ty.one (Sh.int IntKind.i64))]
            (HT.z.sq
              ((HT.z.sq
                      (HT.lp [((4 : Nat), Ty.one (Sh.int IntKind.i64))]
                          (HT.z.sq
                            (((HT.rg (11 : Nat)).sq ((((HT.rg (11 : Nat)).sq HT.z).sq HT.z).cd HT.z)).bl.sq
                              HT.z))).bl).bl.sq
                HT.z))).bl).sq
    (HT.z.sq
      (HT.z.sq
        ((HT.z.sq
              (HT.lp [((6 : Nat), Ty.one (Sh.int IntKind.i64))]
                  (HT.z.sq
                    ((HT.z.sq
                            ((HT.z.sq
                                  (HT.lp [((7 : Nat), Ty.one Sh.bool), ((8 : Nat), Ty.one (Sh.int IntKind.i64))]
                                      (HT.z.sq ((HT.rg (15 : Nat)).bl.sq HT.z))).bl).sq
                              ((HT.dr
                                    (DT.take (0 : Nat)
                                      (DT.take (1 : Nat)
                                        (DT.take (2 : Nat)
                                          (DT.take (3 : Nat)
                                            (DT.take (4 : Nat)
                                              (DT.take (5 : Nat)
                                                (DT.take (6 : Nat)
                                                  (DT.take (7 : Nat)
                                                    (DT.take (8 : Nat)
                                                      (DT.take (9 : Nat)
                                                        (DT.take (10 : Nat)
                                                          (DT.take (11 : Nat)
                                                            (DT.take (12 : Nat)
                                                              (DT.take (14 : Nat)
                                                                (DT.take (15 : Nat)
                                                                  (DT.take (16 : Nat)
                                                                    (DT.take (17 : Nat)
                                                                      (DT.take (18 : Nat)
                                                                        (DT.take (19 : Nat)
                                                                          (DT.take (20 : Nat)
                                                                            (DT.take (21 : Nat)
                                                                              (DT.take (22 : Nat)
                                                                                (DT.take (23 : Nat)
                                                                                  (DT.take (24 : Nat)
                                                                                    (DT.alt (13 : Nat)
                                                                                      (DT.alt (25 : Nat)
                                                                                        (DT.take (26 : Nat)
                                                                                          (DT.take (27 : Nat) DT.fin))
                                                                                        DT.fin)
                                                                                      DT.fin)))))))))))))))))))))))))).sq
                                HT.z))).bl.sq
                      HT.z))).bl).sq
          ((HT.z.sq
                (HT.lp [((9 : Nat), Ty.one (Sh.int IntKind.i64))]
                    (HT.z.sq
                      ((HT.z.sq
                              (HT.lp [((10 : Nat), Ty.one (Sh.int IntKind.i64))]
                                  (HT.z.sq (((HT.rg (11 : Nat)).sq HT.z).bl.sq HT.z))).bl).bl.sq
                        HT.z))).bl).sq
            HT.z)))))) Try.func4 (by kernel_rfl) (by kernel_rfl) (Eq.mp (by kernel_rfl) h)

/-- dunnage/dunnagelaw26.ForwardTells -/
theorem dunnagelaw26_ForwardTells.vc (s0 : SV) (n1 : Int) (n2 : Int) (s3 : SV) (w : World) (R : Bool → World → Prop)
  (h : CallT [Ty.one Sh.slice] Try.prog (12 : Nat)
      [Value.slice s0.a s0.len s0.cap,
        Value.agg
          #[Value.int IntKind.u64 (71 : Int), Value.int IntKind.i64 (0 : Int), Value.int IntKind.i64 (0 : Int),
            Value.int IntKind.i64 (0 : Int)]]
      w fun (x : SV) (w' : World) =>
      CallT [Ty.one Sh.slice] Try.prog (13 : Nat)
        [Value.slice s3.a s3.len s3.cap,
          Value.agg
            #[Value.string (ByteArray.mk #[(55 : UInt8), (49 : UInt8)]), Value.int IntKind.u64 (0 : Int),
              Value.int IntKind.i64 (0 : Int), Value.int IntKind.i64 (0 : Int)]]
        w' fun (x_1 : SV) (w' : World) =>
        CallT [Ty.one Sh.bool] Try.prog (8 : Nat) [] w' fun (x_2 : Bool) (w' : World) =>
          cnd x_2
            (CallT [Ty.one (Sh.int IntKind.i64)] Try.prog (9 : Nat)
              [Value.slice x.a x.len x.cap, Value.int IntKind.u64 n1, Value.int IntKind.i64 n2] w'
              fun (x_3 : Int) (w' : World) =>
              CallT [Ty.one (Sh.int IntKind.i64)] Try.prog (14 : Nat)
                [Value.slice s0.a s0.len s0.cap, Value.int IntKind.u64 n1, Value.int IntKind.i64 n2] w'
                fun (x_4 : Int) (w' : World) =>
                cnd (x_3 == x_4)
                  (CallT [Ty.one Sh.slice] Try.prog (10 : Nat) [Value.slice x.a x.len x.cap] w'
                    fun (x_5 : SV) (w' : World) =>
                    CallT [Ty.one Sh.slice] Try.prog (15 : Nat) [Value.slice s0.a s0.len s0.cap] w'
                      fun (x_6 : SV) (w' : World) =>
                      CallT [Ty.one Sh.bool] Try.prog (11 : Nat)
                        [Value.slice x_5.a x_5.len x_5.cap, Value.slice x_6.a x_6.len x_6.cap] w'
                        fun (x_7 : Bool) (w' : World) =>
                        cnd x_7
                          (CallT [Ty.one Sh.slice] Try.prog (17 : Nat)
                            [Value.slice x_1.a x_1.len x_1.cap, Value.slice x.a x.len x.cap] w'
                            fun (x_8 : SV) (w' : World) =>
                            CallT [Ty.one Sh.slice] Try.prog (18 : Nat)
                              [Value.slice s3.a s3.len s3.cap, Value.slice s0.a s0.len s0.cap] w'
                              fun (x_9 : SV) (w' : World) =>
                              CallT [Ty.one Sh.bool] Try.prog (16 : Nat)
                                [Value.slice x_8.a x_8.len x_8.cap, Value.slice x_9.a x_9.len x_9.cap] w'
                                fun (x_10 : Bool) (w' : World) =>
                                cnd x_10
                                  (CallT [Ty.one Sh.bool] Try.prog (19 : Nat)
                                    [Value.slice x.a x.len x.cap, Value.slice s0.a s0.len s0.cap,
                                      Value.agg
                                        #[Value.int IntKind.u64 (71 : Int), Value.int IntKind.i64 (0 : Int),
                                          Value.int IntKind.i64 (0 : Int), Value.int IntKind.i64 (0 : Int)]]
                                    w' fun (x : Bool) (w' : World) =>
                                    cnd x
                                      (CallT [Ty.one Sh.bool] Try.prog (20 : Nat)
                                        [Value.slice x_1.a x_1.len x_1.cap, Value.slice s3.a s3.len s3.cap,
                                          Value.agg
                                            #[Value.string (ByteArray.mk #[(55 : UInt8), (49 : UInt8)]),
                                              Value.int IntKind.u64 (0 : Int), Value.int IntKind.i64 (0 : Int),
                                              Value.int IntKind.i64 (0 : Int)]]
                                        w' fun (x : Bool) (w' : World) => R x w')
                                      (R false w'))
                                  (R false w'))
                          (R false w'))
                  (R false w'))
            (R false w'))
  : CallT [Ty.one Sh.bool] Try.prog 5 [Value.slice s0.a s0.len s0.cap, Value.int IntKind.u64 n1, Value.int IntKind.i64 n2, Value.slice s3.a s3.len s3.cap] w R :=
  fnV_sound (h := HT.z) Try.func5 (by kernel_rfl) (by kernel_rfl) (Eq.mp (by kernel_rfl) h)

/-- dunnage/dunnagelaw19.SnapsTell -/
theorem dunnagelaw19_SnapsTell.vc (x0 : Int × SV) (n1 : Int) (w : World) (R : Bool → World → Prop)
  (h : let w1 := w.alloc (Obj.cells #[Value.int IntKind.i64 x0.fst, Value.slice x0.snd.a x0.snd.len x0.snd.cap] (46 : Nat));
    ∃ (R_1 : Option Addr → World → Prop),
      (∃ (S : World → Prop),
          S w1.drew ∧
            ∃ (x : Int),
              (∀ (w_1 : World),
                  S w_1 → w_1.cell? ((Addr.mk w.heap.size (0 : Nat) none).add (0 : Nat)) = some (Value.int IntKind.i64 x)) ∧
                ∃ (x_1 : SV),
                  (∀ (w_1 : World),
                      S w_1 →
                        w_1.cell? ((Addr.mk w.heap.size (0 : Nat) none).add (1 : Nat)) =
                          some (Value.slice x_1.a x_1.len x_1.cap)) ∧
                    (CallT [Ty.one Sh.slice] Try.prog (21 : Nat)
                        [Value.slice x_1.a x_1.len x_1.cap,
                          Value.agg #[Value.int IntKind.i64 (71 : Int), Value.int IntKind.i64 (0 : Int)]]
                        w1.drew fun (x_2 : SV) (w' : World) =>
                        S w' ∧
                          let w1 :=
                            w'.alloc
                              (Obj.cells #[Value.int IntKind.i64 (0 : Int), Value.slice none (0 : Nat) (0 : Nat)]
                                (46 : Nat));
                          S w1 ∧
                            canSt w1 (Addr.mk w'.heap.size (0 : Nat) none) (2 : Nat) ∧
                              R_1 (some (Addr.mk w'.heap.size (0 : Nat) none))
                                (setCells w1 (Addr.mk w'.heap.size (0 : Nat) none) (0 : Nat)
                                  [Value.int IntKind.i64 x, Value.slice x_2.a x_2.len x_2.cap])) ∧
                      let w1_1 :=
                        w1.drew.alloc
                          (Obj.cells #[Value.int IntKind.i64 (0 : Int), Value.slice none (0 : Nat) (0 : Nat)] (46 : Nat));
                      S w1_1 ∧
                        CallT [Ty.one Sh.slice] Try.prog (21 : Nat)
                          [Value.slice x_1.a x_1.len x_1.cap,
                            Value.agg #[Value.int IntKind.i64 (71 : Int), Value.int IntKind.i64 (0 : Int)]]
                          w1_1 fun (x_2 : SV) (w' : World) =>
                          S w' ∧
                            canSt w' (Addr.mk w1.drew.heap.size (0 : Nat) none) (2 : Nat) ∧
                              R_1 (some (Addr.mk w1.drew.heap.size (0 : Nat) none))
                                (setCells w' (Addr.mk w1.drew.heap.size (0 : Nat) none) (0 : Nat)
                                  [Value.int IntKind.i64 x, Value.slice x_2.a x_2.len x_2.cap])) ∧
        ∀ (x : Option Addr) (j : Nat → Value) (w' : World),
          R_1 x w' →
            ∃ (R_2 : Int → World → Prop),
              (∃ (x : Int × SV),
                  cellsAt w' (Addr.mk w.heap.size (0 : Nat) none)
                      [Value.int IntKind.i64 x.fst, Value.slice x.snd.a x.snd.len x.snd.cap] ∧
                    CallT [Ty.one Sh.bool] Try.prog (22 : Nat)
                      [Value.agg #[Value.int IntKind.i64 x.fst, Value.slice x.snd.a x.snd.len x.snd.cap]] w'
                      fun (x : Bool) (w' : World) => cnd (!x) (R_2 (11 : Int) w') (R_2 (0 : Int) w')) ∧
                ∀ (x_1 : Int) (j : Nat → Value) (w' : World),
                  R_2 x_1 w' →
                    onP x fun (A : Addr) =>
                      ∃ (x_2 : Int × SV),
                        cellsAt w' A [Value.int IntKind.i64 x_2.fst, Value.slice x_2.snd.a x_2.snd.len x_2.snd.cap] ∧
                          CallT
                            [Ty.agg [Sh.int IntKind.i64, Sh.slice], Ty.agg [Sh.int IntKind.i64, Sh.int IntKind.i64],
                              Ty.one (Sh.int IntKind.i64)]
                            Try.prog (23 : Nat)
                            [Value.agg #[Value.int IntKind.i64 x_2.fst, Value.slice x_2.snd.a x_2.snd.len x_2.snd.cap]] w'
                            fun (x_3 : (Int × SV) × (Int × Int) × Int) (w' : World) =>
                            let w1 :=
                              w'.alloc
                                (Obj.cells #[Value.int IntKind.i64 (0 : Int), Value.slice none (0 : Nat) (0 : Nat)]
                                  (46 : Nat));
                            let w1_1 :=
                              w1.alloc
                                (Obj.cells #[Value.int IntKind.i64 (0 : Int), Value.int IntKind.i64 (0 : Int)] (49 : Nat));
                            canSt w1_1 (Addr.mk w'.heap.size (0 : Nat) none) (2 : Nat) ∧
                              let w1_2 :=
                                setCells w1_1 (Addr.mk w'.heap.size (0 : Nat) none) (0 : Nat)
                                  [Value.int IntKind.i64 x_3.fst.fst,
                                    Value.slice x_3.fst.snd.a x_3.fst.snd.len x_3.fst.snd.cap];
                              canSt w1_2 (Addr.mk w1.heap.size (0 : Nat) none) (2 : Nat) ∧
                                let w1_3 :=
                                  setCells w1_2 (Addr.mk w1.heap.size (0 : Nat) none) (0 : Nat)
                                    [Value.int IntKind.i64 x_3.snd.fst.fst, Value.int IntKind.i64 x_3.snd.fst.snd];
                                ∃ (x_4 : Int × SV),
                                  cellsAt w1_3 (Addr.mk w.heap.size (0 : Nat) none)
                                      [Value.int IntKind.i64 x_4.fst, Value.slice x_4.snd.a x_4.snd.len x_4.snd.cap] ∧
                                    CallT
                                      [Ty.agg [Sh.int IntKind.i64, Sh.slice],
                                        Ty.agg [Sh.int IntKind.i64, Sh.int IntKind.i64], Ty.one (Sh.int IntKind.i64)]
                                      Try.prog (24 : Nat)
                                      [Value.agg
                                          #[Value.int IntKind.i64 x_4.fst, Value.slice x_4.snd.a x_4.snd.len x_4.snd.cap]]
                                      w1_3 fun (x_5 : (Int × SV) × (Int × Int) × Int) (w'_1 : World) =>
                                      let w1_4 :=
                                        w'_1.alloc
                                          (Obj.cells
                                            #[Value.int IntKind.i64 (0 : Int), Value.slice none (0 : Nat) (0 : Nat)]
                                            (46 : Nat));
                                      let w1_5 :=
                                        w1_4.alloc
                                          (Obj.cells #[Value.int IntKind.i64 (0 : Int), Value.int IntKind.i64 (0 : Int)]
                                            (49 : Nat));
                                      canSt w1_5 (Addr.mk w'_1.heap.size (0 : Nat) none) (2 : Nat) ∧
                                        let w1_6 :=
                                          setCells w1_5 (Addr.mk w'_1.heap.size (0 : Nat) none) (0 : Nat)
                                            [Value.int IntKind.i64 x_5.fst.fst,
                                              Value.slice x_5.fst.snd.a x_5.fst.snd.len x_5.fst.snd.cap];
                                        canSt w1_6 (Addr.mk w1_4.heap.size (0 : Nat) none) (2 : Nat) ∧
                                          let w1_7 :=
                                            setCells w1_6 (Addr.mk w1_4.heap.size (0 : Nat) none) (0 : Nat)
                                              [Value.int IntKind.i64 x_5.snd.fst.fst,
                                                Value.int IntKind.i64 x_5.snd.fst.snd];
                                          onP x fun (A : Addr) =>
                                            ∃ (x_6 : Int × SV),
                                              cellsAt w1_7 A
                                                  [Value.int IntKind.i64 x_6.fst,
                                                    Value.slice x_6.snd.a x_6.snd.len x_6.snd.cap] ∧
                                                CallT
                                                  [Ty.agg [Sh.int IntKind.i64, Sh.slice], Ty.one (Sh.int IntKind.i64),
                                                    Ty.one (Sh.int IntKind.i64)]
                                                  Try.prog (25 : Nat)
                                                  [Value.agg
                                                      #[Value.int IntKind.i64 x_6.fst,
                                                        Value.slice x_6.snd.a x_6.snd.len x_6.snd.cap],
                                                    Value.int IntKind.i64 n1]
                                                  w1_7 fun (x_7 : (Int × SV) × Int × Int) (w'_2 : World) =>
                                                  let w1_8 :=
                                                    w'_2.alloc
                                                      (Obj.cells
                                                        #[Value.int IntKind.i64 (0 : Int),
                                                          Value.slice none (0 : Nat) (0 : Nat)]
                                                        (46 : Nat));
                                                  canSt w1_8 (Addr.mk w'_2.heap.size (0 : Nat) none) (2 : Nat) ∧
                                                    let w1_9 :=
                                                      setCells w1_8 (Addr.mk w'_2.heap.size (0 : Nat) none) (0 : Nat)
                                                        [Value.int IntKind.i64 x_7.fst.fst,
                                                          Value.slice x_7.fst.snd.a x_7.fst.snd.len x_7.fst.snd.cap];
                                                    ∃ (x_8 : Int × SV),
                                                      cellsAt w1_9 (Addr.mk w.heap.size (0 : Nat) none)
                                                          [Value.int IntKind.i64 x_8.fst,
                                                            Value.slice x_8.snd.a x_8.snd.len x_8.snd.cap] ∧
                                                        CallT
                                                          [Ty.agg [Sh.int IntKind.i64, Sh.slice],
                                                            Ty.one (Sh.int IntKind.i64), Ty.one (Sh.int IntKind.i64)]
                                                          Try.prog (26 : Nat)
                                                          [Value.agg
                                                              #[Value.int IntKind.i64 x_8.fst,
                                                                Value.slice x_8.snd.a x_8.snd.len x_8.snd.cap],
                                                            Value.int IntKind.i64 n1]
                                                          w1_9 fun (x_9 : (Int × SV) × Int × Int) (w'_3 : World) =>
                                                          let w1_10 :=
                                                            w'_3.alloc
                                                              (Obj.cells
                                                                #[Value.int IntKind.i64 (0 : Int),
                                                                  Value.slice none (0 : Nat) (0 : Nat)]
                                                                (46 : Nat));
                                                          canSt w1_10 (Addr.mk w'_3.heap.size (0 : Nat) none) (2 : Nat) ∧
                                                            let w1_11 :=
                                                              setCells w1_10 (Addr.mk w'_3.heap.size (0 : Nat) none)
                                                                (0 : Nat)
                                                                [Value.int IntKind.i64 x_9.fst.fst,
                                                                  Value.slice x_9.fst.snd.a x_9.fst.snd.len
                                                                    x_9.fst.snd.cap];
                                                            onP x fun (A : Addr) =>
                                                              ∃ (x_10 : Int × SV),
                                                                cellsAt w1_11 A
                                                                    [Value.int IntKind.i64 x_10.fst,
                                                                      Value.slice x_10.snd.a x_10.snd.len x_10.snd.cap] ∧
                                                                  CallT [Ty.one (Sh.int IntKind.i64), Ty.one Sh.bool]
                                                                    Try.prog (27 : Nat)
                                                                    [Value.agg
                                                                        #[Value.int IntKind.i64 x_10.fst,
                                                                          Value.slice x_10.snd.a x_10.snd.len x_10.snd.cap],
                                                                      Value.int IntKind.i64 n1]
                                                                    w1_11 fun (x_11 : Int × Bool) (w'_4 : World) =>
                                                                    ∃ (x_12 : Int × SV),
                                                                      cellsAt w'_4 (Addr.mk w.heap.size (0 : Nat) none)
                                                                          [Value.int IntKind.i64 x_12.fst,
                                                                            Value.slice x_12.snd.a x_12.snd.len
                                                                              x_12.snd.cap] ∧
                                                                        CallT [Ty.one (Sh.int IntKind.i64), Ty.one Sh.bool]
                                                                          Try.prog (28 : Nat)
                                                                          [Value.agg
                                                                              #[Value.int IntKind.i64 x_12.fst,
                                                                                Value.slice x_12.snd.a x_12.snd.len
                                                                                  x_12.snd.cap],
                                                                            Value.int IntKind.i64 n1]
                                                                          w'_4 fun (x_13 : Int × Bool) (w'_5 : World) =>
                                                                          ∃ (R_3 : PUnit → World → Prop),
                                                                            (CallT [Ty.one Sh.bool] Try.prog (29 : Nat) []
                                                                                w'_5 fun (x_14 : Bool) (w'_6 : World) =>
                                                                                cnd (!x_14) (R false w'_6)
                                                                                  (onP x fun (A : Addr) =>
                                                                                    ∃ (x : Int × SV),
                                                                                      cellsAt w'_6 A
                                                                                          [Value.int IntKind.i64 x.fst,
                                                                                            Value.slice x.snd.a x.snd.len
                                                                                              x.snd.cap] ∧
                                                                                        CallT [Ty.one (Sh.int IntKind.i64)]
                                                                                          Try.prog (30 : Nat)
                                                                                          [Value.agg
                                                                                              #[Value.int IntKind.i64 x.fst,
                                                                                                Value.slice x.snd.a
                                                                                                  x.snd.len x.snd.cap]]
                                                                                          w'_6
                                                                                          fun (x : Int) (w'_7 : World) =>
                                                                                          cnd (x != x_1) (R false w'_7)
                                                                                            (∃ (x : Int × SV),
                                                                                              cellsAt w'_7
                                                                                                  (Addr.mk w'.heap.size
                                                                                                    (0 : Nat) none)
                                                                                                  [Value.int IntKind.i64
                                                                                                      x.fst,
                                                                                                    Value.slice x.snd.a
                                                                                                      x.snd.len x.snd.cap] ∧
                                                                                                ∃ (x_15 : Int × SV),
                                                                                                  cellsAt w'_7
                                                                                                      (Addr.mk
                                                                                                        w'_1.heap.size
                                                                                                        (0 : Nat) none)
                                                                                                      [Value.int IntKind.i64
                                                                                                          x_15.fst,
                                                                                                        Value.slice
                                                                                                          x_15.snd.a
                                                                                                          x_15.snd.len
                                                                                                          x_15.snd.cap] ∧
                                                                                                    CallT [Ty.one Sh.bool]
                                                                                                      Try.prog (31 : Nat)
                                                                                                      [Value.agg
                                                                                                          #[Value.int
                                                                                                              IntKind.i64
                                                                                                              x.fst,
                                                                                                            Value.slice
                                                                                                              x.snd.a
                                                                                                              x.snd.len
                                                                                                              x.snd.cap],
                                                                                                        Value.agg
                                                                                                          #[Value.int
                                                                                                              IntKind.i64
                                                                                                              x_15.fst,
                                                                                                            Value.slice
                                                                                                              x_15.snd.a
                                                                                                              x_15.snd.len
                                                                                                              x_15.snd.cap]]
                                                                                                      w'_7
                                                                                                      fun (x : Bool)
                                                                                                        (w' : World) =>
                                                                                                      cnd (!x) (R false w')
                                                                                                        (∃ (x : Int × Int),
                                                                                                          cellsAt w'
                                                                                                              (Addr.mk
                                                                                                                w1.heap.size
                                                                                                                (0 : Nat)
                                                                                                                none)
                                                                                                              [Value.int
                                                                                                                  IntKind.i64
                                                                                                                  x.fst,
                                                                                                                Value.int
                                                                                                                  IntKind.i64
                                                                                                                  x.snd] ∧
                                                                                                            ∃ (x_16 :
                                                                                                              Int × Int),
                                                                                                              cellsAt w'
                                                                                                                  (Addr.mk
                                                                                                                    w1_4.heap.size
                                                                                                                    (0 :
                                                                                                                      Nat)
                                                                                                                    none)
                                                                                                                  [Value.int
                                                                                                                      IntKind.i64
                                                                                                                      x_16.fst,
                                                                                                                    Value.int
                                                                                                                      IntKind.i64
                                                                                                                      x_16.snd] ∧
                                                                                                                cnd
                                                                                                                  (!(x.fst ==
                                                                                                                        x_16.fst &&
                                                                                                                      (x.snd ==
                                                                                                                          x_16.snd &&
                                                                                                                        true)))
                                                                                                                  (R false
                                                                                                                    w')
                                                                                                                  (cnd
                                                                                                                    (x_3.snd.snd !=
                                                                                                                      x_5.snd.snd)
                                                                                                                    (R false
                                                                                                                      w')
                                                                                                                    (∃ (x :
                                                                                                                      Int ×
                                                                                                                        SV),
                                                                                                                      cellsAt
                                                                                                                          w'
                                                                                                                          (Addr.mk
                                                                                                                            w'_2.heap.size
                                                                                                                            (0 :
                                                                                                                              Nat)
                                                                                                                            none)
                                                                                                                          [Value.int
                                                                                                                              IntKind.i64
                                                                                                                              x.fst,
                                                                                                                            Value.slice
                                                                                                                              x.snd.a
                                                                                                                              x.snd.len
                                                                                                                              x.snd.cap] ∧
                                                                                                                        ∃
                                                                                                                          (x_17
                                                                                                                          :
                                                                                                                          Int ×
                                                                                                                            SV),
                                                                                                                          cellsAt
                                                                                                                              w'
                                                                                                                              (Addr.mk
                                                                                                                                w'_3.heap.size
                                                                                                                                (0 :
                                                                                                                                  Nat)
                                                                                                                                none)
                                                                                                                              [Value.int
                                                                                                                                  IntKind.i64
                                                                                                                                  x_17.fst,
                                                                                                                                Value.slice
                                                                                                                                  x_17.snd.a
                                                                                                                                  x_17.snd.len
                                                                                                                                  x_17.snd.cap] ∧
                                                                                                                            CallT
                                                                                                                              [Ty.one
                                                                                                                                  Sh.bool]
                                                                                                                              Try.prog
                                                                                                                              (31 :
                                                                                                                                Nat)
                                                                                                                              [Value.agg
                                                                                                                                  #[Value.int
                                                                                                                                      IntKind.i64
                                                                                                                                      x.fst,
                                                                                                                                    Value.slice
                                                                                                                                      x.snd.a
                                                                                                                                      x.snd.len
                                                                                                                                      x.snd.cap],
                                                                                                                                Value.agg
                                                                                                                                  #[Value.int
                                                                                                                                      IntKind.i64
                                                                                                                                      x_17.fst,
                                                                                                                                    Value.slice
                                                                                                                                      x_17.snd.a
                                                                                                                                      x_17.snd.len
                                                                                                                                      x_17.snd.cap]]
                                                                                                                              w'
                                                                                                                              fun
                                                                                                                                (x :
                                                                                                                                  Bool)
                                                                                                                                (w' :
                                                                                                                                  World) =>
                                                                                                                              cnd
                                                                                                                                (!x)
                                                                                                                                (R
                                                                                                                                  false
                                                                                                                                  w')
                                                                                                                                (cnd
                                                                                                                                  (x_7.snd.fst !=
                                                                                                                                    x_9.snd.fst)
                                                                                                                                  (R
                                                                                                                                    false
                                                                                                                                    w')
                                                                                                                                  (cnd
                                                                                                                                    (x_7.snd.snd !=
                                                                                                                                      x_9.snd.snd)
                                                                                                                                    (R
                                                                                                                                      false
                                                                                                                                      w')
                                                                                                                                    (cnd
                                                                                                                                      (x_11.fst !=
                                                                                                                                        x_13.fst)
                                                                                                                                      (R
                                                                                                                                        false
                                                                                                                                        w')
                                                                                                                                      (cnd
                                                                                                                                        (!x_11.snd ==
                                                                                                                                            x_13.snd)
                                                                                                                                        (R
                                                                                                                                          false
                                                                                                                                          w')
                                                                                                                                        (R_3
                                                                                                                                          ()
                                                                                                                                          w'))))))))))) ∧
                                                                              ∀ (x_14 : PUnit) (j : Nat → Value)
                                                                                (w'_6 : World),
                                                                                R_3 x_14 w'_6 →
                                                                                  ∃ (I : Nat → Int → World → Prop),
                                                                                    (∃ (n : Nat), I n (0 : Int) w'_6) ∧
                                                                                      ∀ (n : Nat) (x_15 : Int)
                                                                                        (j : Nat → Value) (w'_7 : World),
                                                                                        I n x_15 w'_7 →
                                                                                          ∃ (x_16 : SV),
                                                                                            w'_7.cell?
                                                                                                  ((Addr.mk w'.heap.size
                                                                                                        (0 : Nat) none).add
                                                                                                    (1 : Nat)) =
                                                                                                some
                                                                                                  (Value.slice x_16.a
                                                                                                    x_16.len x_16.cap) ∧
                                                                                              cnd
                                                                                                (decide
                                                                                                  (x_15 <
                                                                                                    (↑x_16.len : Int)))
                                                                                                (∃ (x : SV),
                                                                                                  w'_7.cell?
                                                                                                        ((Addr.mk
                                                                                                              w'.heap.size
                                                                                                              (0 : Nat)
                                                                                                              none).add
                                                                                                          (1 : Nat)) =
                                                                                                      some
                                                                                                        (Value.slice x.a
                                                                                                          x.len x.cap) ∧
                                                                                                    (0 : Int) ≤ x_15 ∧
                                                                                                      x_15 <
                                                                                                          (↑x.len : Int) ∧
                                                                                                        onP x.a
                                                                                                          fun (A : Addr) =>
                                                                                                          canSt w'_7
                                                                                                              (A.add
                                                                                                                (x_15.toNat *
                                                                                                                  (2 :
                                                                                                                    Nat)))
                                                                                                              (2 : Nat) ∧
                                                                                                            ∃ (m : Nat),
                                                                                                              m < n ∧
                                                                                                                I m
                                                                                                                  (IntKind.i64.wrap
                                                                                                                    (x_15 +
                                                                                                                      (1 :
                                                                                                                        Int)))
                                                                                                                  (setCells
                                                                                                                    w'_7
                                                                                                                    (A.add
                                                                                                                      (x_15.toNat *
                                                                                                                        (2 :
                                                                                                                          Nat)))
                                                                                                                    (0 :
                                                                                                                      Nat)
                                                                                                                    [Value.int
                                                                                                                        IntKind.i64
                                                                                                                        (0 :
                                                                                                                          Int),
                                                                                                                      Value.int
                                                                                                                        IntKind.i64
                                                                                                                        (0 :
                                                                                                                          Int)]))
                                                                                                (∃ (I :
                                                                                                  Nat → Int → World → Prop),
                                                                                                  (∃ (n : Nat),
                                                                                                      I n (0 : Int) w'_7) ∧
                                                                                                    ∀ (n : Nat) (x_17 : Int)
                                                                                                      (j : Nat → Value)
                                                                                                      (w' : World),
                                                                                                      I n x_17 w' →
                                                                                                        ∃ (x_18 : SV),
                                                                                                          w'.cell?
                                                                                                                ((Addr.mk
                                                                                                                      w'_2.heap.size
                                                                                                                      (0 :
                                                                                                                        Nat)
                                                                                                                      none).add
                                                                                                                  (1 :
                                                                                                                    Nat)) =
                                                                                                              some
                                                                                                                (Value.slice
                                                                                                                  x_18.a
                                                                                                                  x_18.len
                                                                                                                  x_18.cap) ∧
                                                                                                            cnd
                                                                                                              (decide
                                                                                                                (x_17 <
                                                                                                                  (↑x_18.len :
                                                                                                                    Int)))
                                                                                                              (∃ (x : SV),
                                                                                                                w'.cell?
                                                                                                                      ((Addr.mk
                                                                                                                            w'_2.heap.size
                                                                                                                            (0 :
                                                                                                                              Nat)
                                                                                                                            none).add
                                                                                                                        (1 :
                                                                                                                          Nat)) =
                                                                                                                    some
                                                                                                                      (Value.slice
                                                                                                                        x.a
                                                                                                                        x.len
                                                                                                                        x.cap) ∧
                                                                                                                  (0 :
                                                                                                                        Int) ≤
                                                                                                                      x_17 ∧
                                                                                                                    x_17 <
                                                                                                                        (↑x.len :
                                                                                                                          Int) ∧
                                                                                                                      onP
                                                                                                                        x.a
                                                                                                                        fun
                                                                                                                          (A :
                                                                                                                            Addr) =>
                                                                                                                        canSt
                                                                                                                            w'
                                                                                                                            (A.add
                                                                                                                              (x_17.toNat *
                                                                                                                                (2 :
                                                                                                                                  Nat)))
                                                                                                                            (2 :
                                                                                                                              Nat) ∧
                                                                                                                          ∃
                                                                                                                            (m
                                                                                                                            :
                                                                                                                            Nat),
                                                                                                                            m <
                                                                                                                                n ∧
                                                                                                                              I
                                                                                                                                m
                                                                                                                                (IntKind.i64.wrap
                                                                                                                                  (x_17 +
                                                                                                                                    (1 :
                                                                                                                                      Int)))
                                                                                                                                (setCells
                                                                                                                                  w'
                                                                                                                                  (A.add
                                                                                                                                    (x_17.toNat *
                                                                                                                                      (2 :
                                                                                                                                        Nat)))
                                                                                                                                  (0 :
                                                                                                                                    Nat)
                                                                                                                                  [Value.int
                                                                                                                                      IntKind.i64
                                                                                                                                      (0 :
                                                                                                                                        Int),
                                                                                                                                    Value.int
                                                                                                                                      IntKind.i64
                                                                                                                                      (0 :
                                                                                                                                        Int)]))
                                                                                                              (onP x
                                                                                                                fun
                                                                                                                  (A :
                                                                                                                    Addr) =>
                                                                                                                ∃ (x : SV),
                                                                                                                  w'.cell?
                                                                                                                        (A.add
                                                                                                                          (1 :
                                                                                                                            Nat)) =
                                                                                                                      some
                                                                                                                        (Value.slice
                                                                                                                          x.a
                                                                                                                          x.len
                                                                                                                          x.cap) ∧
                                                                                                                    ∃ (x_19
                                                                                                                      : SV),
                                                                                                                      w'.cell?
                                                                                                                            ((Addr.mk
                                                                                                                                  w.heap.size
                                                                                                                                  (0 :
                                                                                                                                    Nat)
                                                                                                                                  none).add
                                                                                                                              (1 :
                                                                                                                                Nat)) =
                                                                                                                          some
                                                                                                                            (Value.slice
                                                                                                                              x_19.a
                                                                                                                              x_19.len
                                                                                                                              x_19.cap) ∧
                                                                                                                        CallT
                                                                                                                          [Ty.one
                                                                                                                              Sh.bool]
                                                                                                                          Try.prog
                                                                                                                          (32 :
                                                                                                                            Nat)
                                                                                                                          [Value.slice
                                                                                                                              x.a
                                                                                                                              x.len
                                                                                                                              x.cap,
                                                                                                                            Value.slice
                                                                                                                              x_19.a
                                                                                                                              x_19.len
                                                                                                                              x_19.cap,
                                                                                                                            Value.agg
                                                                                                                              #[Value.int
                                                                                                                                  IntKind.i64
                                                                                                                                  (71 :
                                                                                                                                    Int),
                                                                                                                                Value.int
                                                                                                                                  IntKind.i64
                                                                                                                                  (0 :
                                                                                                                                    Int)]]
                                                                                                                          w'
                                                                                                                          fun
                                                                                                                            (x :
                                                                                                                              Bool)
                                                                                                                            (w' :
                                                                                                                              World) =>
                                                                                                                          R
                                                                                                                            x
                                                                                                                            w')))
  : CallT [Ty.one Sh.bool] Try.prog 6 [Value.agg #[Value.int IntKind.i64 x0.fst, Value.slice x0.snd.a x0.snd.len x0.snd.cap], Value.int IntKind.i64 n1] w R :=
  fnV_sound (h := HT.z.sq
  (HT.jn [((5 : Nat), Ty.one Sh.ptr)]
    (HT.dr
      (DT.take (0 : Nat)
        (DT.take (1 : Nat)
          (DT.take (2 : Nat)
            (DT.take (3 : Nat)
              (DT.take (4 : Nat)
                (DT.alt (5 : Nat) (DT.take (6 : Nat) (DT.alt (7 : Nat) (DT.alt (8 : Nat) DT.fin DT.fin) DT.fin))
                  (DT.alt (7 : Nat) (DT.alt (5 : Nat) (DT.take (6 : Nat) (DT.alt (8 : Nat) DT.fin DT.fin)) DT.fin)
                    DT.fin))))))))
    (HT.z.sq
      (HT.jn [((6 : Nat), Ty.one (Sh.int IntKind.i64))] HT.z
        (HT.z.sq
          (HT.z.sq
            (HT.z.sq
              (HT.z.sq
                (HT.z.sq
                  (HT.z.sq
                    (HT.jn [] HT.z
                      ((HT.z.sq (HT.lp [((23 : Nat), Ty.one (Sh.int IntKind.i64))] HT.z).bl).sq
                        ((HT.z.sq (HT.lp [((24 : Nat), Ty.one (Sh.int IntKind.i64))] HT.z).bl).sq HT.z))))))))))))) Try.func6 (by kernel_rfl) (by kernel_rfl) (Eq.mp (by kernel_rfl) h)

end Go.Proofs
