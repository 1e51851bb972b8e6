/- The conditions of the seat's functions, written by a program (VcTool, genvc.py) off 'vc' reduced; each is tied to 'vc' by the kernel. Conditions: none. -/
import Derived.Test.YtdldamlephggmaaVcSound5
import Derived.Test.YtdldamlephggmaaProg
set_option linter.unusedVariables false
set_option maxRecDepth 100000
namespace Go.Proofs
open Go Go.Vc
/-- dunnage/dunnagelaw26.ForwardBoth -/
theorem dunnagelaw26_ForwardBoth.vc (s0 : SV) (s1 : SV) (n2 : Int) (n3 : Int) (w : World) (R : Bool → World → Prop)
  (h : appV Try.prog [(22 : Nat), (22 : Nat)] (22 : Nat) [Value.slice none (0 : Nat) (0 : Nat), Value.slice s0.a s0.len s0.cap]
      w fun (s : SV) (w' : World) =>
      appV Try.prog [(22 : Nat), (22 : Nat)] (22 : Nat) [Value.slice s.a s.len s.cap, Value.slice s1.a s1.len s1.cap] w'
        fun (s : SV) (w' : World) =>
        CallT [Ty.one Sh.bool] Try.prog (8 : Nat) [] w' fun (x : Bool) (w' : World) =>
          cnd x
            (CallT [Ty.one (Sh.int IntKind.i64)] Try.prog (9 : Nat)
              [Value.slice s.a s.len s.cap, Value.int IntKind.u64 n2, Value.int IntKind.i64 n3] w'
              fun (x : Int) (w' : World) =>
              CallT [Ty.one (Sh.int IntKind.i64)] Try.prog (9 : Nat)
                [Value.slice s0.a s0.len s0.cap, Value.int IntKind.u64 n2, Value.int IntKind.i64 n3] w'
                fun (x_1 : Int) (w' : World) =>
                CallT [Ty.one (Sh.int IntKind.i64)] Try.prog (9 : Nat)
                  [Value.slice s1.a s1.len s1.cap, Value.int IntKind.u64 n2, Value.int IntKind.i64 x_1] w'
                  fun (x_2 : Int) (w' : World) => R (x == x_2) w')
            (R false w'))
  : CallT [Ty.one Sh.bool] Try.prog 3 [Value.slice s0.a s0.len s0.cap, Value.slice s1.a s1.len s1.cap, Value.int IntKind.u64 n2, Value.int IntKind.i64 n3] w R :=
  fnV_sound (h := HT.z) Try.func3 (by kernel_rfl) (by kernel_rfl) (Eq.mp (by kernel_rfl) h)

/-- dunnage/dunnagelaw26.ForwardFolds -/
theorem dunnagelaw26_ForwardFolds.vc (s0 : SV) (w : World) (R : Bool → World → Prop)
  (h : ∃ (I : Nat → Int → World → Prop),
      (∃ (n : Nat), I n (0 : Int) w) ∧
        ∀ (n : Nat) (x : Int) (j : Nat → Value) (w' : World),
          I n x w' →
            cnd (decide (x < (↑s0.len : Int)))
              (∃ (I_1 : Nat → Int → World → Prop),
                (∃ (n : Nat), I_1 n (IntKind.i64.wrap (x - (1 : Int))) w') ∧
                  ∀ (n_1 : Nat) (x_1 : Int) (j : Nat → Value) (w' : World),
                    I_1 n_1 x_1 w' →
                      cnd (decide (x_1 ≥ (0 : Int)))
                        ((0 : Int) ≤ x_1 ∧
                          x_1 < (↑s0.len : Int) ∧
                            onP s0.a fun (A : Addr) =>
                              ∃ (x_2 : Int),
                                w'.drew.cell? ((A.add (x_1.toNat * (4 : Nat))).add (0 : Nat)) =
                                    some (Value.int IntKind.u64 x_2) ∧
                                  (0 : Int) ≤ x ∧
                                    x < (↑s0.len : Int) ∧
                                      onP s0.a fun (A : Addr) =>
                                        ∃ (x_3 : Int),
                                          w'.drew.cell? ((A.add (x.toNat * (4 : Nat))).add (0 : Nat)) =
                                              some (Value.int IntKind.u64 x_3) ∧
                                            cnd (x_2 == x_3)
                                              ((0 : Int) ≤ x_1 ∧
                                                x_1 < (↑s0.len : Int) ∧
                                                  onP s0.a fun (A : Addr) =>
                                                    ∃ (x_4 : Int),
                                                      w'.drew.drew.cell? ((A.add (x_1.toNat * (4 : Nat))).add (2 : Nat)) =
                                                          some (Value.int IntKind.i64 x_4) ∧
                                                        (0 : Int) ≤ x ∧
                                                          x < (↑s0.len : Int) ∧
                                                            onP s0.a fun (A : Addr) =>
                                                              ∃ (x_5 : Int),
                                                                w'.drew.drew.cell?
                                                                      ((A.add (x.toNat * (4 : Nat))).add (1 : Nat)) =
                                                                    some (Value.int IntKind.i64 x_5) ∧
                                                                  cnd (x_4 != x_5)
                                                                    (CallT [Ty.one Sh.bool] Try.prog (8 : Nat) []
                                                                      w'.drew.drew fun (x : Bool) (w' : World) => R x w')
                                                                    (∃ (m : Nat),
                                                                      m < n ∧
                                                                        I m (IntKind.i64.wrap (x + (1 : Int)))
                                                                          w'.drew.drew))
                                              (∃ (m : Nat), m < n_1 ∧ I_1 m (IntKind.i64.wrap (x_1 - (1 : Int))) w'.drew))
                        (∃ (m : Nat), m < n ∧ I m (IntKind.i64.wrap (x + (1 : Int))) w'))
              (CallT [Ty.one Sh.slice] Try.prog (10 : Nat) [Value.slice s0.a s0.len s0.cap] w' fun (x : SV) (w' : World) =>
                CallT [Ty.one Sh.bool] Try.prog (8 : Nat) [] w' fun (x_1 : Bool) (w' : World) =>
                  cnd (!x_1) (R false w')
                    (∃ (I : Nat → Int → World → Prop),
                      (∃ (n : Nat), I n (0 : Int) w') ∧
                        ∀ (n : Nat) (x_2 : Int) (j : Nat → Value) (w' : World),
                          I n x_2 w' →
                            cnd (decide (x_2 < (↑s0.len : Int)))
                              (∃ (I_1 : Nat → Bool × Int → World → Prop),
                                (∃ (n : Nat), I_1 n (true, (0 : Int)) w') ∧
                                  ∀ (n_1 : Nat) (x_3 : Bool × Int) (j : Nat → Value) (w' : World),
                                    I_1 n_1 x_3 w' →
                                      let e1 := x_3.snd;
                                      cnd (decide (e1 < x_2))
                                        (cnd x_3.fst
                                          (let e1 := x_3.snd;
                                          (0 : Int) ≤ e1 ∧
                                            e1 < (↑s0.len : Int) ∧
                                              onP s0.a fun (A : Addr) =>
                                                ∃ (x : Int),
                                                  w'.drew.cell? ((A.add (e1.toNat * (4 : Nat))).add (0 : Nat)) =
                                                      some (Value.int IntKind.u64 x) ∧
                                                    (0 : Int) ≤ x_2 ∧
                                                      x_2 < (↑s0.len : Int) ∧
                                                        onP s0.a fun (A : Addr) =>
                                                          ∃ (x_4 : Int),
                                                            w'.drew.cell? ((A.add (x_2.toNat * (4 : Nat))).add (0 : Nat)) =
                                                                some (Value.int IntKind.u64 x_4) ∧
                                                              ∃ (m : Nat),
                                                                m < n_1 ∧
                                                                  I_1 m (x != x_4, IntKind.i64.wrap (x_3.snd + (1 : Int)))
                                                                    w'.drew)
                                          (∃ (m : Nat),
                                            m < n_1 ∧ I_1 m (false, IntKind.i64.wrap (x_3.snd + (1 : Int))) w'.drew))
                                        (∃ (S : World → Prop),
                                          S w'.drew ∧
                                            cnd x_3.fst
                                              ((0 : Int) ≤ x_2 ∧
                                                x_2 < (↑s0.len : Int) ∧
                                                  onP s0.a fun (A : Addr) =>
                                                    ∃ (x_4 : Int),
                                                      (∀ (w : World),
                                                          S w →
                                                            w.cell? ((A.add (x_2.toNat * (4 : Nat))).add (0 : Nat)) =
                                                              some (Value.int IntKind.u64 x_4)) ∧
                                                        (0 : Int) ≤ x_2 ∧
                                                          x_2 < (↑s0.len : Int) ∧
                                                            onP s0.a fun (A : Addr) =>
                                                              ∃ (x_5 : Int),
                                                                (∀ (w : World),
                                                                    S w →
                                                                      w.cell?
                                                                          ((A.add (x_2.toNat * (4 : Nat))).add (1 : Nat)) =
                                                                        some (Value.int IntKind.i64 x_5)) ∧
                                                                  (0 : Int) ≤ x_2 ∧
                                                                    x_2 < (↑s0.len : Int) ∧
                                                                      onP s0.a fun (A : Addr) =>
                                                                        ∃ (x_6 : Int),
                                                                          (∀ (w : World),
                                                                              S w →
                                                                                w.cell?
                                                                                    ((A.add (x_2.toNat * (4 : Nat))).add
                                                                                      (0 : Nat)) =
                                                                                  some (Value.int IntKind.u64 x_6)) ∧
                                                                            (0 : Int) ≤ x_2 ∧
                                                                              x_2 < (↑s0.len : Int) ∧
                                                                                onP s0.a fun (A : Addr) =>
                                                                                  ∃ (x_7 : Int),
                                                                                    (∀ (w : World),
                                                                                        S w →
                                                                                          w.cell?
                                                                                              ((A.add
                                                                                                    (x_2.toNat *
                                                                                                      (4 : Nat))).add
                                                                                                (1 : Nat)) =
                                                                                            some
                                                                                              (Value.int IntKind.i64 x_7)) ∧
                                                                                      CallT [Ty.one (Sh.int IntKind.i64)]
                                                                                        Try.prog (9 : Nat)
                                                                                        [Value.slice x.a x.len x.cap,
                                                                                          Value.int IntKind.u64 x_4,
                                                                                          Value.int IntKind.i64 x_5]
                                                                                        w'.drew
                                                                                        fun (x : Int) (w' : World) =>
                                                                                        S w' ∧
                                                                                          CallT
                                                                                            [Ty.one (Sh.int IntKind.i64)]
                                                                                            Try.prog (9 : Nat)
                                                                                            [Value.slice s0.a s0.len s0.cap,
                                                                                              Value.int IntKind.u64 x_6,
                                                                                              Value.int IntKind.i64 x_7]
                                                                                            w'
                                                                                            fun (x_8 : Int) (w' : World) =>
                                                                                            S w' ∧
                                                                                              cnd (x != x_8) (R false w')
                                                                                                (∃ (m : Nat),
                                                                                                  m < n ∧
                                                                                                    I m
                                                                                                      (IntKind.i64.wrap
                                                                                                        (x_2 + (1 : Int)))
                                                                                                      w'))
                                              (S w'.drew ∧
                                                S w'.drew ∧
                                                  ∃ (m : Nat), m < n ∧ I m (IntKind.i64.wrap (x_2 + (1 : Int))) w'.drew)))
                              (∃ (I : Nat → Int → World → Prop),
                                (∃ (n : Nat), I n (0 : Int) w') ∧
                                  ∀ (n : Nat) (x_3 : Int) (j : Nat → Value) (w' : World),
                                    I n x_3 w' →
                                      cnd (decide (x_3 < (↑x.len : Int)))
                                        (∃ (I_1 : Nat → Int → World → Prop),
                                          (∃ (n : Nat), I_1 n (0 : Int) w') ∧
                                            ∀ (n_1 : Nat) (x_4 : Int) (j : Nat → Value) (w' : World),
                                              I_1 n_1 x_4 w' →
                                                cnd (decide (x_4 < x_3))
                                                  ((0 : Int) ≤ x_4 ∧
                                                    x_4 < (↑x.len : Int) ∧
                                                      onP x.a fun (A : Addr) =>
                                                        ∃ (x_5 : Int),
                                                          w'.drew.cell? ((A.add (x_4.toNat * (4 : Nat))).add (0 : Nat)) =
                                                              some (Value.int IntKind.u64 x_5) ∧
                                                            (0 : Int) ≤ x_3 ∧
                                                              x_3 < (↑x.len : Int) ∧
                                                                onP x.a fun (A : Addr) =>
                                                                  ∃ (x : Int),
                                                                    w'.drew.cell?
                                                                          ((A.add (x_3.toNat * (4 : Nat))).add (0 : Nat)) =
                                                                        some (Value.int IntKind.u64 x) ∧
                                                                      cnd (x_5 == x) (R false w'.drew)
                                                                        (∃ (m : Nat),
                                                                          m < n_1 ∧
                                                                            I_1 m (IntKind.i64.wrap (x_4 + (1 : Int)))
                                                                              w'.drew))
                                                  (∃ (m : Nat), m < n ∧ I m (IntKind.i64.wrap (x_3 + (1 : Int))) w'))
                                        (CallT [Ty.one Sh.slice] Try.prog (10 : Nat) [Value.slice x.a x.len x.cap] w'
                                          fun (x_4 : SV) (w' : World) =>
                                          CallT [Ty.one Sh.bool] Try.prog (11 : Nat)
                                            [Value.slice x_4.a x_4.len x_4.cap, Value.slice x.a x.len x.cap] w'
                                            fun (x_5 : Bool) (w' : World) =>
                                            cnd x_5 (R (decide ((↑x.len : Int) ≤ (↑s0.len : Int))) w') (R false w'))))))
  : CallT [Ty.one Sh.bool] Try.prog 4 [Value.slice s0.a s0.len s0.cap] w R :=
  fnV_sound (h := HT.z.sq
  ((HT.z.sq
        (HT.lp [((3 : Nat), Ty.one (Sh.int IntKind.i64))]
            (HT.z.sq
              ((HT.z.sq
                      (HT.lp [((4 : Nat), Ty.one (Sh.int IntKind.i64))]
                          (HT.z.sq
                            (((HT.rg (11 : Nat)).sq ((((HT.rg (11 : Nat)).sq HT.z).sq HT.z).cd HT.z)).bl.sq
                              HT.z))).bl).bl.sq
                HT.z))).bl).sq
    (HT.z.sq
      (HT.z.sq
        ((HT.z.sq
              (HT.lp [((6 : Nat), Ty.one (Sh.int IntKind.i64))]
                  (HT.z.sq
                    ((HT.z.sq
                            ((HT.z.sq
                                  (HT.lp [((7 : Nat), Ty.one Sh.bool), ((8 : Nat), Ty.one (Sh.int IntKind.i64))]
                                      (HT.z.sq ((HT.rg (15 : Nat)).bl.sq HT.z))).bl).sq
                              ((HT.dr
                                    (DT.take (0 : Nat)
                                      (DT.take (1 : Nat)
                                        (DT.take (2 : Nat)
                                          (DT.take (3 : Nat)
                                            (DT.take (4 : Nat)
                                              (DT.take (5 : Nat)
                                                (DT.take (6 : Nat)
                                                  (DT.take (7 : Nat)
                                                    (DT.take (8 : Nat)
                                                      (DT.take (9 : Nat)
                                                        (DT.take (10 : Nat)
                                                          (DT.take (11 : Nat)
                                                            (DT.take (12 : Nat)
                                                              (DT.take (14 : Nat)
                                                                (DT.take (15 : Nat)
                                                                  (DT.take (16 : Nat)
                                                                    (DT.take (17 : Nat)
                                                                      (DT.take (18 : Nat)
                                                                        (DT.take (19 : Nat)
                                                                          (DT.take (20 : Nat)
                                                                            (DT.take (21 : Nat)
                                                                              (DT.take (22 : Nat)
                                                                                (DT.take (23 : Nat)
                                                                                  (DT.take (24 : Nat)
                                                                                    (DT.alt (13 : Nat)
                                                                                      (DT.alt (25 : Nat)
                                                                                        (DT.take (26 : Nat)
                                                                                          (DT.take (27 : Nat) DT.fin))
                                                                                        DT.fin)
                                                                                      DT.fin)))))))))))))))))))))))))).sq
                                HT.z))).bl.sq
                      HT.z))).bl).sq
          ((HT.z.sq
                (HT.lp [((9 : Nat), Ty.one (Sh.int IntKind.i64))]
                    (HT.z.sq
                      ((HT.z.sq
                              (HT.lp [((10 : Nat), Ty.one (Sh.int IntKind.i64))]
                                  (HT.z.sq (((HT.rg (11 : Nat)).sq HT.z).bl.sq HT.z))).bl).bl.sq
                        HT.z))).bl).sq
            HT.z)))))) Try.func4 (by kernel_rfl) (by kernel_rfl) (Eq.mp (by kernel_rfl) h)

/-- dunnage/dunnagelaw26.ForwardTells -/
theorem dunnagelaw26_ForwardTells.vc (s0 : SV) (n1 : Int) (n2 : Int) (s3 : SV) (w : World) (R : Bool → World → Prop)
  (h : CallT [Ty.one Sh.slice] Try.prog (12 : Nat)
      [Value.slice s0.a s0.len s0.cap,
        Value.agg
          #[Value.int IntKind.u64 (71 : Int), Value.int IntKind.i64 (0 : Int), Value.int IntKind.i64 (0 : Int),
            Value.int IntKind.i64 (0 : Int)]]
      w fun (x : SV) (w' : World) =>
      CallT [Ty.one Sh.slice] Try.prog (13 : Nat)
        [Value.slice s3.a s3.len s3.cap,
          Value.agg
            #[Value.string (ByteArray.mk #[(55 : UInt8), (49 : UInt8)]), Value.int IntKind.u64 (0 : Int),
              Value.int IntKind.i64 (0 : Int), Value.int IntKind.i64 (0 : Int)]]
        w' fun (x_1 : SV) (w' : World) =>
        CallT [Ty.one Sh.bool] Try.prog (8 : Nat) [] w' fun (x_2 : Bool) (w' : World) =>
          cnd x_2
            (CallT [Ty.one (Sh.int IntKind.i64)] Try.prog (9 : Nat)
              [Value.slice x.a x.len x.cap, Value.int IntKind.u64 n1, Value.int IntKind.i64 n2] w'
              fun (x_3 : Int) (w' : World) =>
              CallT [Ty.one (Sh.int IntKind.i64)] Try.prog (14 : Nat)
                [Value.slice s0.a s0.len s0.cap, Value.int IntKind.u64 n1, Value.int IntKind.i64 n2] w'
                fun (x_4 : Int) (w' : World) =>
                cnd (x_3 == x_4)
                  (CallT [Ty.one Sh.slice] Try.prog (10 : Nat) [Value.slice x.a x.len x.cap] w'
                    fun (x_5 : SV) (w' : World) =>
                    CallT [Ty.one Sh.slice] Try.prog (15 : Nat) [Value.slice s0.a s0.len s0.cap] w'
                      fun (x_6 : SV) (w' : World) =>
                      CallT [Ty.one Sh.bool] Try.prog (11 : Nat)
                        [Value.slice x_5.a x_5.len x_5.cap, Value.slice x_6.a x_6.len x_6.cap] w'
                        fun (x_7 : Bool) (w' : World) =>
                        cnd x_7
                          (CallT [Ty.one Sh.slice] Try.prog (17 : Nat)
                            [Value.slice x_1.a x_1.len x_1.cap, Value.slice x.a x.len x.cap] w'
                            fun (x_8 : SV) (w' : World) =>
                            CallT [Ty.one Sh.slice] Try.prog (18 : Nat)
                              [Value.slice s3.a s3.len s3.cap, Value.slice s0.a s0.len s0.cap] w'
                              fun (x_9 : SV) (w' : World) =>
                              CallT [Ty.one Sh.bool] Try.prog (16 : Nat)
                                [Value.slice x_8.a x_8.len x_8.cap, Value.slice x_9.a x_9.len x_9.cap] w'
                                fun (x_10 : Bool) (w' : World) =>
                                cnd x_10
                                  (CallT [Ty.one Sh.bool] Try.prog (19 : Nat)
                                    [Value.slice x.a x.len x.cap, Value.slice s0.a s0.len s0.cap,
                                      Value.agg
                                        #[Value.int IntKind.u64 (71 : Int), Value.int IntKind.i64 (0 : Int),
                                          Value.int IntKind.i64 (0 : Int), Value.int IntKind.i64 (0 : Int)]]
                                    w' fun (x : Bool) (w' : World) =>
                                    cnd x
                                      (CallT [Ty.one Sh.bool] Try.prog (20 : Nat)
                                        [Value.slice x_1.a x_1.len x_1.cap, Value.slice s3.a s3.len s3.cap,
                                          Value.agg
                                            #[Value.string (ByteArray.mk #[(55 : UInt8), (49 : UInt8)]),
                                              Value.int IntKind.u64 (0 : Int), Value.int IntKind.i64 (0 : Int),
                                              Value.int IntKind.i64 (0 : Int)]]
                                        w' fun (x : Bool) (w' : World) => R x w')
                                      (R false w'))
                                  (R false w'))
                          (R false w'))
                  (R false w'))
            (R false w'))
  : CallT [Ty.one Sh.bool] Try.prog 5 [Value.slice s0.a s0.len s0.cap, Value.int IntKind.u64 n1, Value.int IntKind.i64 n2, Value.slice s3.a s3.len s3.cap] w R :=
  fnV_sound (h := HT.z) Try.func5 (by kernel_rfl) (by kernel_rfl) (Eq.mp (by kernel_rfl) h)

end Go.Proofs
