/- The conditions of the seat's functions, written by a program (VcTool, genvc.py) off 'vc' reduced; each is tied to 'vc' by the kernel. Conditions: none. -/
import Derived.Test.YtinolellciikoaaVcSound5
import Derived.Test.YtinolellciikoaaProg
set_option linter.unusedVariables false
set_option maxRecDepth 100000
namespace Go.Proofs
open Go Go.Vc
/-- dunnage/dunnagelaw06.FrameCuts -/
theorem dunnagelaw06_FrameCuts.vc (n0 : Int) (n1 : Int) (s2 : SV) (w : World) (R : Bool → World → Prop)
  (h : CallT [Ty.one Sh.slice] Try.prog (27 : Nat) [Value.slice s2.a s2.len s2.cap, Value.int IntKind.u8 (71 : Int)] w
      fun (x : SV) (w' : World) =>
      CallT [Ty.one Sh.slice, Ty.one (Sh.int IntKind.i64)] Try.prog (28 : Nat)
        [Value.int IntKind.u64 n0, Value.int IntKind.u64 n1, Value.slice x.a x.len x.cap] w'
        fun (x_1 : SV × Int) (w' : World) =>
        CallT [Ty.one Sh.slice, Ty.one (Sh.int IntKind.i64)] Try.prog (29 : Nat)
          [Value.int IntKind.u64 n0, Value.int IntKind.u64 n1, Value.slice s2.a s2.len s2.cap] w'
          fun (x_2 : SV × Int) (w' : World) =>
          ∃ (R_1 : PUnit → World → Prop),
            (CallT [Ty.one Sh.bool] Try.prog (30 : Nat) [] w' fun (x : Bool) (w' : World) =>
                cnd (!x) (R false w')
                  (CallT [Ty.one Sh.bool] Try.prog (31 : Nat)
                    [Value.slice x_1.fst.a x_1.fst.len x_1.fst.cap, Value.slice x_2.fst.a x_2.fst.len x_2.fst.cap] w'
                    fun (x : Bool) (w' : World) =>
                    cnd (!x) (R false w') (cnd (x_1.snd != x_2.snd) (R false w') (R_1 () w')))) ∧
              ∀ (x_3 : PUnit) (j : Nat → Value) (w' : World),
                R_1 x_3 w' →
                  ∃ (I : Nat → Int → World → Prop),
                    (∃ (n : Nat), I n (0 : Int) w') ∧
                      ∀ (n : Nat) (x_4 : Int) (j : Nat → Value) (w' : World),
                        I n x_4 w' →
                          cnd (decide (x_4 < (↑x_1.fst.len : Int)))
                            ((0 : Int) ≤ x_4 ∧
                              x_4 < (↑x_1.fst.len : Int) ∧
                                onP x_1.fst.a fun (A : Addr) =>
                                  ∃ (x : SV),
                                    w'.cell? (A.add (x_4.toNat * (1 : Nat))) = some (Value.slice x.a x.len x.cap) ∧
                                      CallT [] Try.prog (32 : Nat) [Value.slice x.a x.len x.cap] w'
                                        fun (x : PUnit) (w' : World) =>
                                        ∃ (I_1 : Nat → Int → World → Prop),
                                          (∃ (n : Nat), I_1 n (IntKind.i64.wrap (x_4 + (1 : Int))) w') ∧
                                            ∀ (n_1 : Nat) (x : Int) (j : Nat → Value) (w' : World),
                                              I_1 n_1 x w' →
                                                cnd (decide (x < (↑x_1.fst.len : Int)))
                                                  ((0 : Int) ≤ x ∧
                                                    x < (↑x_1.fst.len : Int) ∧
                                                      onP x_1.fst.a fun (A : Addr) =>
                                                        ∃ (x_5 : SV),
                                                          w'.drew.cell? (A.add (x.toNat * (1 : Nat))) =
                                                              some (Value.slice x_5.a x_5.len x_5.cap) ∧
                                                            (0 : Int) ≤ x ∧
                                                              x < (↑x_2.fst.len : Int) ∧
                                                                onP x_2.fst.a fun (A : Addr) =>
                                                                  ∃ (x_6 : SV),
                                                                    w'.drew.cell? (A.add (x.toNat * (1 : Nat))) =
                                                                        some (Value.slice x_6.a x_6.len x_6.cap) ∧
                                                                      CallT [Ty.one Sh.bool] Try.prog (33 : Nat)
                                                                        [Value.slice x_5.a x_5.len x_5.cap,
                                                                          Value.slice x_6.a x_6.len x_6.cap]
                                                                        w'.drew fun (x_7 : Bool) (w' : World) =>
                                                                        cnd (!x_7) (R false w')
                                                                          (∃ (m : Nat),
                                                                            m < n_1 ∧
                                                                              I_1 m (IntKind.i64.wrap (x + (1 : Int))) w'))
                                                  (∃ (m : Nat), m < n ∧ I m (IntKind.i64.wrap (x_4 + (1 : Int))) w'))
                            (CallT [Ty.one Sh.bool] Try.prog (34 : Nat)
                              [Value.slice x.a x.len x.cap, Value.slice s2.a s2.len s2.cap, Value.int IntKind.u8 (71 : Int)]
                              w' fun (x : Bool) (w' : World) => R x w'))
  : CallT [Ty.one Sh.bool] Try.prog 3 [Value.int IntKind.u64 n0, Value.int IntKind.u64 n1, Value.slice s2.a s2.len s2.cap] w R :=
  fnV_sound (h := HT.z.sq
  (HT.z.sq
    (HT.z.sq
      (HT.z.sq
        (HT.jn [] HT.z
          ((HT.z.sq
                (HT.lp [((12 : Nat), Ty.one (Sh.int IntKind.i64))]
                    (HT.z.sq
                      ((HT.z.sq
                              (HT.z.sq
                                (HT.lp [((13 : Nat), Ty.one (Sh.int IntKind.i64))]
                                    (HT.z.sq (((HT.rg (8 : Nat)).sq HT.z).bl.sq HT.z))).bl)).bl.sq
                        HT.z))).bl).sq
            HT.z)))))) Try.func3 (by kernel_rfl) (by kernel_rfl) (Eq.mp (by kernel_rfl) h)

/-- dunnage/dunnagelaw06.FrameJoins -/
theorem dunnagelaw06_FrameJoins.vc (s0 : SV) (w : World) (R : Bool → World → Prop)
  (h : CallT [Ty.one Sh.slice, Ty.one (Sh.int IntKind.i64)] Try.prog (35 : Nat) [Value.slice s0.a s0.len s0.cap] w
      fun (x : SV × Int) (w' : World) =>
      CallT [Ty.one Sh.slice, Ty.one (Sh.int IntKind.i64)] Try.prog (36 : Nat) [Value.slice s0.a s0.len s0.cap] w'
        fun (x_1 : SV × Int) (w' : World) =>
        CallT [Ty.one Sh.bool] Try.prog (30 : Nat) [] w' fun (x_2 : Bool) (w' : World) =>
          cnd x_2
            (CallT [Ty.one Sh.bool] Try.prog (33 : Nat)
              [Value.slice x.fst.a x.fst.len x.fst.cap, Value.slice x_1.fst.a x_1.fst.len x_1.fst.cap] w'
              fun (x_3 : Bool) (w' : World) => cnd x_3 (R (x.snd == x_1.snd) w') (R false w'))
            (R false w'))
  : CallT [Ty.one Sh.bool] Try.prog 4 [Value.slice s0.a s0.len s0.cap] w R :=
  fnV_sound (h := HT.z) Try.func4 (by kernel_rfl) (by kernel_rfl) (Eq.mp (by kernel_rfl) h)

/-- dunnage/dunnagelaw04.DiskArmed -/
theorem dunnagelaw04_DiskArmed.vc (n0 : Int) (s1 : SV) (w : World) (R : Bool → World → Prop)
  (h : CallT [Ty.one Sh.ptr, Ty.one (Sh.int IntKind.i64)] Try.prog (37 : Nat) [Value.int IntKind.i64 (4 : Int)] w
      fun (x : Option Addr × Int) (w' : World) =>
      ∃ (R_1 : PUnit → World → Prop),
        (CallT [Ty.one Sh.bool] Try.prog (38 : Nat) [] w' fun (x_1 : Bool) (w' : World) =>
            cnd (!x_1) (R false w')
              (cnd (x.snd != (0 : Int)) (R false w') (cnd (Option.isNone x.fst) (R false w') (R_1 () w')))) ∧
          ∀ (x_1 : PUnit) (j : Nat → Value) (w' : World),
            R_1 x_1 w' →
              let e1 := IntKind.i64.wrap ((1 : Int) + IntKind.i64.wrap ((IntKind.u64.wrap n0).tmod (20 : Int)));
              CallT [Ty.one (Sh.int IntKind.i64)] Try.prog (39 : Nat) [Value.pointer x.fst, Value.int IntKind.i64 e1] w'
                fun (x_2 : Int) (w' : World) =>
                cnd (x_2 != (0 : Int)) (R false w')
                  (∃ (I : Nat → Int → World → Prop),
                    (∃ (n : Nat), I n (1 : Int) w') ∧
                      ∀ (n : Nat) (x_3 : Int) (j : Nat → Value) (w' : World),
                        I n x_3 w' →
                          cnd (decide (x_3 ≤ (30 : Int)))
                            (∃ (R_2 : Bool → World → Prop),
                              cnd (decide (x_3 ≤ (↑s1.len : Int)))
                                  ((0 : Int) ≤ IntKind.i64.wrap (x_3 - (1 : Int)) ∧
                                    IntKind.i64.wrap (x_3 - (1 : Int)) < (↑s1.len : Int) ∧
                                      onP s1.a fun (A : Addr) =>
                                        ∃ (x : Bool),
                                          w'.cell? (A.add ((IntKind.i64.wrap (x_3 - (1 : Int))).toNat * (1 : Nat))) =
                                              some (Value.bool x) ∧
                                            R_2 x w')
                                  (R_2 false w') ∧
                                ∀ (x_4 : Bool) (j : Nat → Value) (w' : World),
                                  R_2 x_4 w' →
                                    ∃ (R_3 : Int → World → Prop),
                                      cnd x_4
                                          (CallT [Ty.one (Sh.int IntKind.i64)] Try.prog (40 : Nat) [Value.pointer x.fst] w'
                                            fun (x : Int) (w' : World) => R_3 x w')
                                          (CallT [Ty.one Sh.slice] Try.prog (42 : Nat)
                                            [Value.int IntKind.u8 (IntKind.u8.wrap x_3), Value.bool false] w'
                                            fun (x_5 : SV) (w' : World) =>
                                            CallT [Ty.one (Sh.int IntKind.i64)] Try.prog (41 : Nat)
                                              [Value.pointer x.fst, Value.int IntKind.i64 (x_3.tmod (4 : Int)),
                                                Value.slice x_5.a x_5.len x_5.cap]
                                              w' fun (x : Int) (w' : World) => R_3 x w') ∧
                                        ∀ (x_5 : Int) (j : Nat → Value) (w' : World),
                                          R_3 x_5 w' →
                                            cnd (decide (x_3 < e1))
                                              (cnd (x_5 != (0 : Int)) (R false w')
                                                (cnd (decide (x_3 ≥ e1))
                                                  (cnd (x_5 != (40 : Int)) (R false w')
                                                    (CallT [Ty.one Sh.bool] Try.prog (43 : Nat) [Value.pointer x.fst] w'
                                                      fun (x : Bool) (w' : World) =>
                                                      cnd (!x == decide (x_3 ≥ e1)) (R false w')
                                                        (∃ (m : Nat), m < n ∧ I m (IntKind.i64.wrap (x_3 + (1 : Int))) w')))
                                                  (CallT [Ty.one Sh.bool] Try.prog (43 : Nat) [Value.pointer x.fst] w'
                                                    fun (x : Bool) (w' : World) =>
                                                    cnd (!x == decide (x_3 ≥ e1)) (R false w')
                                                      (∃ (m : Nat), m < n ∧ I m (IntKind.i64.wrap (x_3 + (1 : Int))) w'))))
                                              (cnd (decide (x_3 ≥ e1))
                                                (cnd (x_5 != (40 : Int)) (R false w')
                                                  (CallT [Ty.one Sh.bool] Try.prog (43 : Nat) [Value.pointer x.fst] w'
                                                    fun (x : Bool) (w' : World) =>
                                                    cnd (!x == decide (x_3 ≥ e1)) (R false w')
                                                      (∃ (m : Nat), m < n ∧ I m (IntKind.i64.wrap (x_3 + (1 : Int))) w')))
                                                (CallT [Ty.one Sh.bool] Try.prog (43 : Nat) [Value.pointer x.fst] w'
                                                  fun (x : Bool) (w' : World) =>
                                                  cnd (!x == decide (x_3 ≥ e1)) (R false w')
                                                    (∃ (m : Nat), m < n ∧ I m (IntKind.i64.wrap (x_3 + (1 : Int))) w'))))
                            (CallT [Ty.one Sh.slice, Ty.one (Sh.int IntKind.i64)] Try.prog (44 : Nat)
                              [Value.pointer x.fst, Value.int IntKind.i64 (0 : Int)] w' fun (x_4 : SV × Int) (w' : World) =>
                              ∃ (R_2 : PUnit → World → Prop),
                                cnd (x_4.snd != (40 : Int)) (R false w')
                                    (CallT [Ty.one (Sh.int IntKind.i64)] Try.prog (39 : Nat)
                                      [Value.pointer x.fst, Value.int IntKind.i64 (3 : Int)] w'
                                      fun (x_5 : Int) (w' : World) =>
                                      cnd (x_5 != (40 : Int)) (R false w')
                                        (CallT [Ty.one (Sh.int IntKind.i64)] Try.prog (45 : Nat) [Value.pointer x.fst] w'
                                          fun (x_6 : Int) (w' : World) =>
                                          cnd (x_6 != (0 : Int)) (R false w')
                                            (CallT [Ty.one Sh.bool] Try.prog (43 : Nat) [Value.pointer x.fst] w'
                                              fun (x : Bool) (w' : World) => cnd x (R false w') (R_2 () w')))) ∧
                                  ∀ (x_5 : PUnit) (j : Nat → Value) (w' : World),
                                    R_2 x_5 w' →
                                      CallT [Ty.one Sh.slice] Try.prog (42 : Nat)
                                        [Value.int IntKind.u8 (1 : Int), Value.bool false] w' fun (x_6 : SV) (w' : World) =>
                                        CallT [Ty.one (Sh.int IntKind.i64)] Try.prog (41 : Nat)
                                          [Value.pointer x.fst, Value.int IntKind.i64 (0 : Int),
                                            Value.slice x_6.a x_6.len x_6.cap]
                                          w' fun (x_7 : Int) (w' : World) =>
                                          cnd (x_7 == (0 : Int))
                                            (CallT [Ty.one (Sh.int IntKind.i64)] Try.prog (40 : Nat) [Value.pointer x.fst]
                                              w' fun (x : Int) (w' : World) => R (x == (0 : Int)) w')
                                            (R false w'))))
  : CallT [Ty.one Sh.bool] Try.prog 5 [Value.int IntKind.i64 n0, Value.slice s1.a s1.len s1.cap] w R :=
  fnV_sound (h := HT.z.sq
  (HT.z.sq
    (HT.jn [] HT.z
      (HT.z.sq
        (HT.z.sq
          ((HT.z.sq
                (HT.lp [((7 : Nat), Ty.one (Sh.int IntKind.i64))]
                    (HT.z.sq
                      ((HT.jn [((8 : Nat), Ty.one Sh.bool)] HT.z
                              (HT.z.sq (HT.jn [((9 : Nat), Ty.one (Sh.int IntKind.i64))] HT.z HT.z))).bl.sq
                        HT.z))).bl).sq
            (HT.z.sq (HT.jn [] HT.z HT.z)))))))) Try.func5 (by kernel_rfl) (by kernel_rfl) (Eq.mp (by kernel_rfl) h)

/-- dunnage/dunnagelaw06.FrameReads -/
theorem dunnagelaw06_FrameReads.vc (x0 : Int × Int × Int × SV) (s1 : SV) (n2 : Int) (w : World) (R : Bool → World → Prop)
  (h : CallT [Ty.one Sh.slice] Try.prog (27 : Nat) [Value.slice s1.a s1.len s1.cap, Value.int IntKind.u8 (71 : Int)]
      (w.alloc
        (Obj.cells
          #[Value.int IntKind.u64 x0.fst, Value.int IntKind.u64 x0.snd.fst, Value.int IntKind.i64 x0.snd.snd.fst,
            Value.slice x0.snd.snd.snd.a x0.snd.snd.snd.len x0.snd.snd.snd.cap]
          (51 : Nat)))
      fun (x : SV) (w' : World) =>
      ∃ (x_1 : Int × Int × Int × SV),
        cellsAt w' (Addr.mk w.heap.size (0 : Nat) none)
            [Value.int IntKind.u64 x_1.fst, Value.int IntKind.u64 x_1.snd.fst, Value.int IntKind.i64 x_1.snd.snd.fst,
              Value.slice x_1.snd.snd.snd.a x_1.snd.snd.snd.len x_1.snd.snd.snd.cap] ∧
          CallT [Ty.one Sh.slice, Ty.one (Sh.int IntKind.i64)] Try.prog (46 : Nat)
            [Value.agg
                #[Value.int IntKind.u64 x_1.fst, Value.int IntKind.u64 x_1.snd.fst, Value.int IntKind.i64 x_1.snd.snd.fst,
                  Value.slice x_1.snd.snd.snd.a x_1.snd.snd.snd.len x_1.snd.snd.snd.cap]]
            w' fun (x_2 : SV × Int) (w' : World) =>
            ∃ (x_3 : Int × Int × Int × SV),
              cellsAt w' (Addr.mk w.heap.size (0 : Nat) none)
                  [Value.int IntKind.u64 x_3.fst, Value.int IntKind.u64 x_3.snd.fst, Value.int IntKind.i64 x_3.snd.snd.fst,
                    Value.slice x_3.snd.snd.snd.a x_3.snd.snd.snd.len x_3.snd.snd.snd.cap] ∧
                CallT [Ty.one Sh.slice, Ty.one (Sh.int IntKind.i64)] Try.prog (47 : Nat)
                  [Value.agg
                      #[Value.int IntKind.u64 x_3.fst, Value.int IntKind.u64 x_3.snd.fst,
                        Value.int IntKind.i64 x_3.snd.snd.fst,
                        Value.slice x_3.snd.snd.snd.a x_3.snd.snd.snd.len x_3.snd.snd.snd.cap]]
                  w' fun (x_4 : SV × Int) (w' : World) =>
                  CallT
                    [Ty.agg [Sh.int IntKind.u64, Sh.int IntKind.u64, Sh.int IntKind.i64, Sh.slice],
                      Ty.one (Sh.int IntKind.i64)]
                    Try.prog (48 : Nat) [Value.slice x.a x.len x.cap] w'
                    fun (x_5 : (Int × Int × Int × SV) × Int) (w' : World) =>
                    let w1 :=
                      w'.alloc
                        (Obj.cells
                          #[Value.int IntKind.u64 (0 : Int), Value.int IntKind.u64 (0 : Int),
                            Value.int IntKind.i64 (0 : Int), Value.slice none (0 : Nat) (0 : Nat)]
                          (51 : Nat));
                    canSt w1 (Addr.mk w'.heap.size (0 : Nat) none) (4 : Nat) ∧
                      CallT
                        [Ty.agg [Sh.int IntKind.u64, Sh.int IntKind.u64, Sh.int IntKind.i64, Sh.slice],
                          Ty.one (Sh.int IntKind.i64)]
                        Try.prog (49 : Nat) [Value.slice s1.a s1.len s1.cap]
                        (setCells w1 (Addr.mk w'.heap.size (0 : Nat) none) (0 : Nat)
                          [Value.int IntKind.u64 x_5.fst.fst, Value.int IntKind.u64 x_5.fst.snd.fst,
                            Value.int IntKind.i64 x_5.fst.snd.snd.fst,
                            Value.slice x_5.fst.snd.snd.snd.a x_5.fst.snd.snd.snd.len x_5.fst.snd.snd.snd.cap])
                        fun (x_6 : (Int × Int × Int × SV) × Int) (w'_1 : World) =>
                        let w1 :=
                          w'_1.alloc
                            (Obj.cells
                              #[Value.int IntKind.u64 (0 : Int), Value.int IntKind.u64 (0 : Int),
                                Value.int IntKind.i64 (0 : Int), Value.slice none (0 : Nat) (0 : Nat)]
                              (51 : Nat));
                        canSt w1 (Addr.mk w'_1.heap.size (0 : Nat) none) (4 : Nat) ∧
                          ∃ (R_1 : PUnit → World → Prop),
                            (CallT [Ty.one Sh.bool] Try.prog (30 : Nat) []
                                (setCells w1 (Addr.mk w'_1.heap.size (0 : Nat) none) (0 : Nat)
                                  [Value.int IntKind.u64 x_6.fst.fst, Value.int IntKind.u64 x_6.fst.snd.fst,
                                    Value.int IntKind.i64 x_6.fst.snd.snd.fst,
                                    Value.slice x_6.fst.snd.snd.snd.a x_6.fst.snd.snd.snd.len x_6.fst.snd.snd.snd.cap])
                                fun (x : Bool) (w'_2 : World) =>
                                cnd (!x) (R false w'_2)
                                  (CallT [Ty.one Sh.bool] Try.prog (33 : Nat)
                                    [Value.slice x_2.fst.a x_2.fst.len x_2.fst.cap,
                                      Value.slice x_4.fst.a x_4.fst.len x_4.fst.cap]
                                    w'_2 fun (x : Bool) (w'_3 : World) =>
                                    cnd (!x) (R false w'_3)
                                      (cnd (x_2.snd != x_4.snd) (R false w'_3)
                                        (∃ (x : Int × Int × Int × SV),
                                          cellsAt w'_3 (Addr.mk w'.heap.size (0 : Nat) none)
                                              [Value.int IntKind.u64 x.fst, Value.int IntKind.u64 x.snd.fst,
                                                Value.int IntKind.i64 x.snd.snd.fst,
                                                Value.slice x.snd.snd.snd.a x.snd.snd.snd.len x.snd.snd.snd.cap] ∧
                                            ∃ (x_7 : Int × Int × Int × SV),
                                              cellsAt w'_3 (Addr.mk w'_1.heap.size (0 : Nat) none)
                                                  [Value.int IntKind.u64 x_7.fst, Value.int IntKind.u64 x_7.snd.fst,
                                                    Value.int IntKind.i64 x_7.snd.snd.fst,
                                                    Value.slice x_7.snd.snd.snd.a x_7.snd.snd.snd.len x_7.snd.snd.snd.cap] ∧
                                                CallT [Ty.one Sh.bool] Try.prog (50 : Nat)
                                                  [Value.agg
                                                      #[Value.int IntKind.u64 x.fst, Value.int IntKind.u64 x.snd.fst,
                                                        Value.int IntKind.i64 x.snd.snd.fst,
                                                        Value.slice x.snd.snd.snd.a x.snd.snd.snd.len x.snd.snd.snd.cap],
                                                    Value.agg
                                                      #[Value.int IntKind.u64 x_7.fst, Value.int IntKind.u64 x_7.snd.fst,
                                                        Value.int IntKind.i64 x_7.snd.snd.fst,
                                                        Value.slice x_7.snd.snd.snd.a x_7.snd.snd.snd.len
                                                          x_7.snd.snd.snd.cap]]
                                                  w'_3 fun (x : Bool) (w' : World) =>
                                                  cnd (!x) (R false w')
                                                    (cnd (x_5.snd != x_6.snd) (R false w')
                                                      (CallT [Ty.one (Sh.int IntKind.i64)] Try.prog (51 : Nat)
                                                        [Value.int IntKind.i64 n2] w' fun (x : Int) (w' : World) =>
                                                        CallT [Ty.one (Sh.int IntKind.i64)] Try.prog (52 : Nat)
                                                          [Value.int IntKind.i64 n2] w' fun (x_8 : Int) (w' : World) =>
                                                          cnd (x != x_8) (R false w') (R_1 () w'))))))) ∧
                              ∀ (x_7 : PUnit) (j : Nat → Value) (w'_2 : World),
                                R_1 x_7 w'_2 →
                                  ∃ (x_8 : SV),
                                    w'_2.cell? ((Addr.mk w'.heap.size (0 : Nat) none).add (3 : Nat)) =
                                        some (Value.slice x_8.a x_8.len x_8.cap) ∧
                                      CallT [] Try.prog (32 : Nat) [Value.slice x_8.a x_8.len x_8.cap] w'_2
                                        fun (x_9 : PUnit) (w' : World) =>
                                        CallT [Ty.one Sh.bool] Try.prog (34 : Nat)
                                          [Value.slice x.a x.len x.cap, Value.slice s1.a s1.len s1.cap,
                                            Value.int IntKind.u8 (71 : Int)]
                                          w' fun (x : Bool) (w' : World) => R x w')
  : CallT [Ty.one Sh.bool] Try.prog 6 [Value.agg
    #[Value.int IntKind.u64 x0.fst, Value.int IntKind.u64 x0.snd.fst, Value.int IntKind.i64 x0.snd.snd.fst,
      Value.slice x0.snd.snd.snd.a x0.snd.snd.snd.len x0.snd.snd.snd.cap],
  Value.slice s1.a s1.len s1.cap, Value.int IntKind.i64 n2] w R :=
  fnV_sound (h := HT.z.sq (HT.z.sq (HT.z.sq (HT.z.sq (HT.z.sq (HT.z.sq (HT.jn [] HT.z HT.z))))))) Try.func6 (by kernel_rfl) (by kernel_rfl) (Eq.mp (by kernel_rfl) h)

/-- dunnage/dunnagelaw04.DiskKeeps -/
theorem dunnagelaw04_DiskKeeps.vc (s0 : SV) (s1 : SV) (s2 : SV) (w : World) (R : Bool → World → Prop)
  (h : CallT [Ty.one Sh.ptr] Try.prog (53 : Nat) [Value.slice s0.a s0.len s0.cap] w fun (x : Option Addr) (w' : World) =>
      ∃ (R_1 : PUnit → World → Prop),
        (CallT [Ty.one Sh.bool] Try.prog (38 : Nat) [] w' fun (x_1 : Bool) (w' : World) =>
            cnd (!x_1) (R false w') (cnd x.isNone (R false w') (R_1 () w'))) ∧
          ∀ (x_1 : PUnit) (j : Nat → Value) (w' : World),
            R_1 x_1 w' →
              CallT [Ty.one (Sh.int IntKind.i64)] Try.prog (45 : Nat) [Value.pointer x] w' fun (x_2 : Int) (w' : World) =>
                CallT [Ty.one (Sh.int IntKind.i64)] Try.prog (39 : Nat) [Value.pointer x, Value.int IntKind.i64 (0 : Int)]
                  w' fun (x_3 : Int) (w' : World) =>
                  CallT [Ty.one (Sh.int IntKind.i64)] Try.prog (40 : Nat) [Value.pointer x] w'
                    fun (x_4 : Int) (w' : World) =>
                    cnd (x_4 != (0 : Int)) (R false w')
                      (let w1 :=
                        w'.alloc
                          (Obj.cells
                            #[Value.slice none (0 : Nat) (0 : Nat), Value.slice none (0 : Nat) (0 : Nat),
                              Value.slice none (0 : Nat) (0 : Nat), Value.slice none (0 : Nat) (0 : Nat),
                              Value.slice none (0 : Nat) (0 : Nat), Value.slice none (0 : Nat) (0 : Nat),
                              Value.slice none (0 : Nat) (0 : Nat), Value.slice none (0 : Nat) (0 : Nat)]
                            (60 : Nat));
                      ∃ (I : Nat → Int → World → Prop),
                        (∃ (n : Nat),
                            I n (0 : Int)
                              (w1.alloc
                                (Obj.cells
                                  #[Value.slice none (0 : Nat) (0 : Nat), Value.slice none (0 : Nat) (0 : Nat),
                                    Value.slice none (0 : Nat) (0 : Nat), Value.slice none (0 : Nat) (0 : Nat),
                                    Value.slice none (0 : Nat) (0 : Nat), Value.slice none (0 : Nat) (0 : Nat),
                                    Value.slice none (0 : Nat) (0 : Nat), Value.slice none (0 : Nat) (0 : Nat)]
                                  (60 : Nat)))) ∧
                          ∀ (n : Nat) (x_5 : Int) (j : Nat → Value) (w'_1 : World),
                            I n x_5 w'_1 →
                              cnd (decide (x_5 < (8 : Int)))
                                (CallT [Ty.one Sh.slice, Ty.one (Sh.int IntKind.i64)] Try.prog (44 : Nat)
                                  [Value.pointer x, Value.int IntKind.i64 x_5] w'_1 fun (x : SV × Int) (w'_2 : World) =>
                                  cnd (x.snd != (0 : Int)) (R false w'_2)
                                    ((0 : Int) ≤ x_5 ∧
                                      x_5 < (↑(8 : Nat) : Int) ∧
                                        (w'_2.cell?
                                                ((Addr.mk w'.heap.size (0 : Nat) none).add
                                                  (x_5.toNat * (1 : Nat)))).isSome =
                                            true ∧
                                          w'_2.frozen? ((Addr.mk w'.heap.size (0 : Nat) none).add (x_5.toNat * (1 : Nat))) =
                                              false ∧
                                            ∃ (m : Nat),
                                              m < n ∧
                                                I m (IntKind.i64.wrap (x_5 + (1 : Int)))
                                                  (w'_2.setCell
                                                    ((Addr.mk w'.heap.size (0 : Nat) none).add (x_5.toNat * (1 : Nat)))
                                                    (Value.slice x.fst.a x.fst.len x.fst.cap))))
                                (∃ (R_2 : PUnit → World → Prop),
                                  (∃ (I : Nat → Int → World → Prop),
                                      (∃ (n : Nat), I n (0 : Int) w'_1) ∧
                                        ∀ (n : Nat) (x_6 : Int) (j : Nat → Value) (w' : World),
                                          I n x_6 w' →
                                            ∃ (R : PUnit → World → Prop),
                                              cnd (decide (x_6 < (↑s1.len : Int)))
                                                  (cnd (decide (x_6 < (60 : Int))) (R () w') (R_2 () w')) (R_2 () w') ∧
                                                ∀ (x_7 : PUnit) (j : Nat → Value) (w' : World),
                                                  R x_7 w' →
                                                    ∃ (R : Bool → World → Prop),
                                                      (∃ (S : World → Prop),
                                                          S w'.drew ∧
                                                            (0 : Int) ≤ x_6 ∧
                                                              x_6 < (↑s1.len : Int) ∧
                                                                onP s1.a fun (A : Addr) =>
                                                                  ∃ (x_8 : Int),
                                                                    (∀ (w : World),
                                                                        S w →
                                                                          w.cell?
                                                                              ((A.add (x_6.toNat * (6 : Nat))).add
                                                                                (0 : Nat)) =
                                                                            some (Value.int IntKind.i64 x_8)) ∧
                                                                      cnd (x_8 == (0 : Int))
                                                                        ((0 : Int) ≤ x_6 ∧
                                                                          x_6 < (↑s1.len : Int) ∧
                                                                            onP s1.a fun (A : Addr) =>
                                                                              ∃ (x_9 : Int),
                                                                                (∀ (w : World),
                                                                                    S w →
                                                                                      w.cell?
                                                                                          ((A.add
                                                                                                (x_6.toNat * (6 : Nat))).add
                                                                                            (1 : Nat)) =
                                                                                        some (Value.int IntKind.i64 x_9)) ∧
                                                                                  (0 : Int) ≤ x_6 ∧
                                                                                    x_6 < (↑s1.len : Int) ∧
                                                                                      onP s1.a fun (A : Addr) =>
                                                                                        ∃ (x_10 : Int),
                                                                                          (∀ (w : World),
                                                                                              S w →
                                                                                                w.cell?
                                                                                                    ((A.add
                                                                                                          (x_6.toNat *
                                                                                                            (6 : Nat))).add
                                                                                                      (3 : Nat)) =
                                                                                                  some
                                                                                                    (Value.int IntKind.u8
                                                                                                      x_10)) ∧
                                                                                            CallT [Ty.one Sh.slice] Try.prog
                                                                                              (42 : Nat)
                                                                                              [Value.int IntKind.u8 x_10,
                                                                                                Value.bool false]
                                                                                              w'.drew
                                                                                              fun (x_11 : SV)
                                                                                                (w' : World) =>
                                                                                              S w' ∧
                                                                                                CallT
                                                                                                  [Ty.one
                                                                                                      (Sh.int IntKind.i64)]
                                                                                                  Try.prog (41 : Nat)
                                                                                                  [Value.pointer x,
                                                                                                    Value.int IntKind.i64
                                                                                                      x_9,
                                                                                                    Value.slice x_11.a
                                                                                                      x_11.len x_11.cap]
                                                                                                  w'
                                                                                                  fun (x : Int)
                                                                                                    (w' : World) =>
                                                                                                  S w' ∧
                                                                                                    R (x == (0 : Int)) w')
                                                                        (S w'.drew ∧ S w'.drew ∧ R false w'.drew)) ∧
                                                        ∀ (x : Bool) (j : Nat → Value) (w' : World),
                                                          R x w' →
                                                            cnd x
                                                              (∃ (S : World → Prop),
                                                                S w'.drew ∧
                                                                  (0 : Int) ≤ x_6 ∧
                                                                    x_6 < (↑s1.len : Int) ∧
                                                                      onP s1.a fun (A : Addr) =>
                                                                        ∃ (x : Int),
                                                                          (∀ (w : World),
                                                                              S w →
                                                                                w.cell?
                                                                                    ((A.add (x_6.toNat * (6 : Nat))).add
                                                                                      (1 : Nat)) =
                                                                                  some (Value.int IntKind.i64 x)) ∧
                                                                            (0 : Int) ≤ x_6 ∧
                                                                              x_6 < (↑s1.len : Int) ∧
                                                                                onP s1.a fun (A : Addr) =>
                                                                                  ∃ (x_8 : Int),
                                                                                    (∀ (w : World),
                                                                                        S w →
                                                                                          w.cell?
                                                                                              ((A.add
                                                                                                    (x_6.toNat *
                                                                                                      (6 : Nat))).add
                                                                                                (1 : Nat)) =
                                                                                            some
                                                                                              (Value.int IntKind.i64 x_8)) ∧
                                                                                      (0 : Int) ≤ x_8 ∧
                                                                                        x_8 < (↑(8 : Nat) : Int) ∧
                                                                                          ∃ (x_9 : SV),
                                                                                            (∀ (w : World),
                                                                                                S w →
                                                                                                  w.cell?
                                                                                                      ((Addr.mk w1.heap.size
                                                                                                            (0 : Nat)
                                                                                                            none).add
                                                                                                        (x_8.toNat *
                                                                                                          (1 : Nat))) =
                                                                                                    some
                                                                                                      (Value.slice x_9.a
                                                                                                        x_9.len x_9.cap)) ∧
                                                                                              (0 : Int) ≤ x_6 ∧
                                                                                                x_6 < (↑s1.len : Int) ∧
                                                                                                  onP s1.a fun (A : Addr) =>
                                                                                                    ∃ (x_10 : Int),
                                                                                                      (∀ (w : World),
                                                                                                          S w →
                                                                                                            w.cell?
                                                                                                                ((A.add
                                                                                                                      (x_6.toNat *
                                                                                                                        (6 :
                                                                                                                          Nat))).add
                                                                                                                  (3 :
                                                                                                                    Nat)) =
                                                                                                              some
                                                                                                                (Value.int
                                                                                                                  IntKind.u8
                                                                                                                  x_10)) ∧
                                                                                                        let w1_1 :=
                                                                                                          w'.drew.alloc
                                                                                                            (Obj.cells
                                                                                                              #[Value.int
                                                                                                                  IntKind.u8
                                                                                                                  x_10]
                                                                                                              (5 : Nat));
                                                                                                        S w1_1 ∧
                                                                                                          appV Try.prog
                                                                                                            [(23 : Nat),
                                                                                                              (23 : Nat)]
                                                                                                            (23 : Nat)
                                                                                                            [Value.slice
                                                                                                                x_9.a
                                                                                                                x_9.len
                                                                                                                x_9.cap,
                                                                                                              Value.slice
                                                                                                                (some
                                                                                                                  (Addr.mk
                                                                                                                    w'.drew.heap.size
                                                                                                                    (0 :
                                                                                                                      Nat)
                                                                                                                    none))
                                                                                                                (1 : Nat)
                                                                                                                (1 : Nat)]
                                                                                                            w1_1
                                                                                                            fun (s : SV)
                                                                                                              (w' :
                                                                                                                World) =>
                                                                                                            S w' ∧
                                                                                                              (0 : Int) ≤
                                                                                                                  x ∧
                                                                                                                x <
                                                                                                                    (↑(8 :
                                                                                                                          Nat) :
                                                                                                                      Int) ∧
                                                                                                                  (w'.cell?
                                                                                                                          ((Addr.mk
                                                                                                                                w1.heap.size
                                                                                                                                (0 :
                                                                                                                                  Nat)
                                                                                                                                none).add
                                                                                                                            (x.toNat *
                                                                                                                              (1 :
                                                                                                                                Nat)))).isSome =
                                                                                                                      true ∧
                                                                                                                    w'.frozen?
                                                                                                                          ((Addr.mk
                                                                                                                                w1.heap.size
                                                                                                                                (0 :
                                                                                                                                  Nat)
                                                                                                                                none).add
                                                                                                                            (x.toNat *
                                                                                                                              (1 :
                                                                                                                                Nat))) =
                                                                                                                        false ∧
                                                                                                                      ∃ (m :
                                                                                                                        Nat),
                                                                                                                        m <
                                                                                                                            n ∧
                                                                                                                          I
                                                                                                                            m
                                                                                                                            (IntKind.i64.wrap
                                                                                                                              (x_6 +
                                                                                                                                (1 :
                                                                                                                                  Int)))
                                                                                                                            (w'.setCell
                                                                                                                              ((Addr.mk
                                                                                                                                    w1.heap.size
                                                                                                                                    (0 :
                                                                                                                                      Nat)
                                                                                                                                    none).add
                                                                                                                                (x.toNat *
                                                                                                                                  (1 :
                                                                                                                                    Nat)))
                                                                                                                              (Value.slice
                                                                                                                                s.a
                                                                                                                                s.len
                                                                                                                                s.cap)))
                                                              (∃ (m : Nat),
                                                                m < n ∧ I m (IntKind.i64.wrap (x_6 + (1 : Int))) w')) ∧
                                    ∀ (x_6 : PUnit) (j : Nat → Value) (w'_2 : World),
                                      R_2 x_6 w'_2 →
                                        CallT [Ty.one (Sh.int IntKind.i64)] Try.prog (54 : Nat)
                                          [Value.pointer x, Value.slice s2.a s2.len s2.cap] w'_2
                                          fun (x_7 : Int) (w'_3 : World) =>
                                          CallT [Ty.one (Sh.int IntKind.i64)] Try.prog (45 : Nat) [Value.pointer x] w'_3
                                            fun (x_8 : Int) (w'_4 : World) =>
                                            ∃ (I : Nat → Int → World → Prop),
                                              (∃ (n : Nat), I n (0 : Int) w'_4) ∧
                                                ∀ (n : Nat) (x_9 : Int) (j : Nat → Value) (w'_5 : World),
                                                  I n x_9 w'_5 →
                                                    cnd (decide (x_9 < (8 : Int)))
                                                      (CallT [Ty.one Sh.slice, Ty.one (Sh.int IntKind.i64)] Try.prog
                                                        (44 : Nat) [Value.pointer x, Value.int IntKind.i64 x_9] w'_5
                                                        fun (x : SV × Int) (w'_6 : World) =>
                                                        ∃ (R_3 : Bool → World → Prop),
                                                          cnd (x.snd == (0 : Int))
                                                              ((0 : Int) ≤ x_9 ∧
                                                                x_9 < (↑(8 : Nat) : Int) ∧
                                                                  ∃ (x_10 : SV),
                                                                    w'_6.cell?
                                                                          ((Addr.mk w'.heap.size (0 : Nat) none).add
                                                                            (x_9.toNat * (1 : Nat))) =
                                                                        some (Value.slice x_10.a x_10.len x_10.cap) ∧
                                                                      CallT [Ty.one Sh.bool] Try.prog (33 : Nat)
                                                                        [Value.slice x.fst.a x.fst.len x.fst.cap,
                                                                          Value.slice x_10.a x_10.len x_10.cap]
                                                                        w'_6 fun (x : Bool) (w' : World) => R_3 x w')
                                                              (R_3 false w'_6) ∧
                                                            ∀ (x_10 : Bool) (j : Nat → Value) (w' : World),
                                                              R_3 x_10 w' →
                                                                ∃ (I_1 : Nat → Bool × Int → World → Prop),
                                                                  (∃ (n : Nat), I_1 n (x_10, (0 : Int)) w') ∧
                                                                    ∀ (n_1 : Nat) (x_11 : Bool × Int) (j : Nat → Value)
                                                                      (w' : World),
                                                                      I_1 n_1 x_11 w' →
                                                                        let e1 := x_11.snd;
                                                                        (0 : Int) ≤ x_9 ∧
                                                                          x_9 < (↑(8 : Nat) : Int) ∧
                                                                            ∃ (x_12 : SV),
                                                                              w'.cell?
                                                                                    ((Addr.mk w1.heap.size (0 : Nat)
                                                                                          none).add
                                                                                      (x_9.toNat * (1 : Nat))) =
                                                                                  some
                                                                                    (Value.slice x_12.a x_12.len x_12.cap) ∧
                                                                                cnd (decide (e1 < (↑x_12.len : Int)))
                                                                                  (cnd x_11.fst
                                                                                    (∃ (m : Nat),
                                                                                      m < n_1 ∧
                                                                                        I_1 m
                                                                                          (true,
                                                                                            IntKind.i64.wrap
                                                                                              (x_11.snd + (1 : Int)))
                                                                                          w')
                                                                                    (cnd (x.snd == (0 : Int))
                                                                                      ((0 : Int) ≤ x_9 ∧
                                                                                        x_9 < (↑(8 : Nat) : Int) ∧
                                                                                          ∃ (x_13 : SV),
                                                                                            w'.cell?
                                                                                                  ((Addr.mk w1.heap.size
                                                                                                        (0 : Nat) none).add
                                                                                                    (x_9.toNat *
                                                                                                      (1 : Nat))) =
                                                                                                some
                                                                                                  (Value.slice x_13.a
                                                                                                    x_13.len x_13.cap) ∧
                                                                                              let e1 := x_11.snd;
                                                                                              (0 : Int) ≤ e1 ∧
                                                                                                e1 < (↑x_13.len : Int) ∧
                                                                                                  onP x_13.a
                                                                                                    fun (A : Addr) =>
                                                                                                    ∃ (x_14 : Int),
                                                                                                      w'.cell?
                                                                                                            (A.add
                                                                                                              (e1.toNat *
                                                                                                                (1 :
                                                                                                                  Nat))) =
                                                                                                          some
                                                                                                            (Value.int
                                                                                                              IntKind.u8
                                                                                                              x_14) ∧
                                                                                                        CallT
                                                                                                          [Ty.one Sh.slice]
                                                                                                          Try.prog
                                                                                                          (42 : Nat)
                                                                                                          [Value.int
                                                                                                              IntKind.u8
                                                                                                              x_14,
                                                                                                            Value.bool
                                                                                                              false]
                                                                                                          w'
                                                                                                          fun (x_15 : SV)
                                                                                                            (w' : World) =>
                                                                                                          CallT
                                                                                                            [Ty.one Sh.bool]
                                                                                                            Try.prog
                                                                                                            (33 : Nat)
                                                                                                            [Value.slice
                                                                                                                x.fst.a
                                                                                                                x.fst.len
                                                                                                                x.fst.cap,
                                                                                                              Value.slice
                                                                                                                x_15.a
                                                                                                                x_15.len
                                                                                                                x_15.cap]
                                                                                                            w'
                                                                                                            fun (x : Bool)
                                                                                                              (w' :
                                                                                                                World) =>
                                                                                                            ∃ (m : Nat),
                                                                                                              m < n_1 ∧
                                                                                                                I_1 m
                                                                                                                  (x,
                                                                                                                    IntKind.i64.wrap
                                                                                                                      (x_11.snd +
                                                                                                                        (1 :
                                                                                                                          Int)))
                                                                                                                  w')
                                                                                      (∃ (m : Nat),
                                                                                        m < n_1 ∧
                                                                                          I_1 m
                                                                                            (false,
                                                                                              IntKind.i64.wrap
                                                                                                (x_11.snd + (1 : Int)))
                                                                                            w')))
                                                                                  (cnd (!x_11.fst) (R false w')
                                                                                    (∃ (m : Nat),
                                                                                      m < n ∧
                                                                                        I m
                                                                                          (IntKind.i64.wrap
                                                                                            (x_9 + (1 : Int)))
                                                                                          w')))
                                                      (R true w'_5))))
  : CallT [Ty.one Sh.bool] Try.prog 7 [Value.slice s0.a s0.len s0.cap, Value.slice s1.a s1.len s1.cap, Value.slice s2.a s2.len s2.cap] w R :=
  fnV_sound (h := HT.z.sq
  (HT.z.sq
    (HT.jn [] HT.z
      (HT.z.sq
        (HT.z.sq
          (HT.z.sq
            (HT.z.sq
              (HT.z.sq
                ((HT.z.sq (HT.lp [((10 : Nat), Ty.one (Sh.int IntKind.i64))] HT.z).bl).sq
                  (HT.jn []
                    (HT.z.sq
                      (HT.lp [((13 : Nat), Ty.one (Sh.int IntKind.i64))]
                          (HT.jn [] HT.z
                            ((HT.jn [((80 : Nat), Ty.one Sh.bool)]
                                    (HT.dr
                                      (DT.take (0 : Nat)
                                        (DT.take (1 : Nat)
                                          (DT.take (2 : Nat)
                                            (DT.take (3 : Nat)
                                              (DT.take (4 : Nat)
                                                (DT.take (5 : Nat)
                                                  (DT.take (6 : Nat)
                                                    (DT.take (7 : Nat)
                                                      (DT.take (8 : Nat)
                                                        (DT.take (9 : Nat)
                                                          (DT.take (10 : Nat)
                                                            (DT.take (11 : Nat)
                                                              (DT.take (12 : Nat)
                                                                (DT.take (13 : Nat)
                                                                  (DT.take (14 : Nat)
                                                                    (DT.take (15 : Nat)
                                                                      (DT.take (16 : Nat)
                                                                        (DT.take (17 : Nat)
                                                                          (DT.alt (18 : Nat)
                                                                            (DT.alt (19 : Nat)
                                                                              (DT.take (20 : Nat)
                                                                                (DT.take (21 : Nat) DT.fin))
                                                                              DT.fin)
                                                                            DT.fin))))))))))))))))))))
                                    ((HT.dr
                                          (DT.take (0 : Nat)
                                            (DT.take (1 : Nat)
                                              (DT.take (2 : Nat)
                                                (DT.take (3 : Nat)
                                                  (DT.take (4 : Nat)
                                                    (DT.take (5 : Nat)
                                                      (DT.take (6 : Nat)
                                                        (DT.take (7 : Nat)
                                                          (DT.take (8 : Nat)
                                                            (DT.take (9 : Nat)
                                                              (DT.take (10 : Nat)
                                                                (DT.take (11 : Nat)
                                                                  (DT.take (12 : Nat)
                                                                    (DT.take (13 : Nat)
                                                                      (DT.take (14 : Nat)
                                                                        (DT.take (15 : Nat)
                                                                          (DT.take (16 : Nat)
                                                                            (DT.alt (17 : Nat)
                                                                              (DT.alt (18 : Nat)
                                                                                (DT.take (19 : Nat)
                                                                                  (DT.alt (20 : Nat) DT.fin DT.fin))
                                                                                DT.fin)
                                                                              DT.fin))))))))))))))))))).cd
                                      HT.z)).bl.sq
                              HT.z))).bl)
                    (HT.z.sq
                      (HT.z.sq
                        ((HT.z.sq
                              (HT.lp [((14 : Nat), Ty.one (Sh.int IntKind.i64))]
                                  (HT.z.sq
                                    ((HT.z.sq
                                            (HT.jn [((17 : Nat), Ty.one Sh.bool)] HT.z
                                              ((HT.z.sq
                                                    (HT.lp
                                                        [((17 : Nat), Ty.one Sh.bool),
                                                          ((18 : Nat), Ty.one (Sh.int IntKind.i64))]
                                                        HT.z).bl).sq
                                                HT.z))).bl.sq
                                      HT.z))).bl).sq
                          HT.z))))))))))))) Try.func7 (by kernel_rfl) (by kernel_rfl) (Eq.mp (by kernel_rfl) h)

/-- dunnage/dunnagelaw04.DiskSubset -/
theorem dunnagelaw04_DiskSubset.vc (s0 : SV) (s1 : SV) (s2 : SV) (w : World) (R : Bool → World → Prop)
  (h : CallT [Ty.one Sh.ptr] Try.prog (53 : Nat) [Value.slice s0.a s0.len s0.cap] w fun (x : Option Addr) (w' : World) =>
      ∃ (R_1 : PUnit → World → Prop),
        (CallT [Ty.one Sh.bool] Try.prog (38 : Nat) [] w' fun (x_1 : Bool) (w' : World) =>
            cnd (!x_1) (R false w') (cnd x.isNone (R false w') (R_1 () w'))) ∧
          ∀ (x_1 : PUnit) (j : Nat → Value) (w' : World),
            R_1 x_1 w' →
              CallT [Ty.one (Sh.int IntKind.i64)] Try.prog (45 : Nat) [Value.pointer x] w' fun (x_2 : Int) (w' : World) =>
                CallT [Ty.one (Sh.int IntKind.i64)] Try.prog (39 : Nat) [Value.pointer x, Value.int IntKind.i64 (0 : Int)]
                  w' fun (x_3 : Int) (w' : World) =>
                  CallT [Ty.one (Sh.int IntKind.i64)] Try.prog (40 : Nat) [Value.pointer x] w'
                    fun (x_4 : Int) (w' : World) =>
                    cnd (x_4 != (0 : Int)) (R false w')
                      (∃ (I : Nat → Int → World → Prop),
                        (∃ (n : Nat),
                            I n (0 : Int)
                              (w'.alloc
                                (Obj.cells
                                  #[Value.slice none (0 : Nat) (0 : Nat), Value.slice none (0 : Nat) (0 : Nat),
                                    Value.slice none (0 : Nat) (0 : Nat), Value.slice none (0 : Nat) (0 : Nat),
                                    Value.slice none (0 : Nat) (0 : Nat), Value.slice none (0 : Nat) (0 : Nat),
                                    Value.slice none (0 : Nat) (0 : Nat), Value.slice none (0 : Nat) (0 : Nat)]
                                  (60 : Nat)))) ∧
                          ∀ (n : Nat) (x_5 : Int) (j : Nat → Value) (w'_1 : World),
                            I n x_5 w'_1 →
                              cnd (decide (x_5 < (8 : Int)))
                                (CallT [Ty.one Sh.slice, Ty.one (Sh.int IntKind.i64)] Try.prog (44 : Nat)
                                  [Value.pointer x, Value.int IntKind.i64 x_5] w'_1 fun (x : SV × Int) (w'_2 : World) =>
                                  (0 : Int) ≤ x_5 ∧
                                    x_5 < (↑(8 : Nat) : Int) ∧
                                      (w'_2.cell?
                                              ((Addr.mk w'.heap.size (0 : Nat) none).add (x_5.toNat * (1 : Nat)))).isSome =
                                          true ∧
                                        w'_2.frozen? ((Addr.mk w'.heap.size (0 : Nat) none).add (x_5.toNat * (1 : Nat))) =
                                            false ∧
                                          ∃ (m : Nat),
                                            m < n ∧
                                              I m (IntKind.i64.wrap (x_5 + (1 : Int)))
                                                (w'_2.setCell
                                                  ((Addr.mk w'.heap.size (0 : Nat) none).add (x_5.toNat * (1 : Nat)))
                                                  (Value.slice x.fst.a x.fst.len x.fst.cap)))
                                (∃ (R_2 : Int → World → Prop),
                                  (∃ (I : Nat → Int × Int → World → Prop),
                                      (∃ (n : Nat), I n ((0 : Int), (0 : Int)) w'_1) ∧
                                        ∀ (n : Nat) (x_6 : Int × Int) (j : Nat → Value) (w'_2 : World),
                                          I n x_6 w'_2 →
                                            ∃ (R_3 : PUnit → World → Prop),
                                              (let e1 := x_6.snd;
                                                cnd (decide (e1 < (↑s1.len : Int)))
                                                  (let e1 := x_6.snd;
                                                  cnd (decide (e1 < (40 : Int))) (R_3 () w'_2) (R_2 x_6.fst w'_2))
                                                  (R_2 x_6.fst w'_2)) ∧
                                                ∀ (x_7 : PUnit) (j : Nat → Value) (w'_3 : World),
                                                  R_3 x_7 w'_3 →
                                                    let e1 := x_6.snd;
                                                    (0 : Int) ≤ e1 ∧
                                                      e1 < (↑s1.len : Int) ∧
                                                        onP s1.a fun (A : Addr) =>
                                                          ∃ (x_8 : Int),
                                                            w'_3.cell? ((A.add (e1.toNat * (6 : Nat))).add (1 : Nat)) =
                                                                some (Value.int IntKind.i64 x_8) ∧
                                                              let e1 := x_6.snd;
                                                              (0 : Int) ≤ e1 ∧
                                                                e1 < (↑s1.len : Int) ∧
                                                                  onP s1.a fun (A : Addr) =>
                                                                    ∃ (x_9 : Int),
                                                                      w'_3.cell?
                                                                            ((A.add (e1.toNat * (6 : Nat))).add (3 : Nat)) =
                                                                          some (Value.int IntKind.u8 x_9) ∧
                                                                        CallT [Ty.one Sh.slice] Try.prog (42 : Nat)
                                                                          [Value.int IntKind.u8 x_9, Value.bool false] w'_3
                                                                          fun (x_10 : SV) (w'_4 : World) =>
                                                                          CallT [Ty.one (Sh.int IntKind.i64)] Try.prog
                                                                            (41 : Nat)
                                                                            [Value.pointer x,
                                                                              Value.int IntKind.i64
                                                                                (IntKind.i64.wrap
                                                                                  ((IntKind.u64.wrap x_8).tmod (8 : Int))),
                                                                              Value.slice x_10.a x_10.len x_10.cap]
                                                                            w'_4 fun (x : Int) (w'_5 : World) =>
                                                                            cnd (x != (0 : Int)) (R false w'_5)
                                                                              (∃ (R : Bool → World → Prop),
                                                                                (let e1 := x_6.fst;
                                                                                  cnd (decide (e1 < (↑s2.len : Int)))
                                                                                    (let e1 := x_6.fst;
                                                                                    (0 : Int) ≤ e1 ∧
                                                                                      e1 < (↑s2.len : Int) ∧
                                                                                        onP s2.a fun (A : Addr) =>
                                                                                          ∃ (x : Bool),
                                                                                            w'_5.cell?
                                                                                                  (A.add
                                                                                                    (e1.toNat *
                                                                                                      (1 : Nat))) =
                                                                                                some (Value.bool x) ∧
                                                                                              R x w'_5)
                                                                                    (R false w'_5)) ∧
                                                                                  ∀ (x : Bool) (j : Nat → Value)
                                                                                    (w'_6 : World),
                                                                                    R x w'_6 →
                                                                                      cnd x
                                                                                        ((0 : Int) ≤
                                                                                            IntKind.i64.wrap
                                                                                              ((IntKind.u64.wrap x_8).tmod
                                                                                                (8 : Int)) ∧
                                                                                          IntKind.i64.wrap
                                                                                                ((IntKind.u64.wrap x_8).tmod
                                                                                                  (8 : Int)) <
                                                                                              (↑(8 : Nat) : Int) ∧
                                                                                            (w'_6.cell?
                                                                                                    ((Addr.mk w'.heap.size
                                                                                                          (0 : Nat)
                                                                                                          none).add
                                                                                                      ((IntKind.i64.wrap
                                                                                                            ((IntKind.u64.wrap
                                                                                                                  x_8).tmod
                                                                                                              (8 :
                                                                                                                Int))).toNat *
                                                                                                        (1 :
                                                                                                          Nat)))).isSome =
                                                                                                true ∧
                                                                                              w'_6.frozen?
                                                                                                    ((Addr.mk w'.heap.size
                                                                                                          (0 : Nat)
                                                                                                          none).add
                                                                                                      ((IntKind.i64.wrap
                                                                                                            ((IntKind.u64.wrap
                                                                                                                  x_8).tmod
                                                                                                              (8 :
                                                                                                                Int))).toNat *
                                                                                                        (1 : Nat))) =
                                                                                                  false ∧
                                                                                                ∃ (m : Nat),
                                                                                                  m < n ∧
                                                                                                    I m
                                                                                                      (IntKind.i64.wrap
                                                                                                          (x_6.fst +
                                                                                                            (1 : Int)),
                                                                                                        IntKind.i64.wrap
                                                                                                          (x_6.snd +
                                                                                                            (1 : Int)))
                                                                                                      (w'_6.setCell
                                                                                                        ((Addr.mk
                                                                                                              w'.heap.size
                                                                                                              (0 : Nat)
                                                                                                              none).add
                                                                                                          ((IntKind.i64.wrap
                                                                                                                ((IntKind.u64.wrap
                                                                                                                      x_8).tmod
                                                                                                                  (8 :
                                                                                                                    Int))).toNat *
                                                                                                            (1 : Nat)))
                                                                                                        (Value.slice x_10.a
                                                                                                          x_10.len
                                                                                                          x_10.cap)))
                                                                                        (∃ (m : Nat),
                                                                                          m < n ∧
                                                                                            I m
                                                                                              (IntKind.i64.wrap
                                                                                                  (x_6.fst + (1 : Int)),
                                                                                                IntKind.i64.wrap
                                                                                                  (x_6.snd + (1 : Int)))
                                                                                              w'_6))) ∧
                                    ∀ (x_6 : Int) (j : Nat → Value) (w'_2 : World),
                                      R_2 x_6 w'_2 →
                                        ∃ (R_3 : PUnit → World → Prop),
                                          (CallT [Ty.one (Sh.int IntKind.i64)] Try.prog (55 : Nat) [Value.pointer x] w'_2
                                              fun (x_7 : Int) (w' : World) =>
                                              cnd (x_7 != x_6) (R false w')
                                                (CallT [Ty.one (Sh.int IntKind.i64)] Try.prog (54 : Nat)
                                                  [Value.pointer x, Value.slice s2.a s2.len s2.cap] w'
                                                  fun (x_8 : Int) (w' : World) =>
                                                  cnd (x_8 != (0 : Int)) (R false w')
                                                    (CallT [Ty.one Sh.bool] Try.prog (43 : Nat) [Value.pointer x] w'
                                                      fun (x_9 : Bool) (w' : World) =>
                                                      cnd (!x_9) (R false w')
                                                        (CallT [Ty.one (Sh.int IntKind.i64)] Try.prog (55 : Nat)
                                                          [Value.pointer x] w' fun (x_10 : Int) (w' : World) =>
                                                          cnd (x_10 != (0 : Int)) (R false w')
                                                            (CallT [Ty.one (Sh.int IntKind.i64)] Try.prog (45 : Nat)
                                                              [Value.pointer x] w' fun (x : Int) (w' : World) =>
                                                              cnd (x != (0 : Int)) (R false w') (R_3 () w')))))) ∧
                                            ∀ (x_7 : PUnit) (j : Nat → Value) (w'_3 : World),
                                              R_3 x_7 w'_3 →
                                                ∃ (I : Nat → Int → World → Prop),
                                                  (∃ (n : Nat), I n (0 : Int) w'_3) ∧
                                                    ∀ (n : Nat) (x_8 : Int) (j : Nat → Value) (w'_4 : World),
                                                      I n x_8 w'_4 →
                                                        cnd (decide (x_8 < (8 : Int)))
                                                          (CallT [Ty.one Sh.slice, Ty.one (Sh.int IntKind.i64)] Try.prog
                                                            (44 : Nat) [Value.pointer x, Value.int IntKind.i64 x_8] w'_4
                                                            fun (x : SV × Int) (w'_5 : World) =>
                                                            cnd (x.snd != (0 : Int)) (R false w'_5)
                                                              ((0 : Int) ≤ x_8 ∧
                                                                x_8 < (↑(8 : Nat) : Int) ∧
                                                                  ∃ (x_9 : SV),
                                                                    w'_5.cell?
                                                                          ((Addr.mk w'.heap.size (0 : Nat) none).add
                                                                            (x_8.toNat * (1 : Nat))) =
                                                                        some (Value.slice x_9.a x_9.len x_9.cap) ∧
                                                                      CallT [Ty.one Sh.bool] Try.prog (33 : Nat)
                                                                        [Value.slice x.fst.a x.fst.len x.fst.cap,
                                                                          Value.slice x_9.a x_9.len x_9.cap]
                                                                        w'_5 fun (x : Bool) (w' : World) =>
                                                                        cnd (!x) (R false w')
                                                                          (∃ (m : Nat),
                                                                            m < n ∧
                                                                              I m (IntKind.i64.wrap (x_8 + (1 : Int))) w')))
                                                          (R true w'_4))))
  : CallT [Ty.one Sh.bool] Try.prog 8 [Value.slice s0.a s0.len s0.cap, Value.slice s1.a s1.len s1.cap, Value.slice s2.a s2.len s2.cap] w R :=
  fnV_sound (h := HT.z.sq
  (HT.z.sq
    (HT.jn [] HT.z
      (HT.z.sq
        (HT.z.sq
          (HT.z.sq
            (HT.z.sq
              ((HT.z.sq (HT.lp [((9 : Nat), Ty.one (Sh.int IntKind.i64))] HT.z).bl).sq
                (HT.z.sq
                  (HT.jn [((10 : Nat), Ty.one (Sh.int IntKind.i64))]
                    (HT.z.sq
                      (HT.lp [((10 : Nat), Ty.one (Sh.int IntKind.i64)), ((11 : Nat), Ty.one (Sh.int IntKind.i64))]
                          (HT.jn [] HT.z
                            ((HT.z.sq
                                    (HT.z.sq
                                      (HT.z.sq ((HT.jn [((82 : Nat), Ty.one Sh.bool)] HT.z HT.z).sq HT.z)))).bl.sq
                              HT.z))).bl)
                    (HT.jn [] HT.z
                      ((HT.z.sq (HT.lp [((14 : Nat), Ty.one (Sh.int IntKind.i64))] HT.z).bl).sq HT.z)))))))))))) Try.func8 (by kernel_rfl) (by kernel_rfl) (Eq.mp (by kernel_rfl) h)

/-- dunnage/dunnagelaw04.DiskTurns -/
theorem dunnagelaw04_DiskTurns.vc (s0 : SV) (n1 : Int) (n2 : Int) (w : World) (R : Bool → World → Prop)
  (h : CallT [Ty.one Sh.ptr] Try.prog (53 : Nat) [Value.slice s0.a s0.len s0.cap] w fun (x : Option Addr) (w' : World) =>
      ∃ (R_1 : PUnit → World → Prop),
        (CallT [Ty.one Sh.bool] Try.prog (38 : Nat) [] w' fun (x_1 : Bool) (w' : World) =>
            cnd (!x_1) (R false w') (cnd x.isNone (R false w') (R_1 () w'))) ∧
          ∀ (x_1 : PUnit) (j : Nat → Value) (w' : World),
            R_1 x_1 w' →
              CallT [Ty.one (Sh.int IntKind.i64)] Try.prog (45 : Nat) [Value.pointer x] w' fun (x_2 : Int) (w' : World) =>
                CallT [Ty.one (Sh.int IntKind.i64)] Try.prog (39 : Nat) [Value.pointer x, Value.int IntKind.i64 (0 : Int)]
                  w' fun (x_3 : Int) (w' : World) =>
                  CallT [Ty.one (Sh.int IntKind.i64)] Try.prog (40 : Nat) [Value.pointer x] w'
                    fun (x_4 : Int) (w' : World) =>
                    CallT [Ty.one Sh.ptr] Try.prog (56 : Nat) [Value.pointer x] w' fun (x_5 : Option Addr) (w' : World) =>
                      cnd x_5.isNone (R false w')
                        (CallT [Ty.one (Sh.int IntKind.i64)] Try.prog (57 : Nat)
                          [Value.pointer x, Value.int IntKind.i64 n1, Value.int IntKind.i64 n2] w'
                          fun (x_6 : Int) (w' : World) =>
                          ∃ (R_2 : Bool → World → Prop),
                            cnd (decide (n1 ≥ (0 : Int)))
                                (cnd (decide (n1 < (8 : Int)))
                                  (cnd (decide (n2 ≥ (0 : Int))) (R_2 (decide (n2 < (4096 : Int))) w') (R_2 false w'))
                                  (R_2 false w'))
                                (R_2 false w') ∧
                              ∀ (x_7 : Bool) (j : Nat → Value) (w' : World),
                                R_2 x_7 w' →
                                  ∃ (R_3 : PUnit → World → Prop),
                                    cnd (!(x_6 == (0 : Int)) == x_7) (R false w')
                                        (cnd (!x_7) (cnd (x_6 != (1 : Int)) (R false w') (R_3 () w')) (R_3 () w')) ∧
                                      ∀ (x_8 : PUnit) (j : Nat → Value) (w' : World),
                                        R_3 x_8 w' →
                                          ∃ (I : Nat → Int → World → Prop),
                                            (∃ (n : Nat), I n (0 : Int) w') ∧
                                              ∀ (n : Nat) (x_9 : Int) (j : Nat → Value) (w' : World),
                                                I n x_9 w' →
                                                  cnd (decide (x_9 < (8 : Int)))
                                                    (CallT [Ty.one Sh.slice, Ty.one (Sh.int IntKind.i64)] Try.prog
                                                      (44 : Nat) [Value.pointer x_5, Value.int IntKind.i64 x_9] w'
                                                      fun (x_10 : SV × Int) (w' : World) =>
                                                      CallT [Ty.one Sh.slice, Ty.one (Sh.int IntKind.i64)] Try.prog
                                                        (44 : Nat) [Value.pointer x, Value.int IntKind.i64 x_9] w'
                                                        fun (x : SV × Int) (w' : World) =>
                                                        cnd ((↑x_10.fst.len : Int) != (↑x.fst.len : Int)) (R false w')
                                                          (∃ (I_1 : Nat → Int × Int → World → Prop),
                                                            (∃ (n : Nat), I_1 n ((0 : Int), (0 : Int)) w') ∧
                                                              ∀ (n_1 : Nat) (x_11 : Int × Int) (j : Nat → Value)
                                                                (w' : World),
                                                                I_1 n_1 x_11 w' →
                                                                  let e1 := x_11.snd;
                                                                  cnd (decide (e1 < (↑x_10.fst.len : Int)))
                                                                    (let e1 := x_11.snd;
                                                                    (0 : Int) ≤ e1 ∧
                                                                      e1 < (↑x_10.fst.len : Int) ∧
                                                                        onP x_10.fst.a fun (A : Addr) =>
                                                                          ∃ (x_12 : Int),
                                                                            w'.drew.cell? (A.add (e1.toNat * (1 : Nat))) =
                                                                                some (Value.int IntKind.u8 x_12) ∧
                                                                              let e1 := x_11.snd;
                                                                              (0 : Int) ≤ e1 ∧
                                                                                e1 < (↑x.fst.len : Int) ∧
                                                                                  onP x.fst.a fun (A : Addr) =>
                                                                                    ∃ (x : Int),
                                                                                      w'.drew.cell?
                                                                                            (A.add (e1.toNat * (1 : Nat))) =
                                                                                          some (Value.int IntKind.u8 x) ∧
                                                                                        ∃ (I :
                                                                                          Nat → Int × Int → World → Prop),
                                                                                          (∃ (n : Nat),
                                                                                              I n
                                                                                                (x_11.fst,
                                                                                                  bxor IntKind.u8 x_12 x)
                                                                                                w'.drew) ∧
                                                                                            ∀ (n : Nat) (x : Int × Int)
                                                                                              (j : Nat → Value)
                                                                                              (w' : World),
                                                                                              I n x w' →
                                                                                                cnd (x.snd != (0 : Int))
                                                                                                  (∃ (m : Nat),
                                                                                                    m < n ∧
                                                                                                      I m
                                                                                                        (IntKind.i64.wrap
                                                                                                            (x.fst +
                                                                                                              (1 : Int)),
                                                                                                          band IntKind.u8
                                                                                                            x.snd
                                                                                                            (IntKind.u8.wrap
                                                                                                              (x.snd -
                                                                                                                (1 : Int))))
                                                                                                        w')
                                                                                                  (∃ (m : Nat),
                                                                                                    m < n_1 ∧
                                                                                                      I_1 m
                                                                                                        (x.fst,
                                                                                                          IntKind.i64.wrap
                                                                                                            (x_11.snd +
                                                                                                              (1 : Int)))
                                                                                                        w'))
                                                                    (cnd x_7
                                                                      (cnd (x_9 == n1)
                                                                        (cnd (x_11.fst != (1 : Int)) (R false w'.drew)
                                                                          ((0 : Int) ≤
                                                                              IntKind.i64.wrap (n2.tdiv (8 : Int)) ∧
                                                                            IntKind.i64.wrap (n2.tdiv (8 : Int)) <
                                                                                (↑x_10.fst.len : Int) ∧
                                                                              onP x_10.fst.a fun (A : Addr) =>
                                                                                ∃ (x_12 : Int),
                                                                                  w'.drew.cell?
                                                                                        (A.add
                                                                                          ((IntKind.i64.wrap
                                                                                                (n2.tdiv (8 : Int))).toNat *
                                                                                            (1 : Nat))) =
                                                                                      some (Value.int IntKind.u8 x_12) ∧
                                                                                    (0 : Int) ≤
                                                                                        IntKind.i64.wrap
                                                                                          (n2.tdiv (8 : Int)) ∧
                                                                                      IntKind.i64.wrap (n2.tdiv (8 : Int)) <
                                                                                          (↑x.fst.len : Int) ∧
                                                                                        onP x.fst.a fun (A : Addr) =>
                                                                                          ∃ (x : Int),
                                                                                            w'.drew.cell?
                                                                                                  (A.add
                                                                                                    ((IntKind.i64.wrap
                                                                                                          (n2.tdiv
                                                                                                            (8 :
                                                                                                              Int))).toNat *
                                                                                                      (1 : Nat))) =
                                                                                                some
                                                                                                  (Value.int IntKind.u8 x) ∧
                                                                                              (0 : Int) ≤
                                                                                                  IntKind.u64.wrap
                                                                                                    (n2.tmod (8 : Int)) ∧
                                                                                                cnd
                                                                                                  (bxor IntKind.u8 x_12 x !=
                                                                                                    shl IntKind.u8 (1 : Int)
                                                                                                      (IntKind.u64.wrap
                                                                                                        (n2.tmod
                                                                                                          (8 : Int))))
                                                                                                  (R false w'.drew)
                                                                                                  (cnd (!x_7)
                                                                                                    (cnd
                                                                                                      (x_11.fst !=
                                                                                                        (0 : Int))
                                                                                                      (R false w'.drew)
                                                                                                      (∃ (m : Nat),
                                                                                                        m < n ∧
                                                                                                          I m
                                                                                                            (IntKind.i64.wrap
                                                                                                              (x_9 +
                                                                                                                (1 : Int)))
                                                                                                            w'.drew))
                                                                                                    (cnd (x_9 != n1)
                                                                                                      (cnd
                                                                                                        (x_11.fst !=
                                                                                                          (0 : Int))
                                                                                                        (R false w'.drew)
                                                                                                        (∃ (m : Nat),
                                                                                                          m < n ∧
                                                                                                            I m
                                                                                                              (IntKind.i64.wrap
                                                                                                                (x_9 +
                                                                                                                  (1 :
                                                                                                                    Int)))
                                                                                                              w'.drew))
                                                                                                      (∃ (m : Nat),
                                                                                                        m < n ∧
                                                                                                          I m
                                                                                                            (IntKind.i64.wrap
                                                                                                              (x_9 +
                                                                                                                (1 : Int)))
                                                                                                            w'.drew)))))
                                                                        (cnd (!x_7)
                                                                          (cnd (x_11.fst != (0 : Int)) (R false w'.drew)
                                                                            (∃ (m : Nat),
                                                                              m < n ∧
                                                                                I m (IntKind.i64.wrap (x_9 + (1 : Int)))
                                                                                  w'.drew))
                                                                          (cnd (x_9 != n1)
                                                                            (cnd (x_11.fst != (0 : Int)) (R false w'.drew)
                                                                              (∃ (m : Nat),
                                                                                m < n ∧
                                                                                  I m (IntKind.i64.wrap (x_9 + (1 : Int)))
                                                                                    w'.drew))
                                                                            (∃ (m : Nat),
                                                                              m < n ∧
                                                                                I m (IntKind.i64.wrap (x_9 + (1 : Int)))
                                                                                  w'.drew))))
                                                                      (cnd (!x_7)
                                                                        (cnd (x_11.fst != (0 : Int)) (R false w'.drew)
                                                                          (∃ (m : Nat),
                                                                            m < n ∧
                                                                              I m (IntKind.i64.wrap (x_9 + (1 : Int)))
                                                                                w'.drew))
                                                                        (cnd (x_9 != n1)
                                                                          (cnd (x_11.fst != (0 : Int)) (R false w'.drew)
                                                                            (∃ (m : Nat),
                                                                              m < n ∧
                                                                                I m (IntKind.i64.wrap (x_9 + (1 : Int)))
                                                                                  w'.drew))
                                                                          (∃ (m : Nat),
                                                                            m < n ∧
                                                                              I m (IntKind.i64.wrap (x_9 + (1 : Int)))
                                                                                w'.drew))))))
                                                    (∃ (R_4 : PUnit → World → Prop),
                                                      cnd x_7
                                                          (CallT [Ty.one (Sh.int IntKind.i64)] Try.prog (57 : Nat)
                                                            [Value.pointer x, Value.int IntKind.i64 n1,
                                                              Value.int IntKind.i64 n2]
                                                            w' fun (x : Int) (w' : World) =>
                                                            cnd (x != (0 : Int)) (R false w') (R_4 () w'))
                                                          (R_4 () w') ∧
                                                        ∀ (x_10 : PUnit) (j : Nat → Value) (w' : World),
                                                          R_4 x_10 w' →
                                                            ∃ (I : Nat → Int → World → Prop),
                                                              (∃ (n : Nat), I n (0 : Int) w') ∧
                                                                ∀ (n : Nat) (x_11 : Int) (j : Nat → Value) (w' : World),
                                                                  I n x_11 w' →
                                                                    cnd (decide (x_11 < (8 : Int)))
                                                                      (CallT [Ty.one Sh.slice, Ty.one (Sh.int IntKind.i64)]
                                                                        Try.prog (44 : Nat)
                                                                        [Value.pointer x_5, Value.int IntKind.i64 x_11] w'
                                                                        fun (x_12 : SV × Int) (w' : World) =>
                                                                        CallT [Ty.one Sh.slice, Ty.one (Sh.int IntKind.i64)]
                                                                          Try.prog (44 : Nat)
                                                                          [Value.pointer x, Value.int IntKind.i64 x_11] w'
                                                                          fun (x : SV × Int) (w' : World) =>
                                                                          CallT [Ty.one Sh.bool] Try.prog (33 : Nat)
                                                                            [Value.slice x_12.fst.a x_12.fst.len
                                                                                x_12.fst.cap,
                                                                              Value.slice x.fst.a x.fst.len x.fst.cap]
                                                                            w' fun (x : Bool) (w' : World) =>
                                                                            cnd (!x) (R false w')
                                                                              (∃ (m : Nat),
                                                                                m < n ∧
                                                                                  I m (IntKind.i64.wrap (x_11 + (1 : Int)))
                                                                                    w'))
                                                                      (R true w'))))
  : CallT [Ty.one Sh.bool] Try.prog 9 [Value.slice s0.a s0.len s0.cap, Value.int IntKind.i64 n1, Value.int IntKind.i64 n2] w R :=
  fnV_sound (h := HT.z.sq
  (HT.z.sq
    (HT.jn [] HT.z
      (HT.z.sq
        (HT.z.sq
          (HT.z.sq
            (HT.z.sq
              (HT.z.sq
                (HT.z.sq
                  (HT.jn [((10 : Nat), Ty.one Sh.bool)] HT.z
                    (HT.jn [] HT.z
                      ((HT.z.sq
                            (HT.lp [((11 : Nat), Ty.one (Sh.int IntKind.i64))]
                                (HT.z.sq
                                  ((HT.z.sq
                                          (HT.z.sq
                                            (HT.z.sq
                                              (HT.z.sq
                                                ((HT.z.sq
                                                      (HT.lp
                                                          [((16 : Nat), Ty.one (Sh.int IntKind.i64)),
                                                            ((17 : Nat), Ty.one (Sh.int IntKind.i64))]
                                                          (HT.z.sq
                                                            (((HT.rg (10 : Nat)).sq
                                                                    (HT.lp
                                                                        [((16 : Nat), Ty.one (Sh.int IntKind.i64)),
                                                                          ((18 : Nat), Ty.one (Sh.int IntKind.u8))]
                                                                        HT.z).bl).bl.sq
                                                              HT.z))).bl).sq
                                                  ((HT.rg (41 : Nat)).sq HT.z)))))).bl.sq
                                    HT.z))).bl).sq
                        (HT.jn [] HT.z
                          ((HT.z.sq (HT.lp [((19 : Nat), Ty.one (Sh.int IntKind.i64))] HT.z).bl).sq HT.z)))))))))))))) Try.func9 (by kernel_rfl) (by kernel_rfl) (Eq.mp (by kernel_rfl) h)

end Go.Proofs
