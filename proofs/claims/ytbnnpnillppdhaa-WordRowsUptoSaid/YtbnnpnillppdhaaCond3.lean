/- The conditions of the seat's functions, written by a program (VcTool, genvc.py) off 'vc' reduced; each is tied to 'vc' by the kernel. Conditions: none. -/
import Derived.Test.YtbnnpnillppdhaaVcSound5
import Derived.Test.YtbnnpnillppdhaaProg
set_option linter.unusedVariables false
set_option maxRecDepth 100000
namespace Go.Proofs
open Go Go.Vc
/-- dunnage/dunnageref02.Turn -/
theorem dunnageref02_Turn.vc (s0 : SV) (s1 : SV) (w : World) (R : SV → World → Prop)
  (h : appV Try.prog [(23 : Nat), (23 : Nat)] (23 : Nat) [Value.slice none (0 : Nat) (0 : Nat), Value.slice s0.a s0.len s0.cap]
      w fun (s : SV) (w' : World) =>
      ∃ (I : Nat → Int → World → Prop),
        (∃ (n : Nat), I n (0 : Int) w') ∧
          ∀ (n : Nat) (x : Int) (j : Nat → Value) (w' : World),
            I n x w' →
              cnd (decide (x < (↑s1.len : Int)))
                (∃ (R : Bool → World → Prop),
                  ((0 : Int) ≤ x ∧
                      x < (↑s1.len : Int) ∧
                        onP s1.a fun (A : Addr) =>
                          ∃ (x_1 : Int),
                            w'.cell? (A.add (x.toNat * (1 : Nat))) = some (Value.int IntKind.i64 x_1) ∧
                              cnd (decide (x_1 ≥ (0 : Int)))
                                ((0 : Int) ≤ x ∧
                                  x < (↑s1.len : Int) ∧
                                    onP s1.a fun (A : Addr) =>
                                      ∃ (x_2 : Int),
                                        w'.cell? (A.add (x.toNat * (1 : Nat))) = some (Value.int IntKind.i64 x_2) ∧
                                          R (decide (IntKind.i64.wrap (x_2.tdiv (8 : Int)) < (↑s.len : Int))) w')
                                (R false w')) ∧
                    ∀ (x_1 : Bool) (j : Nat → Value) (w' : World),
                      R x_1 w' →
                        cnd x_1
                          ((0 : Int) ≤ x ∧
                            x < (↑s1.len : Int) ∧
                              onP s1.a fun (A : Addr) =>
                                ∃ (x_2 : Int),
                                  w'.drew.cell? (A.add (x.toNat * (1 : Nat))) = some (Value.int IntKind.i64 x_2) ∧
                                    (0 : Int) ≤ x ∧
                                      x < (↑s1.len : Int) ∧
                                        onP s1.a fun (A : Addr) =>
                                          ∃ (x_3 : Int),
                                            w'.drew.cell? (A.add (x.toNat * (1 : Nat))) = some (Value.int IntKind.i64 x_3) ∧
                                              (0 : Int) ≤ IntKind.i64.wrap (x_3.tdiv (8 : Int)) ∧
                                                IntKind.i64.wrap (x_3.tdiv (8 : Int)) < (↑s.len : Int) ∧
                                                  onP s.a fun (A : Addr) =>
                                                    ∃ (x_4 : Int),
                                                      w'.drew.cell?
                                                            (A.add
                                                              ((IntKind.i64.wrap (x_3.tdiv (8 : Int))).toNat * (1 : Nat))) =
                                                          some (Value.int IntKind.u8 x_4) ∧
                                                        (0 : Int) ≤ x ∧
                                                          x < (↑s1.len : Int) ∧
                                                            onP s1.a fun (A : Addr) =>
                                                              ∃ (x_5 : Int),
                                                                w'.drew.cell? (A.add (x.toNat * (1 : Nat))) =
                                                                    some (Value.int IntKind.i64 x_5) ∧
                                                                  (0 : Int) ≤ IntKind.u64.wrap (x_5.tmod (8 : Int)) ∧
                                                                    (0 : Int) ≤ IntKind.i64.wrap (x_2.tdiv (8 : Int)) ∧
                                                                      IntKind.i64.wrap (x_2.tdiv (8 : Int)) <
                                                                          (↑s.len : Int) ∧
                                                                        onP s.a fun (A : Addr) =>
                                                                          (w'.drew.cell?
                                                                                  (A.add
                                                                                    ((IntKind.i64.wrap
                                                                                          (x_2.tdiv (8 : Int))).toNat *
                                                                                      (1 : Nat)))).isSome =
                                                                              true ∧
                                                                            w'.drew.frozen?
                                                                                  (A.add
                                                                                    ((IntKind.i64.wrap
                                                                                          (x_2.tdiv (8 : Int))).toNat *
                                                                                      (1 : Nat))) =
                                                                                false ∧
                                                                              ∃ (m : Nat),
                                                                                m < n ∧
                                                                                  I m (IntKind.i64.wrap (x + (1 : Int)))
                                                                                    (w'.drew.setCell
                                                                                      (A.add
                                                                                        ((IntKind.i64.wrap
                                                                                              (x_2.tdiv (8 : Int))).toNat *
                                                                                          (1 : Nat)))
                                                                                      (Value.int IntKind.u8
                                                                                        (bxor IntKind.u8 x_4
                                                                                          (shl IntKind.u8 (1 : Int)
                                                                                            (IntKind.u64.wrap
                                                                                              (x_5.tmod (8 : Int))))))))
                          (∃ (m : Nat), m < n ∧ I m (IntKind.i64.wrap (x + (1 : Int))) w'))
                (R s w'))
  : CallT [Ty.one Sh.slice] Try.prog 34 [Value.slice s0.a s0.len s0.cap, Value.slice s1.a s1.len s1.cap] w R :=
  fnV_sound (h := HT.z.sq
  (HT.z.sq
    ((HT.z.sq
          (HT.lp [((6 : Nat), Ty.one (Sh.int IntKind.i64))]
              (HT.z.sq ((HT.jn [((29 : Nat), Ty.one Sh.bool)] HT.z ((HT.rg (23 : Nat)).cd HT.z)).bl.sq HT.z))).bl).sq
      HT.z))) Try.func34 (by kernel_rfl) (by kernel_rfl) (Eq.mp (by kernel_rfl) h)

/-- dunnage/layout.Plan -/
theorem layout_Plan.vc (n0 : Int) (w : World) (R : (Int × Int × Int × Int × Int × Int × Int × Int × Int) × Int → World → Prop)
  (h : let w1 :=
      w.alloc
        (Obj.cells
          #[Value.int IntKind.i64 (0 : Int), Value.int IntKind.i64 (0 : Int), Value.int IntKind.i64 (0 : Int),
            Value.int IntKind.i64 (0 : Int), Value.int IntKind.i64 (0 : Int), Value.int IntKind.i64 (0 : Int),
            Value.int IntKind.i64 (0 : Int), Value.int IntKind.i64 (0 : Int), Value.int IntKind.i64 (0 : Int)]
          (44 : Nat));
    ∃ (R_1 : PUnit → World → Prop),
      (∃ (R_2 : Bool → World → Prop),
          cnd (decide (n0 < (256 : Int))) (R_2 true w1) (R_2 (decide (n0 > (65536 : Int))) w1) ∧
            ∀ (x : Bool) (j : Nat → Value) (w' : World),
              R_2 x w' →
                cnd x
                  (canSt w' (Addr.mk w.heap.size (0 : Nat) none) (9 : Nat) ∧
                    let w1 :=
                      setCells w' (Addr.mk w.heap.size (0 : Nat) none) (0 : Nat)
                        [Value.int IntKind.i64 (0 : Int), Value.int IntKind.i64 (0 : Int), Value.int IntKind.i64 (0 : Int),
                          Value.int IntKind.i64 (0 : Int), Value.int IntKind.i64 (0 : Int), Value.int IntKind.i64 (0 : Int),
                          Value.int IntKind.i64 (0 : Int), Value.int IntKind.i64 (0 : Int),
                          Value.int IntKind.i64 (0 : Int)];
                    ∃ (x : Int × Int × Int × Int × Int × Int × Int × Int × Int),
                      cellsAt w1 (Addr.mk w.heap.size (0 : Nat) none)
                          [Value.int IntKind.i64 x.fst, Value.int IntKind.i64 x.snd.fst,
                            Value.int IntKind.i64 x.snd.snd.fst, Value.int IntKind.i64 x.snd.snd.snd.fst,
                            Value.int IntKind.i64 x.snd.snd.snd.snd.fst, Value.int IntKind.i64 x.snd.snd.snd.snd.snd.fst,
                            Value.int IntKind.i64 x.snd.snd.snd.snd.snd.snd.fst,
                            Value.int IntKind.i64 x.snd.snd.snd.snd.snd.snd.snd.fst,
                            Value.int IntKind.i64 x.snd.snd.snd.snd.snd.snd.snd.snd] ∧
                        R
                          ((x.fst, x.snd.fst, x.snd.snd.fst, x.snd.snd.snd.fst, x.snd.snd.snd.snd.fst,
                              x.snd.snd.snd.snd.snd.fst, x.snd.snd.snd.snd.snd.snd.fst, x.snd.snd.snd.snd.snd.snd.snd.fst,
                              x.snd.snd.snd.snd.snd.snd.snd.snd),
                            (1 : Int))
                          w1)
                  (R_1 () w')) ∧
        ∀ (x : PUnit) (j : Nat → Value) (w' : World),
          R_1 x w' →
            let e1 := IntKind.i64.wrap ((3 : Int) * IntKind.i64.wrap ((IntKind.i64.wrap (n0 - (13 : Int))).tdiv (8 : Int)));
            canSt w' (Addr.mk w.heap.size (0 : Nat) none) (9 : Nat) ∧
              let w1 :=
                setCells w' (Addr.mk w.heap.size (0 : Nat) none) (0 : Nat)
                  [Value.int IntKind.i64 n0, Value.int IntKind.i64 (3 : Int), Value.int IntKind.i64 (13 : Int),
                    Value.int IntKind.i64 (IntKind.i64.wrap ((IntKind.i64.wrap (n0 - (13 : Int))).tdiv (8 : Int))),
                    Value.int IntKind.i64
                      (IntKind.i64.wrap
                        ((13 : Int) + IntKind.i64.wrap ((IntKind.i64.wrap (n0 - (13 : Int))).tdiv (8 : Int)))),
                    Value.int IntKind.i64
                      (IntKind.i64.wrap
                        ((13 : Int) +
                          IntKind.i64.wrap
                            ((2 : Int) * IntKind.i64.wrap ((IntKind.i64.wrap (n0 - (13 : Int))).tdiv (8 : Int))))),
                    Value.int IntKind.i64 (IntKind.i64.wrap ((IntKind.i64.wrap (n0 - (13 : Int))).tdiv (8 : Int))),
                    Value.int IntKind.i64 (IntKind.i64.wrap ((13 : Int) + e1)),
                    Value.int IntKind.i64
                      (IntKind.i64.wrap ((IntKind.i64.wrap (n0 - IntKind.i64.wrap ((13 : Int) + e1))).tdiv (32 : Int)))];
              ∃ (x : Int × Int × Int × Int × Int × Int × Int × Int × Int),
                cellsAt w1 (Addr.mk w.heap.size (0 : Nat) none)
                    [Value.int IntKind.i64 x.fst, Value.int IntKind.i64 x.snd.fst, Value.int IntKind.i64 x.snd.snd.fst,
                      Value.int IntKind.i64 x.snd.snd.snd.fst, Value.int IntKind.i64 x.snd.snd.snd.snd.fst,
                      Value.int IntKind.i64 x.snd.snd.snd.snd.snd.fst, Value.int IntKind.i64 x.snd.snd.snd.snd.snd.snd.fst,
                      Value.int IntKind.i64 x.snd.snd.snd.snd.snd.snd.snd.fst,
                      Value.int IntKind.i64 x.snd.snd.snd.snd.snd.snd.snd.snd] ∧
                  R
                    ((x.fst, x.snd.fst, x.snd.snd.fst, x.snd.snd.snd.fst, x.snd.snd.snd.snd.fst, x.snd.snd.snd.snd.snd.fst,
                        x.snd.snd.snd.snd.snd.snd.fst, x.snd.snd.snd.snd.snd.snd.snd.fst,
                        x.snd.snd.snd.snd.snd.snd.snd.snd),
                      (0 : Int))
                    w1)
  : CallT [Ty.agg
    [Sh.int IntKind.i64, Sh.int IntKind.i64, Sh.int IntKind.i64, Sh.int IntKind.i64, Sh.int IntKind.i64,
      Sh.int IntKind.i64, Sh.int IntKind.i64, Sh.int IntKind.i64, Sh.int IntKind.i64],
  Ty.one (Sh.int IntKind.i64)] Try.prog 35 [Value.int IntKind.i64 n0] w R :=
  fnV_sound (h := HT.z.sq (HT.jn [] (HT.jn [((11 : Nat), Ty.one Sh.bool)] HT.z HT.z) HT.z)) Try.func35 (by kernel_rfl) (by kernel_rfl) (Eq.mp (by kernel_rfl) h)

/-- dunnage/dunnagelaw05.awake -/
theorem dunnagelaw05_awake.vc (w : World) (R : Bool → World → Prop)
  (h : CallT
      [Ty.agg
          [Sh.int IntKind.i64, Sh.int IntKind.i64, Sh.int IntKind.i64, Sh.int IntKind.i64, Sh.int IntKind.i64,
            Sh.int IntKind.i64, Sh.int IntKind.i64, Sh.int IntKind.i64, Sh.int IntKind.i64],
        Ty.one (Sh.int IntKind.i64)]
      Try.prog (35 : Nat) [Value.int IntKind.i64 (256 : Int)] w
      fun (x : (Int × Int × Int × Int × Int × Int × Int × Int × Int) × Int) (w' : World) =>
      let w1 :=
        w'.alloc
          (Obj.cells
            #[Value.int IntKind.i64 (0 : Int), Value.int IntKind.i64 (0 : Int), Value.int IntKind.i64 (0 : Int),
              Value.int IntKind.i64 (0 : Int), Value.int IntKind.i64 (0 : Int), Value.int IntKind.i64 (0 : Int),
              Value.int IntKind.i64 (0 : Int), Value.int IntKind.i64 (0 : Int), Value.int IntKind.i64 (0 : Int)]
            (44 : Nat));
      canSt w1 (Addr.mk w'.heap.size (0 : Nat) none) (9 : Nat) ∧
        let w1 :=
          setCells w1 (Addr.mk w'.heap.size (0 : Nat) none) (0 : Nat)
            [Value.int IntKind.i64 x.fst.fst, Value.int IntKind.i64 x.fst.snd.fst, Value.int IntKind.i64 x.fst.snd.snd.fst,
              Value.int IntKind.i64 x.fst.snd.snd.snd.fst, Value.int IntKind.i64 x.fst.snd.snd.snd.snd.fst,
              Value.int IntKind.i64 x.fst.snd.snd.snd.snd.snd.fst, Value.int IntKind.i64 x.fst.snd.snd.snd.snd.snd.snd.fst,
              Value.int IntKind.i64 x.fst.snd.snd.snd.snd.snd.snd.snd.fst,
              Value.int IntKind.i64 x.fst.snd.snd.snd.snd.snd.snd.snd.snd];
        cnd (x.snd == (0 : Int))
          (∃ (x : Int),
            w1.cell? ((Addr.mk w'.heap.size (0 : Nat) none).add (7 : Nat)) = some (Value.int IntKind.i64 x) ∧
              cnd (x == (103 : Int))
                (∃ (x : Int × Int × Int × Int × Int × Int × Int × Int × Int),
                  cellsAt w1 (Addr.mk w'.heap.size (0 : Nat) none)
                      [Value.int IntKind.i64 x.fst, Value.int IntKind.i64 x.snd.fst, Value.int IntKind.i64 x.snd.snd.fst,
                        Value.int IntKind.i64 x.snd.snd.snd.fst, Value.int IntKind.i64 x.snd.snd.snd.snd.fst,
                        Value.int IntKind.i64 x.snd.snd.snd.snd.snd.fst,
                        Value.int IntKind.i64 x.snd.snd.snd.snd.snd.snd.fst,
                        Value.int IntKind.i64 x.snd.snd.snd.snd.snd.snd.snd.fst,
                        Value.int IntKind.i64 x.snd.snd.snd.snd.snd.snd.snd.snd] ∧
                    CallT [Ty.one (Sh.int IntKind.i64)] Try.prog (46 : Nat)
                      [Value.agg
                          #[Value.int IntKind.i64 x.fst, Value.int IntKind.i64 x.snd.fst,
                            Value.int IntKind.i64 x.snd.snd.fst, Value.int IntKind.i64 x.snd.snd.snd.fst,
                            Value.int IntKind.i64 x.snd.snd.snd.snd.fst, Value.int IntKind.i64 x.snd.snd.snd.snd.snd.fst,
                            Value.int IntKind.i64 x.snd.snd.snd.snd.snd.snd.fst,
                            Value.int IntKind.i64 x.snd.snd.snd.snd.snd.snd.snd.fst,
                            Value.int IntKind.i64 x.snd.snd.snd.snd.snd.snd.snd.snd]]
                      w1 fun (x : Int) (w' : World) => R (x == (124 : Int)) w')
                (R false w1))
          (R false w1))
  : CallT [Ty.one Sh.bool] Try.prog 36 [] w R :=
  fnV_sound (h := HT.z) Try.func36 (by kernel_rfl) (by kernel_rfl) (Eq.mp (by kernel_rfl) h)

/-- dunnage/layout.LogAt -/
theorem layout_LogAt.vc (x0 : Int × Int × Int × Int × Int × Int × Int × Int × Int) (n1 : Int) (w : World) (R : Int → World → Prop)
  (h : let w1 :=
      w.alloc
        (Obj.cells
          #[Value.int IntKind.i64 x0.fst, Value.int IntKind.i64 x0.snd.fst, Value.int IntKind.i64 x0.snd.snd.fst,
            Value.int IntKind.i64 x0.snd.snd.snd.fst, Value.int IntKind.i64 x0.snd.snd.snd.snd.fst,
            Value.int IntKind.i64 x0.snd.snd.snd.snd.snd.fst, Value.int IntKind.i64 x0.snd.snd.snd.snd.snd.snd.fst,
            Value.int IntKind.i64 x0.snd.snd.snd.snd.snd.snd.snd.fst,
            Value.int IntKind.i64 x0.snd.snd.snd.snd.snd.snd.snd.snd]
          (44 : Nat));
    ∃ (x : Int),
      w1.cell? ((Addr.mk w.heap.size (0 : Nat) none).add (3 : Nat)) = some (Value.int IntKind.i64 x) ∧
        cnd (decide (x ≤ (0 : Int))) (R (0 : Int) w1)
          (∃ (x : Int),
            w1.drew.cell? ((Addr.mk w.heap.size (0 : Nat) none).add (2 : Nat)) = some (Value.int IntKind.i64 x) ∧
              ∃ (x_1 : Int),
                w1.drew.cell? ((Addr.mk w.heap.size (0 : Nat) none).add (3 : Nat)) = some (Value.int IntKind.i64 x_1) ∧
                  IntKind.u64.wrap x_1 ≠ (0 : Int) ∧
                    R (IntKind.i64.wrap (x + IntKind.i64.wrap (n1.tmod (IntKind.u64.wrap x_1)))) w1.drew))
  : CallT [Ty.one (Sh.int IntKind.i64)] Try.prog 37 [Value.agg
    #[Value.int IntKind.i64 x0.fst, Value.int IntKind.i64 x0.snd.fst, Value.int IntKind.i64 x0.snd.snd.fst,
      Value.int IntKind.i64 x0.snd.snd.snd.fst, Value.int IntKind.i64 x0.snd.snd.snd.snd.fst,
      Value.int IntKind.i64 x0.snd.snd.snd.snd.snd.fst, Value.int IntKind.i64 x0.snd.snd.snd.snd.snd.snd.fst,
      Value.int IntKind.i64 x0.snd.snd.snd.snd.snd.snd.snd.fst,
      Value.int IntKind.i64 x0.snd.snd.snd.snd.snd.snd.snd.snd],
  Value.int IntKind.u64 n1] w R :=
  fnV_sound (h := HT.z.sq (HT.z.sq ((HT.rg (10 : Nat)).sq HT.z))) Try.func37 (by kernel_rfl) (by kernel_rfl) (Eq.mp (by kernel_rfl) h)

/-- dunnage/layout.Region -/
theorem layout_Region.vc (x0 : Int × Int × Int × Int × Int × Int × Int × Int × Int) (n1 : Int) (w : World) (R : Int → World → Prop)
  (h : let w1 :=
      w.alloc
        (Obj.cells
          #[Value.int IntKind.i64 x0.fst, Value.int IntKind.i64 x0.snd.fst, Value.int IntKind.i64 x0.snd.snd.fst,
            Value.int IntKind.i64 x0.snd.snd.snd.fst, Value.int IntKind.i64 x0.snd.snd.snd.snd.fst,
            Value.int IntKind.i64 x0.snd.snd.snd.snd.snd.fst, Value.int IntKind.i64 x0.snd.snd.snd.snd.snd.snd.fst,
            Value.int IntKind.i64 x0.snd.snd.snd.snd.snd.snd.snd.fst,
            Value.int IntKind.i64 x0.snd.snd.snd.snd.snd.snd.snd.snd]
          (44 : Nat));
    ∃ (x : Int × Int × Int × Int × Int × Int × Int × Int × Int),
      cellsAt w1 (Addr.mk w.heap.size (0 : Nat) none)
          [Value.int IntKind.i64 x.fst, Value.int IntKind.i64 x.snd.fst, Value.int IntKind.i64 x.snd.snd.fst,
            Value.int IntKind.i64 x.snd.snd.snd.fst, Value.int IntKind.i64 x.snd.snd.snd.snd.fst,
            Value.int IntKind.i64 x.snd.snd.snd.snd.snd.fst, Value.int IntKind.i64 x.snd.snd.snd.snd.snd.snd.fst,
            Value.int IntKind.i64 x.snd.snd.snd.snd.snd.snd.snd.fst,
            Value.int IntKind.i64 x.snd.snd.snd.snd.snd.snd.snd.snd] ∧
        CallT [Ty.one Sh.slice] Try.prog (69 : Nat)
          [Value.agg
              #[Value.int IntKind.i64 x.fst, Value.int IntKind.i64 x.snd.fst, Value.int IntKind.i64 x.snd.snd.fst,
                Value.int IntKind.i64 x.snd.snd.snd.fst, Value.int IntKind.i64 x.snd.snd.snd.snd.fst,
                Value.int IntKind.i64 x.snd.snd.snd.snd.snd.fst, Value.int IntKind.i64 x.snd.snd.snd.snd.snd.snd.fst,
                Value.int IntKind.i64 x.snd.snd.snd.snd.snd.snd.snd.fst,
                Value.int IntKind.i64 x.snd.snd.snd.snd.snd.snd.snd.snd]]
          w1 fun (x : SV) (w' : World) =>
          ∃ (I : Nat → Int → World → Prop),
            (∃ (n : Nat), I n (0 : Int) w') ∧
              ∀ (n : Nat) (x_1 : Int) (j : Nat → Value) (w' : World),
                I n x_1 w' →
                  ∃ (R_1 : PUnit → World → Prop),
                    cnd (decide (x_1 < (↑x.len : Int)))
                        (cnd (decide (n1 ≥ (0 : Int)))
                          (∃ (x : Int),
                            w'.cell? ((Addr.mk w.heap.size (0 : Nat) none).add (0 : Nat)) = some (Value.int IntKind.i64 x) ∧
                              cnd (decide (n1 < x)) (R_1 () w') (R (0 : Int) w'))
                          (R (0 : Int) w'))
                        (R (0 : Int) w') ∧
                      ∀ (x_2 : PUnit) (j : Nat → Value) (w' : World),
                        R_1 x_2 w' →
                          (0 : Int) ≤ x_1 ∧
                            x_1 < (↑x.len : Int) ∧
                              onP x.a fun (A : Addr) =>
                                ∃ (x : Int × Int × Int),
                                  cellsAt w' (A.add (x_1.toNat * (3 : Nat)))
                                      [Value.int IntKind.i64 x.fst, Value.int IntKind.i64 x.snd.fst,
                                        Value.int IntKind.i64 x.snd.snd] ∧
                                    let w1 :=
                                      w'.alloc
                                        (Obj.cells
                                          #[Value.int IntKind.i64 (0 : Int), Value.int IntKind.i64 (0 : Int),
                                            Value.int IntKind.i64 (0 : Int)]
                                          (82 : Nat));
                                    canSt w1 (Addr.mk w'.heap.size (0 : Nat) none) (3 : Nat) ∧
                                      let w1 :=
                                        setCells w1 (Addr.mk w'.heap.size (0 : Nat) none) (0 : Nat)
                                          [Value.int IntKind.i64 x.fst, Value.int IntKind.i64 x.snd.fst,
                                            Value.int IntKind.i64 x.snd.snd];
                                      ∃ (x : Int),
                                        w1.cell? ((Addr.mk w'.heap.size (0 : Nat) none).add (1 : Nat)) =
                                            some (Value.int IntKind.i64 x) ∧
                                          cnd (decide (n1 ≥ x))
                                            (∃ (x : Int),
                                              w1.cell? ((Addr.mk w'.heap.size (0 : Nat) none).add (1 : Nat)) =
                                                  some (Value.int IntKind.i64 x) ∧
                                                ∃ (x_3 : Int),
                                                  w1.cell? ((Addr.mk w'.heap.size (0 : Nat) none).add (2 : Nat)) =
                                                      some (Value.int IntKind.i64 x_3) ∧
                                                    cnd (decide (n1 < IntKind.i64.wrap (x + x_3)))
                                                      (∃ (x : Int),
                                                        w1.cell? ((Addr.mk w'.heap.size (0 : Nat) none).add (0 : Nat)) =
                                                            some (Value.int IntKind.i64 x) ∧
                                                          R x w1)
                                                      (∃ (m : Nat), m < n ∧ I m (IntKind.i64.wrap (x_1 + (1 : Int))) w1))
                                            (∃ (m : Nat), m < n ∧ I m (IntKind.i64.wrap (x_1 + (1 : Int))) w1))
  : CallT [Ty.one (Sh.int IntKind.i64)] Try.prog 38 [Value.agg
    #[Value.int IntKind.i64 x0.fst, Value.int IntKind.i64 x0.snd.fst, Value.int IntKind.i64 x0.snd.snd.fst,
      Value.int IntKind.i64 x0.snd.snd.snd.fst, Value.int IntKind.i64 x0.snd.snd.snd.snd.fst,
      Value.int IntKind.i64 x0.snd.snd.snd.snd.snd.fst, Value.int IntKind.i64 x0.snd.snd.snd.snd.snd.snd.fst,
      Value.int IntKind.i64 x0.snd.snd.snd.snd.snd.snd.snd.fst,
      Value.int IntKind.i64 x0.snd.snd.snd.snd.snd.snd.snd.snd],
  Value.int IntKind.i64 n1] w R :=
  fnV_sound (h := HT.z.sq (HT.z.sq ((HT.z.sq (HT.lp [((6 : Nat), Ty.one (Sh.int IntKind.i64))] (HT.jn [] HT.z HT.z)).bl).sq HT.z))) Try.func38 (by kernel_rfl) (by kernel_rfl) (Eq.mp (by kernel_rfl) h)

/-- dunnage/word.ReadVar -/
theorem word_ReadVar.vc (s0 : SV) (n1 : Int) (w : World) (R : Int × Int × Int → World → Prop)
  (h : cnd (decide (n1 < (0 : Int))) (R ((0 : Int), (0 : Int), (1 : Int)) w)
      (let w1 := w.alloc (Obj.cells #[Value.int IntKind.u64 (0 : Int)] (22 : Nat));
      let w1_1 := w1.alloc (Obj.cells #[Value.int IntKind.i64 (0 : Int)] (3 : Nat));
      let w1_2 := w1_1.alloc (Obj.cells #[Value.bool false] (4 : Nat));
      (w1_2.cell? (Addr.mk w.heap.size (0 : Nat) none)).isSome = true ∧
        w1_2.frozen? (Addr.mk w.heap.size (0 : Nat) none) = false ∧
          let w1_3 := w1_2.setCell (Addr.mk w.heap.size (0 : Nat) none) (Value.int IntKind.u64 (0 : Int));
          (w1_3.cell? (Addr.mk w1.heap.size (0 : Nat) none)).isSome = true ∧
            w1_3.frozen? (Addr.mk w1.heap.size (0 : Nat) none) = false ∧
              let w1_4 := w1_3.setCell (Addr.mk w1.heap.size (0 : Nat) none) (Value.int IntKind.i64 (0 : Int));
              (w1_4.cell? (Addr.mk w1_1.heap.size (0 : Nat) none)).isSome = true ∧
                w1_4.frozen? (Addr.mk w1_1.heap.size (0 : Nat) none) = false ∧
                  let w1_5 := w1_4.setCell (Addr.mk w1_1.heap.size (0 : Nat) none) (Value.bool true);
                  let w1_6 := w1_5.alloc (Obj.cells #[Value.nilFunc] (85 : Nat));
                  canSt w1_6 (Addr.mk w1_5.heap.size (0 : Nat) none) (1 : Nat) ∧
                    let w1 :=
                      setCells w1_6 (Addr.mk w1_5.heap.size (0 : Nat) none) (0 : Nat)
                        [Value.func (Fn.func (70 : Nat)) #[]
                            #[Value.pointer (some (Addr.mk w1.heap.size (0 : Nat) none)),
                              Value.pointer (some (Addr.mk w1_1.heap.size (0 : Nat) none)),
                              Value.pointer (some (Addr.mk w.heap.size (0 : Nat) none))]];
                    ∃ (x : Value),
                      cellsAt w1 (Addr.mk w1_5.heap.size (0 : Nat) none) [x] ∧
                        CallT [Ty.one (Sh.int IntKind.i64), Ty.one Sh.bool] Try.prog (71 : Nat)
                          [Value.agg #[x], Value.slice s0.a s0.len s0.cap, Value.int IntKind.i64 n1] w1
                          fun (x : Int × Bool) (w' : World) =>
                          ∃ (x_1 : Bool),
                            w'.cell? (Addr.mk w1_1.heap.size (0 : Nat) none) = some (Value.bool x_1) ∧
                              cnd (!x_1) (R ((0 : Int), (0 : Int), (11 : Int)) w')
                                (cnd x.snd (R ((0 : Int), (0 : Int), (10 : Int)) w')
                                  (∃ (x_2 : Int),
                                    w'.cell? (Addr.mk w.heap.size (0 : Nat) none) = some (Value.int IntKind.u64 x_2) ∧
                                      R (x_2, x.fst, (0 : Int)) w'))))
  : CallT [Ty.one (Sh.int IntKind.u64), Ty.one (Sh.int IntKind.i64), Ty.one (Sh.int IntKind.i64)] Try.prog 39 [Value.slice s0.a s0.len s0.cap, Value.int IntKind.i64 n1] w R :=
  fnV_sound (h := HT.z) Try.func39 (by kernel_rfl) (by kernel_rfl) (Eq.mp (by kernel_rfl) h)

/-- dunnage/dunnageref01.ReadVar -/
theorem dunnageref01_ReadVar.vc (s0 : SV) (n1 : Int) (w : World) (R : Int × Int × Int → World → Prop)
  (h : cnd (decide (n1 < (0 : Int))) (R ((0 : Int), (0 : Int), (1 : Int)) w)
      (∃ (I : Nat → Int × Int → World → Prop),
        (∃ (n : Nat), I n ((0 : Int), (0 : Int)) w) ∧
          ∀ (n : Nat) (x : Int × Int) (j : Nat → Value) (w' : World),
            I n x w' →
              let e1 := x.snd;
              cnd (decide (e1 < (10 : Int)))
                (∃ (R_1 : PUnit → World → Prop),
                  cnd (decide (n1 ≥ (↑s0.len : Int))) (R ((0 : Int), (0 : Int), (10 : Int)) w')
                      (let e1 := x.snd;
                      cnd (decide (IntKind.i64.wrap (n1 + e1) ≥ (↑s0.len : Int))) (R ((0 : Int), (0 : Int), (10 : Int)) w')
                        (R_1 () w')) ∧
                    ∀ (x_1 : PUnit) (j : Nat → Value) (w' : World),
                      R_1 x_1 w' →
                        let e1 := x.snd;
                        (0 : Int) ≤ IntKind.i64.wrap (n1 + e1) ∧
                          IntKind.i64.wrap (n1 + e1) < (↑s0.len : Int) ∧
                            onP s0.a fun (A : Addr) =>
                              ∃ (x_2 : Int),
                                w'.cell? (A.add ((IntKind.i64.wrap (n1 + e1)).toNat * (1 : Nat))) =
                                    some (Value.int IntKind.u8 x_2) ∧
                                  ∃ (R_2 : PUnit → World → Prop),
                                    cnd (x.snd == (9 : Int))
                                        (cnd (decide (x_2 > (1 : Int))) (R ((0 : Int), (0 : Int), (11 : Int)) w')
                                          (let e1 := x.snd;
                                          cnd (decide (e1 > (0 : Int)))
                                            (cnd (x_2 == (0 : Int)) (R ((0 : Int), (0 : Int), (11 : Int)) w') (R_2 () w'))
                                            (R_2 () w')))
                                        (let e1 := x.snd;
                                        cnd (decide (e1 > (0 : Int)))
                                          (cnd (x_2 == (0 : Int)) (R ((0 : Int), (0 : Int), (11 : Int)) w') (R_2 () w'))
                                          (R_2 () w')) ∧
                                      ∀ (x_3 : PUnit) (j : Nat → Value) (w' : World),
                                        R_2 x_3 w' →
                                          let e1 := x.fst;
                                          let e1_1 := x.snd;
                                          (0 : Int) ≤ IntKind.u64.wrap ((7 : Int) * IntKind.u64.wrap e1_1) ∧
                                            let e1_2 :=
                                              shl IntKind.u64 (IntKind.u64.wrap (band IntKind.u8 x_2 (127 : Int)))
                                                (IntKind.u64.wrap ((7 : Int) * IntKind.u64.wrap e1_1));
                                            cnd (decide (x_2 < (128 : Int)))
                                              (R
                                                (bor IntKind.u64 e1 e1_2,
                                                  IntKind.i64.wrap (IntKind.i64.wrap (n1 + x.snd) + (1 : Int)), (0 : Int))
                                                w')
                                              (∃ (m : Nat),
                                                m < n ∧
                                                  I m (bor IntKind.u64 e1 e1_2, IntKind.i64.wrap (x.snd + (1 : Int))) w'))
                (R ((0 : Int), (0 : Int), (11 : Int)) w')))
  : CallT [Ty.one (Sh.int IntKind.u64), Ty.one (Sh.int IntKind.i64), Ty.one (Sh.int IntKind.i64)] Try.prog 40 [Value.slice s0.a s0.len s0.cap, Value.int IntKind.i64 n1] w R :=
  fnV_sound (h := HT.z.sq
  (HT.z.sq
    (HT.z.sq
      ((HT.z.sq
            (HT.lp [((7 : Nat), Ty.one (Sh.int IntKind.u64)), ((8 : Nat), Ty.one (Sh.int IntKind.i64))]
                (HT.z.sq ((HT.jn [] HT.z (HT.z.sq (HT.jn [] HT.z HT.z))).bl.sq HT.z))).bl).sq
        HT.z)))) Try.func40 (by kernel_rfl) (by kernel_rfl) (Eq.mp (by kernel_rfl) h)

/-- dunnage/dunnageref01.Var -/
theorem dunnageref01_Var.vc (n0 : Int) (w : World) (R : SV → World → Prop)
  (h : ∃ (I : Nat → Int × SV → World → Prop),
      (∃ (n : Nat), I n (n0, SV.mk none (0 : Nat) (0 : Nat)) w) ∧
        ∀ (n : Nat) (x : Int × SV) (j : Nat → Value) (w' : World),
          I n x w' →
            let e1 := x.fst;
            cnd (decide (e1 ≥ (128 : Int)))
              (appV Try.prog [(23 : Nat), (23 : Nat)] (23 : Nat)
                [Value.slice x.snd.a x.snd.len x.snd.cap,
                  Value.slice (some (Addr.mk w'.heap.size (0 : Nat) none)) (1 : Nat) (1 : Nat)]
                (w'.alloc
                  (Obj.cells #[Value.int IntKind.u8 (bor IntKind.u8 (IntKind.u8.wrap x.fst) (128 : Int))] (5 : Nat)))
                fun (s : SV) (w' : World) => ∃ (m : Nat), m < n ∧ I m (shr IntKind.u64 x.fst (7 : Int), s) w')
              (appV Try.prog [(23 : Nat), (23 : Nat)] (23 : Nat)
                [Value.slice x.snd.a x.snd.len x.snd.cap,
                  Value.slice (some (Addr.mk w'.heap.size (0 : Nat) none)) (1 : Nat) (1 : Nat)]
                (w'.alloc (Obj.cells #[Value.int IntKind.u8 (IntKind.u8.wrap x.fst)] (5 : Nat)))
                fun (s : SV) (w' : World) => R s w'))
  : CallT [Ty.one Sh.slice] Try.prog 41 [Value.int IntKind.u64 n0] w R :=
  fnV_sound (h := HT.z.sq (HT.z.sq ((HT.lp [((0 : Nat), Ty.one (Sh.int IntKind.u64)), ((3 : Nat), Ty.one Sh.slice)] HT.z).bl.sq HT.z))) Try.func41 (by kernel_rfl) (by kernel_rfl) (Eq.mp (by kernel_rfl) h)

/-- dunnage/word.Put -/
theorem word_Put.vc (s0 : SV) (n1 : Int) (n2 : Int) (w : World) (R : SV × Int → World → Prop)
  (h : ∃ (R_1 : PUnit → World → Prop),
      cnd (decide (n2 < (1 : Int))) (R (SV.mk none (0 : Nat) (0 : Nat), (1 : Int)) w)
          (cnd (decide (n2 > (8 : Int))) (R (SV.mk none (0 : Nat) (0 : Nat), (1 : Int)) w) (R_1 () w)) ∧
        ∀ (x : PUnit) (j : Nat → Value) (w' : World),
          R_1 x w' →
            ∃ (R_2 : PUnit → World → Prop),
              cnd (decide (n2 < (8 : Int)))
                  ((0 : Int) ≤ IntKind.i64.wrap ((8 : Int) * n2) ∧
                    cnd (shr IntKind.u64 n1 (IntKind.i64.wrap ((8 : Int) * n2)) != (0 : Int))
                      (R (SV.mk none (0 : Nat) (0 : Nat), (12 : Int)) w') (R_2 () w'))
                  (R_2 () w') ∧
                ∀ (x : PUnit) (j : Nat → Value) (w' : World),
                  R_2 x w' →
                    CallT [Ty.one Sh.slice] Try.prog (72 : Nat) [Value.slice s0.a s0.len s0.cap] w'
                      fun (x : SV) (w' : World) =>
                      ∃ (I : Nat → Int × SV × Int → World → Prop),
                        (∃ (n : Nat), I n (n1, x, (0 : Int)) w') ∧
                          ∀ (n : Nat) (x : Int × SV × Int) (j : Nat → Value) (w' : World),
                            I n x w' →
                              cnd (decide (x.snd.snd < n2))
                                (appV Try.prog [(23 : Nat), (23 : Nat)] (23 : Nat)
                                  [Value.slice x.snd.fst.a x.snd.fst.len x.snd.fst.cap,
                                    Value.slice (some (Addr.mk w'.heap.size (0 : Nat) none)) (1 : Nat) (1 : Nat)]
                                  (w'.alloc (Obj.cells #[Value.int IntKind.u8 (IntKind.u8.wrap x.fst)] (5 : Nat)))
                                  fun (s : SV) (w' : World) =>
                                  ∃ (m : Nat),
                                    m < n ∧
                                      I m (shr IntKind.u64 x.fst (8 : Int), s, IntKind.i64.wrap (x.snd.snd + (1 : Int))) w')
                                (R (x.snd.fst, (0 : Int)) w'))
  : CallT [Ty.one Sh.slice, Ty.one (Sh.int IntKind.i64)] Try.prog 42 [Value.slice s0.a s0.len s0.cap, Value.int IntKind.u64 n1, Value.int IntKind.i64 n2] w R :=
  fnV_sound (h := HT.z.sq
  (HT.jn [] HT.z
    (HT.jn [] HT.z
      (HT.z.sq
        ((HT.z.sq
              (HT.lp
                  [((1 : Nat), Ty.one (Sh.int IntKind.u64)), ((8 : Nat), Ty.one Sh.slice),
                    ((27 : Nat), Ty.one (Sh.int IntKind.i64))]
                  HT.z).bl).sq
          HT.z))))) Try.func42 (by kernel_rfl) (by kernel_rfl) (Eq.mp (by kernel_rfl) h)

/-- dunnage/crc.Join -/
theorem crc_Join.vc (n0 : Int) (n1 : Int) (n2 : Int) (w : World) (R : Int → World → Prop)
  (h : cnd (decide (n2 < (1 : Int))) (R n0 w)
      (∃ (I : Nat → Int × Int × Int → World → Prop),
        (∃ (n : Nat), I n (n2, (2147483648 : Int), (8388608 : Int)) w) ∧
          ∀ (n : Nat) (x : Int × Int × Int) (j : Nat → Value) (w' : World),
            I n x w' →
              let e1 := x.fst;
              cnd (decide (e1 > (0 : Int)))
                (∃ (R : Int → World → Prop),
                  cnd (band IntKind.i64 x.fst (1 : Int) != (0 : Int))
                      (CallT [Ty.one (Sh.int IntKind.u32)] Try.prog (73 : Nat)
                        [Value.int IntKind.u32 x.snd.fst, Value.int IntKind.u32 x.snd.snd] w' fun (x : Int) (w' : World) =>
                        R x w')
                      (R x.snd.fst w') ∧
                    ∀ (x_1 : Int) (j : Nat → Value) (w' : World),
                      R x_1 w' →
                        CallT [Ty.one (Sh.int IntKind.u32)] Try.prog (73 : Nat)
                          [Value.int IntKind.u32 x.snd.snd, Value.int IntKind.u32 x.snd.snd] w'
                          fun (x_2 : Int) (w' : World) =>
                          ∃ (m : Nat), m < n ∧ I m (shr IntKind.i64 x.fst (1 : Int), x_1, x_2) w')
                (CallT [Ty.one (Sh.int IntKind.u32)] Try.prog (73 : Nat)
                  [Value.int IntKind.u32 x.snd.fst, Value.int IntKind.u32 n0] w' fun (x : Int) (w' : World) =>
                  R (bxor IntKind.u32 x n1) w')))
  : CallT [Ty.one (Sh.int IntKind.u32)] Try.prog 43 [Value.int IntKind.u32 n0, Value.int IntKind.u32 n1, Value.int IntKind.i64 n2] w R :=
  fnV_sound (h := HT.z.sq
  (HT.z.sq
    (HT.z.sq
      ((HT.lp
              [((2 : Nat), Ty.one (Sh.int IntKind.i64)), ((7 : Nat), Ty.one (Sh.int IntKind.u32)),
                ((8 : Nat), Ty.one (Sh.int IntKind.u32))]
              (HT.z.sq ((HT.jn [((7 : Nat), Ty.one (Sh.int IntKind.u32))] HT.z HT.z).bl.sq HT.z))).bl.sq
        HT.z)))) Try.func43 (by kernel_rfl) (by kernel_rfl) (Eq.mp (by kernel_rfl) h)

/-- dunnage/dunnageref02.Join -/
theorem dunnageref02_Join.vc (n0 : Int) (n1 : Int) (n2 : Int) (w : World) (R : Int → World → Prop)
  (h : cnd (decide (n2 < (1 : Int))) (R n0 w)
      (CallT [Ty.one (Sh.int IntKind.u32)] Try.prog (75 : Nat) [Value.int IntKind.i64 n2] w fun (x : Int) (w' : World) =>
        CallT [Ty.one (Sh.int IntKind.u32)] Try.prog (74 : Nat) [Value.int IntKind.u32 n0, Value.int IntKind.u32 x] w'
          fun (x : Int) (w' : World) => R (bxor IntKind.u32 x n1) w'))
  : CallT [Ty.one (Sh.int IntKind.u32)] Try.prog 44 [Value.int IntKind.u32 n0, Value.int IntKind.u32 n1, Value.int IntKind.i64 n2] w R :=
  fnV_sound (h := HT.z) Try.func44 (by kernel_rfl) (by kernel_rfl) (Eq.mp (by kernel_rfl) h)

/-- dunnage/layout.Logic -/
theorem layout_Logic.vc (x0 : Int × Int × Int × Int × Int × Int × Int × Int × Int) (n1 : Int) (w : World) (R : Int × Bool → World → Prop)
  (h : let w1 :=
      w.alloc
        (Obj.cells
          #[Value.int IntKind.i64 x0.fst, Value.int IntKind.i64 x0.snd.fst, Value.int IntKind.i64 x0.snd.snd.fst,
            Value.int IntKind.i64 x0.snd.snd.snd.fst, Value.int IntKind.i64 x0.snd.snd.snd.snd.fst,
            Value.int IntKind.i64 x0.snd.snd.snd.snd.snd.fst, Value.int IntKind.i64 x0.snd.snd.snd.snd.snd.snd.fst,
            Value.int IntKind.i64 x0.snd.snd.snd.snd.snd.snd.snd.fst,
            Value.int IntKind.i64 x0.snd.snd.snd.snd.snd.snd.snd.snd]
          (44 : Nat));
    ∃ (x : Int × Int × Int × Int × Int × Int × Int × Int × Int),
      cellsAt w1 (Addr.mk w.heap.size (0 : Nat) none)
          [Value.int IntKind.i64 x.fst, Value.int IntKind.i64 x.snd.fst, Value.int IntKind.i64 x.snd.snd.fst,
            Value.int IntKind.i64 x.snd.snd.snd.fst, Value.int IntKind.i64 x.snd.snd.snd.snd.fst,
            Value.int IntKind.i64 x.snd.snd.snd.snd.snd.fst, Value.int IntKind.i64 x.snd.snd.snd.snd.snd.snd.fst,
            Value.int IntKind.i64 x.snd.snd.snd.snd.snd.snd.snd.fst,
            Value.int IntKind.i64 x.snd.snd.snd.snd.snd.snd.snd.snd] ∧
        CallT [Ty.one (Sh.int IntKind.i64)] Try.prog (38 : Nat)
          [Value.agg
              #[Value.int IntKind.i64 x.fst, Value.int IntKind.i64 x.snd.fst, Value.int IntKind.i64 x.snd.snd.fst,
                Value.int IntKind.i64 x.snd.snd.snd.fst, Value.int IntKind.i64 x.snd.snd.snd.snd.fst,
                Value.int IntKind.i64 x.snd.snd.snd.snd.snd.fst, Value.int IntKind.i64 x.snd.snd.snd.snd.snd.snd.fst,
                Value.int IntKind.i64 x.snd.snd.snd.snd.snd.snd.snd.fst,
                Value.int IntKind.i64 x.snd.snd.snd.snd.snd.snd.snd.snd],
            Value.int IntKind.i64 n1]
          w1 fun (x : Int) (w' : World) =>
          cnd (x != (7 : Int)) (R ((0 : Int), false) w')
            (∃ (x : Int),
              w'.drew.cell? ((Addr.mk w.heap.size (0 : Nat) none).add (7 : Nat)) = some (Value.int IntKind.i64 x) ∧
                ∃ (x_1 : Int),
                  w'.drew.cell? ((Addr.mk w.heap.size (0 : Nat) none).add (7 : Nat)) = some (Value.int IntKind.i64 x_1) ∧
                    let w1 := w'.drew;
                    cnd ((IntKind.i64.wrap (n1 - x_1)).tmod (32 : Int) == (0 : Int)) (R ((0 : Int), false) w1)
                      (R
                        (IntKind.i64.wrap
                            (IntKind.i64.wrap
                                (IntKind.i64.wrap
                                    (IntKind.i64.wrap ((IntKind.i64.wrap (n1 - x)).tdiv (32 : Int)) * (31 : Int)) +
                                  (IntKind.i64.wrap (n1 - x_1)).tmod (32 : Int)) -
                              (1 : Int)),
                          true)
                        w1)))
  : CallT [Ty.one (Sh.int IntKind.i64), Ty.one Sh.bool] Try.prog 45 [Value.agg
    #[Value.int IntKind.i64 x0.fst, Value.int IntKind.i64 x0.snd.fst, Value.int IntKind.i64 x0.snd.snd.fst,
      Value.int IntKind.i64 x0.snd.snd.snd.fst, Value.int IntKind.i64 x0.snd.snd.snd.snd.fst,
      Value.int IntKind.i64 x0.snd.snd.snd.snd.snd.fst, Value.int IntKind.i64 x0.snd.snd.snd.snd.snd.snd.fst,
      Value.int IntKind.i64 x0.snd.snd.snd.snd.snd.snd.snd.fst,
      Value.int IntKind.i64 x0.snd.snd.snd.snd.snd.snd.snd.snd],
  Value.int IntKind.i64 n1] w R :=
  fnV_sound (h := HT.z.sq (HT.z.sq ((HT.rg (12 : Nat)).sq HT.z))) Try.func45 (by kernel_rfl) (by kernel_rfl) (Eq.mp (by kernel_rfl) h)

/-- dunnage/layout.Capacity -/
theorem layout_Capacity.vc (x0 : Int × Int × Int × Int × Int × Int × Int × Int × Int) (w : World) (R : Int → World → Prop)
  (h : let w1 :=
      w.alloc
        (Obj.cells
          #[Value.int IntKind.i64 x0.fst, Value.int IntKind.i64 x0.snd.fst, Value.int IntKind.i64 x0.snd.snd.fst,
            Value.int IntKind.i64 x0.snd.snd.snd.fst, Value.int IntKind.i64 x0.snd.snd.snd.snd.fst,
            Value.int IntKind.i64 x0.snd.snd.snd.snd.snd.fst, Value.int IntKind.i64 x0.snd.snd.snd.snd.snd.snd.fst,
            Value.int IntKind.i64 x0.snd.snd.snd.snd.snd.snd.snd.fst,
            Value.int IntKind.i64 x0.snd.snd.snd.snd.snd.snd.snd.snd]
          (44 : Nat));
    ∃ (x : Int),
      w1.cell? ((Addr.mk w.heap.size (0 : Nat) none).add (8 : Nat)) = some (Value.int IntKind.i64 x) ∧
        R (IntKind.i64.wrap (x * (31 : Int))) w1)
  : CallT [Ty.one (Sh.int IntKind.i64)] Try.prog 46 [Value.agg
    #[Value.int IntKind.i64 x0.fst, Value.int IntKind.i64 x0.snd.fst, Value.int IntKind.i64 x0.snd.snd.fst,
      Value.int IntKind.i64 x0.snd.snd.snd.fst, Value.int IntKind.i64 x0.snd.snd.snd.snd.fst,
      Value.int IntKind.i64 x0.snd.snd.snd.snd.snd.fst, Value.int IntKind.i64 x0.snd.snd.snd.snd.snd.snd.fst,
      Value.int IntKind.i64 x0.snd.snd.snd.snd.snd.snd.snd.fst,
      Value.int IntKind.i64 x0.snd.snd.snd.snd.snd.snd.snd.snd]] w R :=
  fnV_sound (h := HT.z) Try.func46 (by kernel_rfl) (by kernel_rfl) (Eq.mp (by kernel_rfl) h)

/-- dunnage/layout.Phys -/
theorem layout_Phys.vc (x0 : Int × Int × Int × Int × Int × Int × Int × Int × Int) (n1 : Int) (w : World) (R : Int × Bool → World → Prop)
  (h : let w1 :=
      w.alloc
        (Obj.cells
          #[Value.int IntKind.i64 x0.fst, Value.int IntKind.i64 x0.snd.fst, Value.int IntKind.i64 x0.snd.snd.fst,
            Value.int IntKind.i64 x0.snd.snd.snd.fst, Value.int IntKind.i64 x0.snd.snd.snd.snd.fst,
            Value.int IntKind.i64 x0.snd.snd.snd.snd.snd.fst, Value.int IntKind.i64 x0.snd.snd.snd.snd.snd.snd.fst,
            Value.int IntKind.i64 x0.snd.snd.snd.snd.snd.snd.snd.fst,
            Value.int IntKind.i64 x0.snd.snd.snd.snd.snd.snd.snd.snd]
          (44 : Nat));
    ∃ (R_1 : PUnit → World → Prop),
      cnd (decide (n1 < (0 : Int))) (R ((0 : Int), false) w1)
          (∃ (x : Int × Int × Int × Int × Int × Int × Int × Int × Int),
            cellsAt w1 (Addr.mk w.heap.size (0 : Nat) none)
                [Value.int IntKind.i64 x.fst, Value.int IntKind.i64 x.snd.fst, Value.int IntKind.i64 x.snd.snd.fst,
                  Value.int IntKind.i64 x.snd.snd.snd.fst, Value.int IntKind.i64 x.snd.snd.snd.snd.fst,
                  Value.int IntKind.i64 x.snd.snd.snd.snd.snd.fst, Value.int IntKind.i64 x.snd.snd.snd.snd.snd.snd.fst,
                  Value.int IntKind.i64 x.snd.snd.snd.snd.snd.snd.snd.fst,
                  Value.int IntKind.i64 x.snd.snd.snd.snd.snd.snd.snd.snd] ∧
              CallT [Ty.one (Sh.int IntKind.i64)] Try.prog (46 : Nat)
                [Value.agg
                    #[Value.int IntKind.i64 x.fst, Value.int IntKind.i64 x.snd.fst, Value.int IntKind.i64 x.snd.snd.fst,
                      Value.int IntKind.i64 x.snd.snd.snd.fst, Value.int IntKind.i64 x.snd.snd.snd.snd.fst,
                      Value.int IntKind.i64 x.snd.snd.snd.snd.snd.fst, Value.int IntKind.i64 x.snd.snd.snd.snd.snd.snd.fst,
                      Value.int IntKind.i64 x.snd.snd.snd.snd.snd.snd.snd.fst,
                      Value.int IntKind.i64 x.snd.snd.snd.snd.snd.snd.snd.snd]]
                w1 fun (x : Int) (w' : World) => cnd (decide (n1 ≥ x)) (R ((0 : Int), false) w') (R_1 () w')) ∧
        ∀ (x : PUnit) (j : Nat → Value) (w' : World),
          R_1 x w' →
            ∃ (x : Int × Int × Int × Int × Int × Int × Int × Int × Int),
              cellsAt w' (Addr.mk w.heap.size (0 : Nat) none)
                  [Value.int IntKind.i64 x.fst, Value.int IntKind.i64 x.snd.fst, Value.int IntKind.i64 x.snd.snd.fst,
                    Value.int IntKind.i64 x.snd.snd.snd.fst, Value.int IntKind.i64 x.snd.snd.snd.snd.fst,
                    Value.int IntKind.i64 x.snd.snd.snd.snd.snd.fst, Value.int IntKind.i64 x.snd.snd.snd.snd.snd.snd.fst,
                    Value.int IntKind.i64 x.snd.snd.snd.snd.snd.snd.snd.fst,
                    Value.int IntKind.i64 x.snd.snd.snd.snd.snd.snd.snd.snd] ∧
                CallT [Ty.one (Sh.int IntKind.i64)] Try.prog (56 : Nat)
                  [Value.agg
                      #[Value.int IntKind.i64 x.fst, Value.int IntKind.i64 x.snd.fst, Value.int IntKind.i64 x.snd.snd.fst,
                        Value.int IntKind.i64 x.snd.snd.snd.fst, Value.int IntKind.i64 x.snd.snd.snd.snd.fst,
                        Value.int IntKind.i64 x.snd.snd.snd.snd.snd.fst,
                        Value.int IntKind.i64 x.snd.snd.snd.snd.snd.snd.fst,
                        Value.int IntKind.i64 x.snd.snd.snd.snd.snd.snd.snd.fst,
                        Value.int IntKind.i64 x.snd.snd.snd.snd.snd.snd.snd.snd],
                    Value.int IntKind.i64 (IntKind.i64.wrap (n1.tdiv (31 : Int)))]
                  w' fun (x : Int) (w' : World) =>
                  R (IntKind.i64.wrap (IntKind.i64.wrap (x + (1 : Int)) + n1.tmod (31 : Int)), true) w')
  : CallT [Ty.one (Sh.int IntKind.i64), Ty.one Sh.bool] Try.prog 47 [Value.agg
    #[Value.int IntKind.i64 x0.fst, Value.int IntKind.i64 x0.snd.fst, Value.int IntKind.i64 x0.snd.snd.fst,
      Value.int IntKind.i64 x0.snd.snd.snd.fst, Value.int IntKind.i64 x0.snd.snd.snd.snd.fst,
      Value.int IntKind.i64 x0.snd.snd.snd.snd.snd.fst, Value.int IntKind.i64 x0.snd.snd.snd.snd.snd.snd.fst,
      Value.int IntKind.i64 x0.snd.snd.snd.snd.snd.snd.snd.fst,
      Value.int IntKind.i64 x0.snd.snd.snd.snd.snd.snd.snd.snd],
  Value.int IntKind.i64 n1] w R :=
  fnV_sound (h := HT.z.sq (HT.jn [] HT.z HT.z)) Try.func47 (by kernel_rfl) (by kernel_rfl) (Eq.mp (by kernel_rfl) h)

/-- dunnage/dunnageref01.Put -/
theorem dunnageref01_Put.vc (s0 : SV) (n1 : Int) (n2 : Int) (w : World) (R : SV × Int → World → Prop)
  (h : ∃ (R_1 : PUnit → World → Prop),
      cnd (decide (n2 < (1 : Int))) (R (SV.mk none (0 : Nat) (0 : Nat), (1 : Int)) w)
          (cnd (decide (n2 > (8 : Int))) (R (SV.mk none (0 : Nat) (0 : Nat), (1 : Int)) w) (R_1 () w)) ∧
        ∀ (x : PUnit) (j : Nat → Value) (w' : World),
          R_1 x w' →
            CallT [Ty.one Sh.bool] Try.prog (76 : Nat) [Value.int IntKind.u64 n1, Value.int IntKind.i64 n2] w'
              fun (x : Bool) (w' : World) =>
              cnd (!x) (R (SV.mk none (0 : Nat) (0 : Nat), (12 : Int)) w')
                (appV Try.prog [(23 : Nat), (23 : Nat)] (23 : Nat)
                  [Value.slice none (0 : Nat) (0 : Nat), Value.slice s0.a s0.len s0.cap] w' fun (s : SV) (w' : World) =>
                  ∃ (I : Nat → SV × Int → World → Prop),
                    (∃ (n : Nat), I n (s, (0 : Int)) w') ∧
                      ∀ (n : Nat) (x : SV × Int) (j : Nat → Value) (w' : World),
                        I n x w' →
                          let e1 := x.snd;
                          cnd (decide (e1 < n2))
                            (let e1 := x.snd;
                            (0 : Int) ≤ IntKind.u64.wrap ((8 : Int) * IntKind.u64.wrap e1) ∧
                              appV Try.prog [(23 : Nat), (23 : Nat)] (23 : Nat)
                                [Value.slice x.fst.a x.fst.len x.fst.cap,
                                  Value.slice (some (Addr.mk w'.heap.size (0 : Nat) none)) (1 : Nat) (1 : Nat)]
                                (w'.alloc
                                  (Obj.cells
                                    #[Value.int IntKind.u8
                                        (IntKind.u8.wrap
                                          (shr IntKind.u64 n1 (IntKind.u64.wrap ((8 : Int) * IntKind.u64.wrap e1))))]
                                    (5 : Nat)))
                                fun (s : SV) (w' : World) =>
                                ∃ (m : Nat), m < n ∧ I m (s, IntKind.i64.wrap (x.snd + (1 : Int))) w')
                            (R (x.fst, (0 : Int)) w')))
  : CallT [Ty.one Sh.slice, Ty.one (Sh.int IntKind.i64)] Try.prog 48 [Value.slice s0.a s0.len s0.cap, Value.int IntKind.u64 n1, Value.int IntKind.i64 n2] w R :=
  fnV_sound (h := HT.z.sq
  (HT.jn [] HT.z
    (HT.z.sq
      (HT.z.sq
        ((HT.z.sq (HT.lp [((8 : Nat), Ty.one Sh.slice), ((9 : Nat), Ty.one (Sh.int IntKind.i64))] HT.z).bl).sq HT.z))))) Try.func48 (by kernel_rfl) (by kernel_rfl) (Eq.mp (by kernel_rfl) h)

/-- dunnage/word.Get -/
theorem word_Get.vc (s0 : SV) (n1 : Int) (n2 : Int) (w : World) (R : Int × Int → World → Prop)
  (h : ∃ (R_1 : PUnit → World → Prop),
      cnd (decide (n2 < (1 : Int))) (R ((0 : Int), (1 : Int)) w)
          (cnd (decide (n2 > (8 : Int))) (R ((0 : Int), (1 : Int)) w)
            (cnd (decide (n1 < (0 : Int))) (R ((0 : Int), (1 : Int)) w) (R_1 () w))) ∧
        ∀ (x : PUnit) (j : Nat → Value) (w' : World),
          R_1 x w' →
            ∃ (R_2 : PUnit → World → Prop),
              cnd (decide (n1 > (↑s0.len : Int))) (R ((0 : Int), (10 : Int)) w')
                  (cnd (decide (IntKind.i64.wrap ((↑s0.len : Int) - n1) < n2)) (R ((0 : Int), (10 : Int)) w') (R_2 () w')) ∧
                ∀ (x : PUnit) (j : Nat → Value) (w' : World),
                  R_2 x w' →
                    let w1 := w'.alloc (Obj.cells #[Value.int IntKind.u64 (0 : Int)] (22 : Nat));
                    let w1_1 := w1.alloc (Obj.cells #[Value.int IntKind.i64 (0 : Int)] (3 : Nat));
                    (w1_1.cell? (Addr.mk w'.heap.size (0 : Nat) none)).isSome = true ∧
                      w1_1.frozen? (Addr.mk w'.heap.size (0 : Nat) none) = false ∧
                        let w1_2 := w1_1.setCell (Addr.mk w'.heap.size (0 : Nat) none) (Value.int IntKind.u64 (0 : Int));
                        (w1_2.cell? (Addr.mk w1.heap.size (0 : Nat) none)).isSome = true ∧
                          w1_2.frozen? (Addr.mk w1.heap.size (0 : Nat) none) = false ∧
                            let w1_3 :=
                              w1_2.setCell (Addr.mk w1.heap.size (0 : Nat) none) (Value.int IntKind.i64 (0 : Int));
                            let w1_4 := w1_3.alloc (Obj.cells #[Value.nilFunc] (85 : Nat));
                            canSt w1_4 (Addr.mk w1_3.heap.size (0 : Nat) none) (1 : Nat) ∧
                              let w1 :=
                                setCells w1_4 (Addr.mk w1_3.heap.size (0 : Nat) none) (0 : Nat)
                                  [Value.func (Fn.func (77 : Nat)) #[]
                                      #[Value.pointer (some (Addr.mk w'.heap.size (0 : Nat) none)),
                                        Value.pointer (some (Addr.mk w1.heap.size (0 : Nat) none))]];
                              ∃ (x : Value),
                                cellsAt w1.drew (Addr.mk w1_3.heap.size (0 : Nat) none) [x] ∧
                                  (0 : Int) ≤ IntKind.i64.wrap (n1 + n2) ∧
                                    IntKind.i64.wrap (n1 + n2) ≤ (↑s0.cap : Int) ∧
                                      (0 : Int) ≤ n1 ∧
                                        n1 ≤ (↑(IntKind.i64.wrap (n1 + n2)).toNat : Int) ∧
                                          CallT [Ty.one (Sh.int IntKind.i64), Ty.one Sh.bool] Try.prog (71 : Nat)
                                            [Value.agg #[x],
                                              Value.slice (subA s0.a n1.toNat (1 : Nat) s0.cap)
                                                ((IntKind.i64.wrap (n1 + n2)).toNat - n1.toNat) (s0.cap - n1.toNat),
                                              Value.int IntKind.i64 (0 : Int)]
                                            w1.drew fun (x : Int × Bool) (w'_1 : World) =>
                                            ∃ (x : Int),
                                              w'_1.cell? (Addr.mk w'.heap.size (0 : Nat) none) =
                                                  some (Value.int IntKind.u64 x) ∧
                                                R (x, (0 : Int)) w'_1)
  : CallT [Ty.one (Sh.int IntKind.u64), Ty.one (Sh.int IntKind.i64)] Try.prog 49 [Value.slice s0.a s0.len s0.cap, Value.int IntKind.i64 n1, Value.int IntKind.i64 n2] w R :=
  fnV_sound (h := HT.z.sq (HT.jn [] HT.z (HT.jn [] HT.z (HT.z.sq (HT.z.sq ((HT.rg (7 : Nat)).sq HT.z)))))) Try.func49 (by kernel_rfl) (by kernel_rfl) (Eq.mp (by kernel_rfl) h)

/-- dunnage/dunnageref01.Get -/
theorem dunnageref01_Get.vc (s0 : SV) (n1 : Int) (n2 : Int) (w : World) (R : Int × Int → World → Prop)
  (h : ∃ (R_1 : PUnit → World → Prop),
      cnd (decide (n2 < (1 : Int))) (R ((0 : Int), (1 : Int)) w)
          (cnd (decide (n2 > (8 : Int))) (R ((0 : Int), (1 : Int)) w)
            (cnd (decide (n1 < (0 : Int))) (R ((0 : Int), (1 : Int)) w) (R_1 () w))) ∧
        ∀ (x : PUnit) (j : Nat → Value) (w' : World),
          R_1 x w' →
            ∃ (R_2 : PUnit → World → Prop),
              cnd (decide (n1 > (↑s0.len : Int))) (R ((0 : Int), (10 : Int)) w')
                  (cnd (decide (IntKind.i64.wrap ((↑s0.len : Int) - n1) < n2)) (R ((0 : Int), (10 : Int)) w') (R_2 () w')) ∧
                ∀ (x : PUnit) (j : Nat → Value) (w' : World),
                  R_2 x w' →
                    ∃ (I : Nat → Int × Int → World → Prop),
                      (∃ (n : Nat), I n ((0 : Int), IntKind.i64.wrap (n2 - (1 : Int))) w') ∧
                        ∀ (n : Nat) (x : Int × Int) (j : Nat → Value) (w' : World),
                          I n x w' →
                            let e1 := x.snd;
                            cnd (decide (e1 ≥ (0 : Int)))
                              (let e1 := x.snd;
                              (0 : Int) ≤ IntKind.i64.wrap (n1 + e1) ∧
                                IntKind.i64.wrap (n1 + e1) < (↑s0.len : Int) ∧
                                  onP s0.a fun (A : Addr) =>
                                    ∃ (x_1 : Int),
                                      w'.cell? (A.add ((IntKind.i64.wrap (n1 + e1)).toNat * (1 : Nat))) =
                                          some (Value.int IntKind.u8 x_1) ∧
                                        ∃ (m : Nat),
                                          m < n ∧
                                            I m
                                              (bor IntKind.u64 (shl IntKind.u64 x.fst (8 : Int)) (IntKind.u64.wrap x_1),
                                                IntKind.i64.wrap (x.snd - (1 : Int)))
                                              w')
                              (R (x.fst, (0 : Int)) w'))
  : CallT [Ty.one (Sh.int IntKind.u64), Ty.one (Sh.int IntKind.i64)] Try.prog 50 [Value.slice s0.a s0.len s0.cap, Value.int IntKind.i64 n1, Value.int IntKind.i64 n2] w R :=
  fnV_sound (h := HT.z.sq
  (HT.jn [] HT.z
    (HT.jn [] HT.z
      (HT.z.sq
        ((HT.z.sq
              (HT.lp [((8 : Nat), Ty.one (Sh.int IntKind.u64)), ((9 : Nat), Ty.one (Sh.int IntKind.i64))] HT.z).bl).sq
          HT.z))))) Try.func50 (by kernel_rfl) (by kernel_rfl) (Eq.mp (by kernel_rfl) h)

/-- dunnage/dunnagehelp.Spoil -/
theorem dunnagehelp_Spoil.vc (s0 : SV) (w : World) (R : PUnit → World → Prop)
  (h : ∃ (I : Nat → Int → World → Prop),
      (∃ (n : Nat), I n (0 : Int) w) ∧
        ∀ (n : Nat) (x : Int) (j : Nat → Value) (w' : World),
          I n x w' →
            cnd (decide (x < (↑s0.len : Int)))
              ((0 : Int) ≤ x ∧
                x < (↑s0.len : Int) ∧
                  onP s0.a fun (A : Addr) =>
                    ∃ (x_1 : Int),
                      w'.cell? (A.add (x.toNat * (1 : Nat))) = some (Value.int IntKind.u8 x_1) ∧
                        (0 : Int) ≤ x ∧
                          x < (↑s0.len : Int) ∧
                            onP s0.a fun (A : Addr) =>
                              (w'.cell? (A.add (x.toNat * (1 : Nat)))).isSome = true ∧
                                w'.frozen? (A.add (x.toNat * (1 : Nat))) = false ∧
                                  ∃ (m : Nat),
                                    m < n ∧
                                      I m (IntKind.i64.wrap (x + (1 : Int)))
                                        (w'.setCell (A.add (x.toNat * (1 : Nat)))
                                          (Value.int IntKind.u8 (bxor IntKind.u8 x_1 (85 : Int)))))
              (R () w'))
  : CallT [] Try.prog 51 [Value.slice s0.a s0.len s0.cap] w R :=
  fnV_sound (h := HT.z.sq (HT.lp [((2 : Nat), Ty.one (Sh.int IntKind.i64))] HT.z).bl) Try.func51 (by kernel_rfl) (by kernel_rfl) (Eq.mp (by kernel_rfl) h)

/-- dunnage/dunnageref05.Plan -/
theorem dunnageref05_Plan.vc (n0 : Int) (w : World) (R : (Int × Int × Int × Int × Int × Int × Int × Int × Int) × Int → World → Prop)
  (h : let w1 :=
      w.alloc
        (Obj.cells
          #[Value.int IntKind.i64 (0 : Int), Value.int IntKind.i64 (0 : Int), Value.int IntKind.i64 (0 : Int),
            Value.int IntKind.i64 (0 : Int), Value.int IntKind.i64 (0 : Int), Value.int IntKind.i64 (0 : Int),
            Value.int IntKind.i64 (0 : Int), Value.int IntKind.i64 (0 : Int), Value.int IntKind.i64 (0 : Int)]
          (44 : Nat));
    ∃ (R_1 : PUnit → World → Prop),
      (∃ (R_2 : Bool → World → Prop),
          cnd (decide (n0 < (256 : Int))) (R_2 true w1) (R_2 (decide (n0 > (65536 : Int))) w1) ∧
            ∀ (x : Bool) (j : Nat → Value) (w' : World),
              R_2 x w' →
                cnd x
                  (canSt w' (Addr.mk w.heap.size (0 : Nat) none) (9 : Nat) ∧
                    let w1 :=
                      setCells w' (Addr.mk w.heap.size (0 : Nat) none) (0 : Nat)
                        [Value.int IntKind.i64 (0 : Int), Value.int IntKind.i64 (0 : Int), Value.int IntKind.i64 (0 : Int),
                          Value.int IntKind.i64 (0 : Int), Value.int IntKind.i64 (0 : Int), Value.int IntKind.i64 (0 : Int),
                          Value.int IntKind.i64 (0 : Int), Value.int IntKind.i64 (0 : Int),
                          Value.int IntKind.i64 (0 : Int)];
                    ∃ (x : Int × Int × Int × Int × Int × Int × Int × Int × Int),
                      cellsAt w1 (Addr.mk w.heap.size (0 : Nat) none)
                          [Value.int IntKind.i64 x.fst, Value.int IntKind.i64 x.snd.fst,
                            Value.int IntKind.i64 x.snd.snd.fst, Value.int IntKind.i64 x.snd.snd.snd.fst,
                            Value.int IntKind.i64 x.snd.snd.snd.snd.fst, Value.int IntKind.i64 x.snd.snd.snd.snd.snd.fst,
                            Value.int IntKind.i64 x.snd.snd.snd.snd.snd.snd.fst,
                            Value.int IntKind.i64 x.snd.snd.snd.snd.snd.snd.snd.fst,
                            Value.int IntKind.i64 x.snd.snd.snd.snd.snd.snd.snd.snd] ∧
                        R
                          ((x.fst, x.snd.fst, x.snd.snd.fst, x.snd.snd.snd.fst, x.snd.snd.snd.snd.fst,
                              x.snd.snd.snd.snd.snd.fst, x.snd.snd.snd.snd.snd.snd.fst, x.snd.snd.snd.snd.snd.snd.snd.fst,
                              x.snd.snd.snd.snd.snd.snd.snd.snd),
                            (1 : Int))
                          w1)
                  (R_1 () w')) ∧
        ∀ (x : PUnit) (j : Nat → Value) (w' : World),
          R_1 x w' →
            let w1 :=
              w'.alloc
                (Obj.cells
                  #[Value.int IntKind.i64 (0 : Int), Value.int IntKind.i64 (0 : Int), Value.int IntKind.i64 (0 : Int),
                    Value.int IntKind.i64 (0 : Int), Value.int IntKind.i64 (0 : Int), Value.int IntKind.i64 (0 : Int),
                    Value.int IntKind.i64 (0 : Int), Value.int IntKind.i64 (0 : Int), Value.int IntKind.i64 (0 : Int)]
                  (44 : Nat));
            canSt w1 (Addr.mk w'.heap.size (0 : Nat) none) (9 : Nat) ∧
              let w1 :=
                setCells w1 (Addr.mk w'.heap.size (0 : Nat) none) (0 : Nat)
                  [Value.int IntKind.i64 n0, Value.int IntKind.i64 (3 : Int), Value.int IntKind.i64 (13 : Int),
                    Value.int IntKind.i64 (IntKind.i64.wrap ((IntKind.i64.wrap (n0 - (13 : Int))).tdiv (8 : Int))),
                    Value.int IntKind.i64 (0 : Int), Value.int IntKind.i64 (0 : Int),
                    Value.int IntKind.i64 (IntKind.i64.wrap ((IntKind.i64.wrap (n0 - (13 : Int))).tdiv (8 : Int))),
                    Value.int IntKind.i64 (0 : Int), Value.int IntKind.i64 (0 : Int)];
              (0 : Int) ≤ (0 : Int) ∧
                (0 : Int) < (↑(2 : Nat) : Int) ∧
                  (w1.cell?
                          (((Addr.mk w'.heap.size (0 : Nat) none).add (4 : Nat)).add
                            (Int.toNat (0 : Int) * (1 : Nat)))).isSome =
                      true ∧
                    w1.frozen?
                          (((Addr.mk w'.heap.size (0 : Nat) none).add (4 : Nat)).add (Int.toNat (0 : Int) * (1 : Nat))) =
                        false ∧
                      let w1 :=
                        w1.setCell
                          (((Addr.mk w'.heap.size (0 : Nat) none).add (4 : Nat)).add (Int.toNat (0 : Int) * (1 : Nat)))
                          (Value.int IntKind.i64
                            (IntKind.i64.wrap
                              ((13 : Int) + IntKind.i64.wrap ((IntKind.i64.wrap (n0 - (13 : Int))).tdiv (8 : Int)))));
                      (0 : Int) ≤ (1 : Int) ∧
                        (1 : Int) < (↑(2 : Nat) : Int) ∧
                          (w1.cell?
                                  (((Addr.mk w'.heap.size (0 : Nat) none).add (4 : Nat)).add
                                    (Int.toNat (1 : Int) * (1 : Nat)))).isSome =
                              true ∧
                            w1.frozen?
                                  (((Addr.mk w'.heap.size (0 : Nat) none).add (4 : Nat)).add
                                    (Int.toNat (1 : Int) * (1 : Nat))) =
                                false ∧
                              let w1 :=
                                w1.setCell
                                  (((Addr.mk w'.heap.size (0 : Nat) none).add (4 : Nat)).add
                                    (Int.toNat (1 : Int) * (1 : Nat)))
                                  (Value.int IntKind.i64
                                    (IntKind.i64.wrap
                                      ((13 : Int) +
                                        IntKind.i64.wrap
                                          ((2 : Int) *
                                            IntKind.i64.wrap ((IntKind.i64.wrap (n0 - (13 : Int))).tdiv (8 : Int))))));
                              (w1.cell? ((Addr.mk w'.heap.size (0 : Nat) none).add (7 : Nat))).isSome = true ∧
                                w1.frozen? ((Addr.mk w'.heap.size (0 : Nat) none).add (7 : Nat)) = false ∧
                                  let w1 :=
                                    w1.setCell ((Addr.mk w'.heap.size (0 : Nat) none).add (7 : Nat))
                                      (Value.int IntKind.i64
                                        (IntKind.i64.wrap
                                          ((13 : Int) +
                                            IntKind.i64.wrap
                                              ((3 : Int) *
                                                IntKind.i64.wrap ((IntKind.i64.wrap (n0 - (13 : Int))).tdiv (8 : Int))))));
                                  ∃ (x : Int),
                                    w1.cell? ((Addr.mk w'.heap.size (0 : Nat) none).add (7 : Nat)) =
                                        some (Value.int IntKind.i64 x) ∧
                                      (w1.cell? ((Addr.mk w'.heap.size (0 : Nat) none).add (8 : Nat))).isSome = true ∧
                                        w1.frozen? ((Addr.mk w'.heap.size (0 : Nat) none).add (8 : Nat)) = false ∧
                                          let w1 :=
                                            w1.setCell ((Addr.mk w'.heap.size (0 : Nat) none).add (8 : Nat))
                                              (Value.int IntKind.i64
                                                (IntKind.i64.wrap ((IntKind.i64.wrap (n0 - x)).tdiv (32 : Int))));
                                          ∃ (x : Int × Int × Int × Int × Int × Int × Int × Int × Int),
                                            cellsAt w1 (Addr.mk w'.heap.size (0 : Nat) none)
                                                [Value.int IntKind.i64 x.fst, Value.int IntKind.i64 x.snd.fst,
                                                  Value.int IntKind.i64 x.snd.snd.fst,
                                                  Value.int IntKind.i64 x.snd.snd.snd.fst,
                                                  Value.int IntKind.i64 x.snd.snd.snd.snd.fst,
                                                  Value.int IntKind.i64 x.snd.snd.snd.snd.snd.fst,
                                                  Value.int IntKind.i64 x.snd.snd.snd.snd.snd.snd.fst,
                                                  Value.int IntKind.i64 x.snd.snd.snd.snd.snd.snd.snd.fst,
                                                  Value.int IntKind.i64 x.snd.snd.snd.snd.snd.snd.snd.snd] ∧
                                              canSt w1 (Addr.mk w.heap.size (0 : Nat) none) (9 : Nat) ∧
                                                let w1 :=
                                                  setCells w1 (Addr.mk w.heap.size (0 : Nat) none) (0 : Nat)
                                                    [Value.int IntKind.i64 x.fst, Value.int IntKind.i64 x.snd.fst,
                                                      Value.int IntKind.i64 x.snd.snd.fst,
                                                      Value.int IntKind.i64 x.snd.snd.snd.fst,
                                                      Value.int IntKind.i64 x.snd.snd.snd.snd.fst,
                                                      Value.int IntKind.i64 x.snd.snd.snd.snd.snd.fst,
                                                      Value.int IntKind.i64 x.snd.snd.snd.snd.snd.snd.fst,
                                                      Value.int IntKind.i64 x.snd.snd.snd.snd.snd.snd.snd.fst,
                                                      Value.int IntKind.i64 x.snd.snd.snd.snd.snd.snd.snd.snd];
                                                ∃ (x : Int × Int × Int × Int × Int × Int × Int × Int × Int),
                                                  cellsAt w1 (Addr.mk w.heap.size (0 : Nat) none)
                                                      [Value.int IntKind.i64 x.fst, Value.int IntKind.i64 x.snd.fst,
                                                        Value.int IntKind.i64 x.snd.snd.fst,
                                                        Value.int IntKind.i64 x.snd.snd.snd.fst,
                                                        Value.int IntKind.i64 x.snd.snd.snd.snd.fst,
                                                        Value.int IntKind.i64 x.snd.snd.snd.snd.snd.fst,
                                                        Value.int IntKind.i64 x.snd.snd.snd.snd.snd.snd.fst,
                                                        Value.int IntKind.i64 x.snd.snd.snd.snd.snd.snd.snd.fst,
                                                        Value.int IntKind.i64 x.snd.snd.snd.snd.snd.snd.snd.snd] ∧
                                                    R
                                                      ((x.fst, x.snd.fst, x.snd.snd.fst, x.snd.snd.snd.fst,
                                                          x.snd.snd.snd.snd.fst, x.snd.snd.snd.snd.snd.fst,
                                                          x.snd.snd.snd.snd.snd.snd.fst, x.snd.snd.snd.snd.snd.snd.snd.fst,
                                                          x.snd.snd.snd.snd.snd.snd.snd.snd),
                                                        (0 : Int))
                                                      w1)
  : CallT [Ty.agg
    [Sh.int IntKind.i64, Sh.int IntKind.i64, Sh.int IntKind.i64, Sh.int IntKind.i64, Sh.int IntKind.i64,
      Sh.int IntKind.i64, Sh.int IntKind.i64, Sh.int IntKind.i64, Sh.int IntKind.i64],
  Ty.one (Sh.int IntKind.i64)] Try.prog 52 [Value.int IntKind.i64 n0] w R :=
  fnV_sound (h := HT.z.sq (HT.jn [] (HT.jn [((12 : Nat), Ty.one Sh.bool)] HT.z HT.z) HT.z)) Try.func52 (by kernel_rfl) (by kernel_rfl) (Eq.mp (by kernel_rfl) h)

/-- dunnage/dunnageref05.Phys -/
theorem dunnageref05_Phys.vc (x0 : Int × Int × Int × Int × Int × Int × Int × Int × Int) (n1 : Int) (w : World) (R : Int × Bool → World → Prop)
  (h : let w1 :=
      w.alloc
        (Obj.cells
          #[Value.int IntKind.i64 x0.fst, Value.int IntKind.i64 x0.snd.fst, Value.int IntKind.i64 x0.snd.snd.fst,
            Value.int IntKind.i64 x0.snd.snd.snd.fst, Value.int IntKind.i64 x0.snd.snd.snd.snd.fst,
            Value.int IntKind.i64 x0.snd.snd.snd.snd.snd.fst, Value.int IntKind.i64 x0.snd.snd.snd.snd.snd.snd.fst,
            Value.int IntKind.i64 x0.snd.snd.snd.snd.snd.snd.snd.fst,
            Value.int IntKind.i64 x0.snd.snd.snd.snd.snd.snd.snd.snd]
          (44 : Nat));
    ∃ (R_1 : PUnit → World → Prop),
      cnd (decide (n1 < (0 : Int))) (R ((0 : Int), false) w1)
          (∃ (x : Int × Int × Int × Int × Int × Int × Int × Int × Int),
            cellsAt w1 (Addr.mk w.heap.size (0 : Nat) none)
                [Value.int IntKind.i64 x.fst, Value.int IntKind.i64 x.snd.fst, Value.int IntKind.i64 x.snd.snd.fst,
                  Value.int IntKind.i64 x.snd.snd.snd.fst, Value.int IntKind.i64 x.snd.snd.snd.snd.fst,
                  Value.int IntKind.i64 x.snd.snd.snd.snd.snd.fst, Value.int IntKind.i64 x.snd.snd.snd.snd.snd.snd.fst,
                  Value.int IntKind.i64 x.snd.snd.snd.snd.snd.snd.snd.fst,
                  Value.int IntKind.i64 x.snd.snd.snd.snd.snd.snd.snd.snd] ∧
              CallT [Ty.one (Sh.int IntKind.i64)] Try.prog (58 : Nat)
                [Value.agg
                    #[Value.int IntKind.i64 x.fst, Value.int IntKind.i64 x.snd.fst, Value.int IntKind.i64 x.snd.snd.fst,
                      Value.int IntKind.i64 x.snd.snd.snd.fst, Value.int IntKind.i64 x.snd.snd.snd.snd.fst,
                      Value.int IntKind.i64 x.snd.snd.snd.snd.snd.fst, Value.int IntKind.i64 x.snd.snd.snd.snd.snd.snd.fst,
                      Value.int IntKind.i64 x.snd.snd.snd.snd.snd.snd.snd.fst,
                      Value.int IntKind.i64 x.snd.snd.snd.snd.snd.snd.snd.snd]]
                w1 fun (x : Int) (w' : World) => cnd (decide (n1 ≥ x)) (R ((0 : Int), false) w') (R_1 () w')) ∧
        ∀ (x : PUnit) (j : Nat → Value) (w' : World),
          R_1 x w' →
            ∃ (x : Int),
              w'.cell? ((Addr.mk w.heap.size (0 : Nat) none).add (7 : Nat)) = some (Value.int IntKind.i64 x) ∧
                R
                  (IntKind.i64.wrap
                      (IntKind.i64.wrap
                          (IntKind.i64.wrap (x + IntKind.i64.wrap (IntKind.i64.wrap (n1.tdiv (31 : Int)) * (32 : Int))) +
                            (1 : Int)) +
                        n1.tmod (31 : Int)),
                    true)
                  w')
  : CallT [Ty.one (Sh.int IntKind.i64), Ty.one Sh.bool] Try.prog 53 [Value.agg
    #[Value.int IntKind.i64 x0.fst, Value.int IntKind.i64 x0.snd.fst, Value.int IntKind.i64 x0.snd.snd.fst,
      Value.int IntKind.i64 x0.snd.snd.snd.fst, Value.int IntKind.i64 x0.snd.snd.snd.snd.fst,
      Value.int IntKind.i64 x0.snd.snd.snd.snd.snd.fst, Value.int IntKind.i64 x0.snd.snd.snd.snd.snd.snd.fst,
      Value.int IntKind.i64 x0.snd.snd.snd.snd.snd.snd.snd.fst,
      Value.int IntKind.i64 x0.snd.snd.snd.snd.snd.snd.snd.snd],
  Value.int IntKind.i64 n1] w R :=
  fnV_sound (h := HT.z.sq (HT.jn [] HT.z HT.z)) Try.func53 (by kernel_rfl) (by kernel_rfl) (Eq.mp (by kernel_rfl) h)

/-- dunnage/dunnageref05.Logic -/
theorem dunnageref05_Logic.vc (x0 : Int × Int × Int × Int × Int × Int × Int × Int × Int) (n1 : Int) (w : World) (R : Int × Bool → World → Prop)
  (h : let w1 :=
      w.alloc
        (Obj.cells
          #[Value.int IntKind.i64 x0.fst, Value.int IntKind.i64 x0.snd.fst, Value.int IntKind.i64 x0.snd.snd.fst,
            Value.int IntKind.i64 x0.snd.snd.snd.fst, Value.int IntKind.i64 x0.snd.snd.snd.snd.fst,
            Value.int IntKind.i64 x0.snd.snd.snd.snd.snd.fst, Value.int IntKind.i64 x0.snd.snd.snd.snd.snd.snd.fst,
            Value.int IntKind.i64 x0.snd.snd.snd.snd.snd.snd.snd.fst,
            Value.int IntKind.i64 x0.snd.snd.snd.snd.snd.snd.snd.snd]
          (44 : Nat));
    ∃ (R_1 : PUnit → World → Prop),
      (∃ (x : Int × Int × Int × Int × Int × Int × Int × Int × Int),
          cellsAt w1 (Addr.mk w.heap.size (0 : Nat) none)
              [Value.int IntKind.i64 x.fst, Value.int IntKind.i64 x.snd.fst, Value.int IntKind.i64 x.snd.snd.fst,
                Value.int IntKind.i64 x.snd.snd.snd.fst, Value.int IntKind.i64 x.snd.snd.snd.snd.fst,
                Value.int IntKind.i64 x.snd.snd.snd.snd.snd.fst, Value.int IntKind.i64 x.snd.snd.snd.snd.snd.snd.fst,
                Value.int IntKind.i64 x.snd.snd.snd.snd.snd.snd.snd.fst,
                Value.int IntKind.i64 x.snd.snd.snd.snd.snd.snd.snd.snd] ∧
            CallT [Ty.one (Sh.int IntKind.i64)] Try.prog (55 : Nat)
              [Value.agg
                  #[Value.int IntKind.i64 x.fst, Value.int IntKind.i64 x.snd.fst, Value.int IntKind.i64 x.snd.snd.fst,
                    Value.int IntKind.i64 x.snd.snd.snd.fst, Value.int IntKind.i64 x.snd.snd.snd.snd.fst,
                    Value.int IntKind.i64 x.snd.snd.snd.snd.snd.fst, Value.int IntKind.i64 x.snd.snd.snd.snd.snd.snd.fst,
                    Value.int IntKind.i64 x.snd.snd.snd.snd.snd.snd.snd.fst,
                    Value.int IntKind.i64 x.snd.snd.snd.snd.snd.snd.snd.snd],
                Value.int IntKind.i64 n1]
              w1 fun (x : Int) (w' : World) =>
              cnd (x != (7 : Int)) (R ((0 : Int), false) w')
                (∃ (x : Int),
                  w'.cell? ((Addr.mk w.heap.size (0 : Nat) none).add (7 : Nat)) = some (Value.int IntKind.i64 x) ∧
                    cnd ((IntKind.i64.wrap (n1 - x)).tmod (32 : Int) == (0 : Int)) (R ((0 : Int), false) w') (R_1 () w'))) ∧
        ∀ (x : PUnit) (j : Nat → Value) (w' : World),
          R_1 x w' →
            ∃ (x : Int),
              w'.cell? ((Addr.mk w.heap.size (0 : Nat) none).add (7 : Nat)) = some (Value.int IntKind.i64 x) ∧
                ∃ (x_1 : Int),
                  w'.cell? ((Addr.mk w.heap.size (0 : Nat) none).add (7 : Nat)) = some (Value.int IntKind.i64 x_1) ∧
                    R
                      (IntKind.i64.wrap
                          (IntKind.i64.wrap
                              (IntKind.i64.wrap
                                  (IntKind.i64.wrap ((IntKind.i64.wrap (n1 - x)).tdiv (32 : Int)) * (31 : Int)) +
                                (IntKind.i64.wrap (n1 - x_1)).tmod (32 : Int)) -
                            (1 : Int)),
                        true)
                      w')
  : CallT [Ty.one (Sh.int IntKind.i64), Ty.one Sh.bool] Try.prog 54 [Value.agg
    #[Value.int IntKind.i64 x0.fst, Value.int IntKind.i64 x0.snd.fst, Value.int IntKind.i64 x0.snd.snd.fst,
      Value.int IntKind.i64 x0.snd.snd.snd.fst, Value.int IntKind.i64 x0.snd.snd.snd.snd.fst,
      Value.int IntKind.i64 x0.snd.snd.snd.snd.snd.fst, Value.int IntKind.i64 x0.snd.snd.snd.snd.snd.snd.fst,
      Value.int IntKind.i64 x0.snd.snd.snd.snd.snd.snd.snd.fst,
      Value.int IntKind.i64 x0.snd.snd.snd.snd.snd.snd.snd.snd],
  Value.int IntKind.i64 n1] w R :=
  fnV_sound (h := HT.z.sq (HT.jn [] HT.z HT.z)) Try.func54 (by kernel_rfl) (by kernel_rfl) (Eq.mp (by kernel_rfl) h)

/-- dunnage/dunnageref05.Region -/
theorem dunnageref05_Region.vc (x0 : Int × Int × Int × Int × Int × Int × Int × Int × Int) (n1 : Int) (w : World) (R : Int → World → Prop)
  (h : CallT [Ty.one Sh.bool] Try.prog (78 : Nat)
      [Value.int IntKind.i64 n1, Value.int IntKind.i64 (0 : Int), Value.int IntKind.i64 (2 : Int)]
      (w.alloc
        (Obj.cells
          #[Value.int IntKind.i64 x0.fst, Value.int IntKind.i64 x0.snd.fst, Value.int IntKind.i64 x0.snd.snd.fst,
            Value.int IntKind.i64 x0.snd.snd.snd.fst, Value.int IntKind.i64 x0.snd.snd.snd.snd.fst,
            Value.int IntKind.i64 x0.snd.snd.snd.snd.snd.fst, Value.int IntKind.i64 x0.snd.snd.snd.snd.snd.snd.fst,
            Value.int IntKind.i64 x0.snd.snd.snd.snd.snd.snd.snd.fst,
            Value.int IntKind.i64 x0.snd.snd.snd.snd.snd.snd.snd.snd]
          (44 : Nat)))
      fun (x : Bool) (w' : World) =>
      cnd x (R (1 : Int) w')
        (cnd (n1 == (2 : Int)) (R (2 : Int) w')
          (∃ (x : Int),
            w'.cell? ((Addr.mk w.heap.size (0 : Nat) none).add (1 : Nat)) = some (Value.int IntKind.i64 x) ∧
              CallT [Ty.one Sh.bool] Try.prog (78 : Nat)
                [Value.int IntKind.i64 n1, Value.int IntKind.i64 x, Value.int IntKind.i64 (10 : Int)] w'
                fun (x : Bool) (w' : World) =>
                cnd x (R (3 : Int) w')
                  (∃ (x : Int),
                    w'.cell? ((Addr.mk w.heap.size (0 : Nat) none).add (2 : Nat)) = some (Value.int IntKind.i64 x) ∧
                      ∃ (x_1 : Int),
                        w'.cell? ((Addr.mk w.heap.size (0 : Nat) none).add (3 : Nat)) = some (Value.int IntKind.i64 x_1) ∧
                          CallT [Ty.one Sh.bool] Try.prog (78 : Nat)
                            [Value.int IntKind.i64 n1, Value.int IntKind.i64 x, Value.int IntKind.i64 x_1] w'
                            fun (x : Bool) (w' : World) =>
                            cnd x (R (4 : Int) w')
                              ((0 : Int) ≤ (0 : Int) ∧
                                (0 : Int) < (↑(2 : Nat) : Int) ∧
                                  ∃ (x : Int),
                                    w'.cell?
                                          (((Addr.mk w.heap.size (0 : Nat) none).add (4 : Nat)).add
                                            (Int.toNat (0 : Int) * (1 : Nat))) =
                                        some (Value.int IntKind.i64 x) ∧
                                      ∃ (x_2 : Int),
                                        w'.cell? ((Addr.mk w.heap.size (0 : Nat) none).add (6 : Nat)) =
                                            some (Value.int IntKind.i64 x_2) ∧
                                          CallT [Ty.one Sh.bool] Try.prog (78 : Nat)
                                            [Value.int IntKind.i64 n1, Value.int IntKind.i64 x, Value.int IntKind.i64 x_2]
                                            w' fun (x : Bool) (w' : World) =>
                                            cnd x (R (5 : Int) w')
                                              ((0 : Int) ≤ (1 : Int) ∧
                                                (1 : Int) < (↑(2 : Nat) : Int) ∧
                                                  ∃ (x : Int),
                                                    w'.cell?
                                                          (((Addr.mk w.heap.size (0 : Nat) none).add (4 : Nat)).add
                                                            (Int.toNat (1 : Int) * (1 : Nat))) =
                                                        some (Value.int IntKind.i64 x) ∧
                                                      ∃ (x_3 : Int),
                                                        w'.cell? ((Addr.mk w.heap.size (0 : Nat) none).add (6 : Nat)) =
                                                            some (Value.int IntKind.i64 x_3) ∧
                                                          CallT [Ty.one Sh.bool] Try.prog (78 : Nat)
                                                            [Value.int IntKind.i64 n1, Value.int IntKind.i64 x,
                                                              Value.int IntKind.i64 x_3]
                                                            w' fun (x : Bool) (w' : World) =>
                                                            cnd x (R (6 : Int) w')
                                                              (∃ (x : Int),
                                                                w'.cell?
                                                                      ((Addr.mk w.heap.size (0 : Nat) none).add (7 : Nat)) =
                                                                    some (Value.int IntKind.i64 x) ∧
                                                                  ∃ (x_4 : Int),
                                                                    w'.cell?
                                                                          ((Addr.mk w.heap.size (0 : Nat) none).add
                                                                            (8 : Nat)) =
                                                                        some (Value.int IntKind.i64 x_4) ∧
                                                                      CallT [Ty.one Sh.bool] Try.prog (78 : Nat)
                                                                        [Value.int IntKind.i64 n1, Value.int IntKind.i64 x,
                                                                          Value.int IntKind.i64
                                                                            (IntKind.i64.wrap (x_4 * (32 : Int)))]
                                                                        w' fun (x : Bool) (w' : World) =>
                                                                        cnd x (R (7 : Int) w') (R (0 : Int) w'))))))))
  : CallT [Ty.one (Sh.int IntKind.i64)] Try.prog 55 [Value.agg
    #[Value.int IntKind.i64 x0.fst, Value.int IntKind.i64 x0.snd.fst, Value.int IntKind.i64 x0.snd.snd.fst,
      Value.int IntKind.i64 x0.snd.snd.snd.fst, Value.int IntKind.i64 x0.snd.snd.snd.snd.fst,
      Value.int IntKind.i64 x0.snd.snd.snd.snd.snd.fst, Value.int IntKind.i64 x0.snd.snd.snd.snd.snd.snd.fst,
      Value.int IntKind.i64 x0.snd.snd.snd.snd.snd.snd.snd.fst,
      Value.int IntKind.i64 x0.snd.snd.snd.snd.snd.snd.snd.snd],
  Value.int IntKind.i64 n1] w R :=
  fnV_sound (h := HT.z) Try.func55 (by kernel_rfl) (by kernel_rfl) (Eq.mp (by kernel_rfl) h)

/-- dunnage/layout.Segment -/
theorem layout_Segment.vc (x0 : Int × Int × Int × Int × Int × Int × Int × Int × Int) (n1 : Int) (w : World) (R : Int → World → Prop)
  (h : let w1 :=
      w.alloc
        (Obj.cells
          #[Value.int IntKind.i64 x0.fst, Value.int IntKind.i64 x0.snd.fst, Value.int IntKind.i64 x0.snd.snd.fst,
            Value.int IntKind.i64 x0.snd.snd.snd.fst, Value.int IntKind.i64 x0.snd.snd.snd.snd.fst,
            Value.int IntKind.i64 x0.snd.snd.snd.snd.snd.fst, Value.int IntKind.i64 x0.snd.snd.snd.snd.snd.snd.fst,
            Value.int IntKind.i64 x0.snd.snd.snd.snd.snd.snd.snd.fst,
            Value.int IntKind.i64 x0.snd.snd.snd.snd.snd.snd.snd.snd]
          (44 : Nat));
    cnd (decide (n1 < (0 : Int))) (R (-1 : Int) w1)
      (∃ (x : Int),
        w1.cell? ((Addr.mk w.heap.size (0 : Nat) none).add (8 : Nat)) = some (Value.int IntKind.i64 x) ∧
          cnd (decide (n1 ≥ x)) (R (-1 : Int) w1)
            (∃ (x : Int),
              w1.cell? ((Addr.mk w.heap.size (0 : Nat) none).add (7 : Nat)) = some (Value.int IntKind.i64 x) ∧
                R (IntKind.i64.wrap (x + IntKind.i64.wrap (n1 * (32 : Int)))) w1)))
  : CallT [Ty.one (Sh.int IntKind.i64)] Try.prog 56 [Value.agg
    #[Value.int IntKind.i64 x0.fst, Value.int IntKind.i64 x0.snd.fst, Value.int IntKind.i64 x0.snd.snd.fst,
      Value.int IntKind.i64 x0.snd.snd.snd.fst, Value.int IntKind.i64 x0.snd.snd.snd.snd.fst,
      Value.int IntKind.i64 x0.snd.snd.snd.snd.snd.fst, Value.int IntKind.i64 x0.snd.snd.snd.snd.snd.snd.fst,
      Value.int IntKind.i64 x0.snd.snd.snd.snd.snd.snd.snd.fst,
      Value.int IntKind.i64 x0.snd.snd.snd.snd.snd.snd.snd.snd],
  Value.int IntKind.i64 n1] w R :=
  fnV_sound (h := HT.z) Try.func56 (by kernel_rfl) (by kernel_rfl) (Eq.mp (by kernel_rfl) h)

/-- dunnage/dunnageref05.Segment -/
theorem dunnageref05_Segment.vc (x0 : Int × Int × Int × Int × Int × Int × Int × Int × Int) (n1 : Int) (w : World) (R : Int → World → Prop)
  (h : let w1 :=
      w.alloc
        (Obj.cells
          #[Value.int IntKind.i64 x0.fst, Value.int IntKind.i64 x0.snd.fst, Value.int IntKind.i64 x0.snd.snd.fst,
            Value.int IntKind.i64 x0.snd.snd.snd.fst, Value.int IntKind.i64 x0.snd.snd.snd.snd.fst,
            Value.int IntKind.i64 x0.snd.snd.snd.snd.snd.fst, Value.int IntKind.i64 x0.snd.snd.snd.snd.snd.snd.fst,
            Value.int IntKind.i64 x0.snd.snd.snd.snd.snd.snd.snd.fst,
            Value.int IntKind.i64 x0.snd.snd.snd.snd.snd.snd.snd.snd]
          (44 : Nat));
    cnd (decide (n1 < (0 : Int))) (R (-1 : Int) w1)
      (∃ (x : Int),
        w1.cell? ((Addr.mk w.heap.size (0 : Nat) none).add (8 : Nat)) = some (Value.int IntKind.i64 x) ∧
          cnd (decide (n1 ≥ x)) (R (-1 : Int) w1)
            (∃ (x : Int),
              w1.cell? ((Addr.mk w.heap.size (0 : Nat) none).add (7 : Nat)) = some (Value.int IntKind.i64 x) ∧
                R (IntKind.i64.wrap (x + IntKind.i64.wrap (n1 * (32 : Int)))) w1)))
  : CallT [Ty.one (Sh.int IntKind.i64)] Try.prog 57 [Value.agg
    #[Value.int IntKind.i64 x0.fst, Value.int IntKind.i64 x0.snd.fst, Value.int IntKind.i64 x0.snd.snd.fst,
      Value.int IntKind.i64 x0.snd.snd.snd.fst, Value.int IntKind.i64 x0.snd.snd.snd.snd.fst,
      Value.int IntKind.i64 x0.snd.snd.snd.snd.snd.fst, Value.int IntKind.i64 x0.snd.snd.snd.snd.snd.snd.fst,
      Value.int IntKind.i64 x0.snd.snd.snd.snd.snd.snd.snd.fst,
      Value.int IntKind.i64 x0.snd.snd.snd.snd.snd.snd.snd.snd],
  Value.int IntKind.i64 n1] w R :=
  fnV_sound (h := HT.z) Try.func57 (by kernel_rfl) (by kernel_rfl) (Eq.mp (by kernel_rfl) h)

/-- dunnage/dunnageref05.Capacity -/
theorem dunnageref05_Capacity.vc (x0 : Int × Int × Int × Int × Int × Int × Int × Int × Int) (w : World) (R : Int → World → Prop)
  (h : let w1 :=
      w.alloc
        (Obj.cells
          #[Value.int IntKind.i64 x0.fst, Value.int IntKind.i64 x0.snd.fst, Value.int IntKind.i64 x0.snd.snd.fst,
            Value.int IntKind.i64 x0.snd.snd.snd.fst, Value.int IntKind.i64 x0.snd.snd.snd.snd.fst,
            Value.int IntKind.i64 x0.snd.snd.snd.snd.snd.fst, Value.int IntKind.i64 x0.snd.snd.snd.snd.snd.snd.fst,
            Value.int IntKind.i64 x0.snd.snd.snd.snd.snd.snd.snd.fst,
            Value.int IntKind.i64 x0.snd.snd.snd.snd.snd.snd.snd.snd]
          (44 : Nat));
    ∃ (x : Int),
      w1.cell? ((Addr.mk w.heap.size (0 : Nat) none).add (8 : Nat)) = some (Value.int IntKind.i64 x) ∧
        R (IntKind.i64.wrap (x * (31 : Int))) w1)
  : CallT [Ty.one (Sh.int IntKind.i64)] Try.prog 58 [Value.agg
    #[Value.int IntKind.i64 x0.fst, Value.int IntKind.i64 x0.snd.fst, Value.int IntKind.i64 x0.snd.snd.fst,
      Value.int IntKind.i64 x0.snd.snd.snd.fst, Value.int IntKind.i64 x0.snd.snd.snd.snd.fst,
      Value.int IntKind.i64 x0.snd.snd.snd.snd.snd.fst, Value.int IntKind.i64 x0.snd.snd.snd.snd.snd.snd.fst,
      Value.int IntKind.i64 x0.snd.snd.snd.snd.snd.snd.snd.fst,
      Value.int IntKind.i64 x0.snd.snd.snd.snd.snd.snd.snd.snd]] w R :=
  fnV_sound (h := HT.z) Try.func58 (by kernel_rfl) (by kernel_rfl) (Eq.mp (by kernel_rfl) h)

/-- dunnage/dunnageref05.LogAt -/
theorem dunnageref05_LogAt.vc (x0 : Int × Int × Int × Int × Int × Int × Int × Int × Int) (n1 : Int) (w : World) (R : Int → World → Prop)
  (h : let w1 :=
      w.alloc
        (Obj.cells
          #[Value.int IntKind.i64 x0.fst, Value.int IntKind.i64 x0.snd.fst, Value.int IntKind.i64 x0.snd.snd.fst,
            Value.int IntKind.i64 x0.snd.snd.snd.fst, Value.int IntKind.i64 x0.snd.snd.snd.snd.fst,
            Value.int IntKind.i64 x0.snd.snd.snd.snd.snd.fst, Value.int IntKind.i64 x0.snd.snd.snd.snd.snd.snd.fst,
            Value.int IntKind.i64 x0.snd.snd.snd.snd.snd.snd.snd.fst,
            Value.int IntKind.i64 x0.snd.snd.snd.snd.snd.snd.snd.snd]
          (44 : Nat));
    ∃ (x : Int),
      w1.cell? ((Addr.mk w.heap.size (0 : Nat) none).add (3 : Nat)) = some (Value.int IntKind.i64 x) ∧
        cnd (decide (x < (1 : Int))) (R (0 : Int) w1)
          (∃ (x : Int),
            w1.drew.cell? ((Addr.mk w.heap.size (0 : Nat) none).add (2 : Nat)) = some (Value.int IntKind.i64 x) ∧
              ∃ (x_1 : Int),
                w1.drew.cell? ((Addr.mk w.heap.size (0 : Nat) none).add (3 : Nat)) = some (Value.int IntKind.i64 x_1) ∧
                  IntKind.u64.wrap x_1 ≠ (0 : Int) ∧
                    R (IntKind.i64.wrap (x + IntKind.i64.wrap (n1.tmod (IntKind.u64.wrap x_1)))) w1.drew))
  : CallT [Ty.one (Sh.int IntKind.i64)] Try.prog 59 [Value.agg
    #[Value.int IntKind.i64 x0.fst, Value.int IntKind.i64 x0.snd.fst, Value.int IntKind.i64 x0.snd.snd.fst,
      Value.int IntKind.i64 x0.snd.snd.snd.fst, Value.int IntKind.i64 x0.snd.snd.snd.snd.fst,
      Value.int IntKind.i64 x0.snd.snd.snd.snd.snd.fst, Value.int IntKind.i64 x0.snd.snd.snd.snd.snd.snd.fst,
      Value.int IntKind.i64 x0.snd.snd.snd.snd.snd.snd.snd.fst,
      Value.int IntKind.i64 x0.snd.snd.snd.snd.snd.snd.snd.snd],
  Value.int IntKind.u64 n1] w R :=
  fnV_sound (h := HT.z.sq (HT.z.sq ((HT.rg (10 : Nat)).sq HT.z))) Try.func59 (by kernel_rfl) (by kernel_rfl) (Eq.mp (by kernel_rfl) h)

/-- dunnage/word.Text -/
theorem word_Text.vc (s0 : SV) (w : World) (R : SV → World → Prop)
  (h : CallT [Ty.one Sh.slice] Try.prog (22 : Nat) [Value.int IntKind.u64 (IntKind.u64.wrap (↑s0.len : Int))] w
      fun (x : SV) (w' : World) =>
      appV Try.prog [(23 : Nat), (23 : Nat)] (23 : Nat) [Value.slice x.a x.len x.cap, Value.slice s0.a s0.len s0.cap] w'
        fun (s : SV) (w' : World) => R s w')
  : CallT [Ty.one Sh.slice] Try.prog 60 [Value.slice s0.a s0.len s0.cap] w R :=
  fnV_sound (h := HT.z) Try.func60 (by kernel_rfl) (by kernel_rfl) (Eq.mp (by kernel_rfl) h)

/-- dunnage/word.ReadText -/
theorem word_ReadText.vc (s0 : SV) (n1 : Int) (n2 : Int) (w : World) (R : SV × Int × Int → World → Prop)
  (h : CallT [Ty.one (Sh.int IntKind.u64), Ty.one (Sh.int IntKind.i64), Ty.one (Sh.int IntKind.i64)] Try.prog (39 : Nat)
      [Value.slice s0.a s0.len s0.cap, Value.int IntKind.i64 n1] w fun (x : Int × Int × Int) (w' : World) =>
      let e1 := x.snd.fst;
      let e1_1 := x.snd.snd;
      cnd (e1_1 != (0 : Int)) (R (SV.mk none (0 : Nat) (0 : Nat), (0 : Int), e1_1) w')
        (cnd (decide (x.fst > IntKind.u64.wrap (max n2 (0 : Int))))
          (R (SV.mk none (0 : Nat) (0 : Nat), (0 : Int), (4 : Int)) w')
          (cnd (decide (x.fst > IntKind.u64.wrap (IntKind.i64.wrap ((↑s0.len : Int) - e1))))
            (R (SV.mk none (0 : Nat) (0 : Nat), (0 : Int), (10 : Int)) w')
            (let e1_2 := IntKind.i64.wrap (e1 + IntKind.i64.wrap x.fst);
            (0 : Int) ≤ e1_2 ∧
              e1_2 ≤ (↑s0.cap : Int) ∧
                (0 : Int) ≤ e1 ∧
                  e1 ≤ (↑e1_2.toNat : Int) ∧
                    CallT [Ty.one Sh.slice] Try.prog (72 : Nat)
                      [Value.slice (subA s0.a e1.toNat (1 : Nat) s0.cap) (e1_2.toNat - e1.toNat) (s0.cap - e1.toNat)] w'
                      fun (x : SV) (w' : World) => R (x, e1_2, (0 : Int)) w'))))
  : CallT [Ty.one Sh.slice, Ty.one (Sh.int IntKind.i64), Ty.one (Sh.int IntKind.i64)] Try.prog 61 [Value.slice s0.a s0.len s0.cap, Value.int IntKind.i64 n1, Value.int IntKind.i64 n2] w R :=
  fnV_sound (h := HT.z) Try.func61 (by kernel_rfl) (by kernel_rfl) (Eq.mp (by kernel_rfl) h)

/-- dunnage/dunnageref01.ReadText -/
theorem dunnageref01_ReadText.vc (s0 : SV) (n1 : Int) (n2 : Int) (w : World) (R : SV × Int × Int → World → Prop)
  (h : CallT [Ty.one (Sh.int IntKind.u64), Ty.one (Sh.int IntKind.i64), Ty.one (Sh.int IntKind.i64)] Try.prog (40 : Nat)
      [Value.slice s0.a s0.len s0.cap, Value.int IntKind.i64 n1] w fun (x : Int × Int × Int) (w' : World) =>
      let e1 := x.snd.fst;
      let e1_1 := x.snd.snd;
      cnd (e1_1 != (0 : Int)) (R (SV.mk none (0 : Nat) (0 : Nat), (0 : Int), e1_1) w')
        (cnd (decide (x.fst > IntKind.u64.wrap (max (0 : Int) n2)))
          (R (SV.mk none (0 : Nat) (0 : Nat), (0 : Int), (4 : Int)) w')
          (cnd (decide (IntKind.u64.wrap (IntKind.i64.wrap ((↑s0.len : Int) - e1)) < x.fst))
            (R (SV.mk none (0 : Nat) (0 : Nat), (0 : Int), (10 : Int)) w')
            (let e1_2 := IntKind.i64.wrap (e1 + IntKind.i64.wrap x.fst);
            (0 : Int) ≤ e1_2 ∧
              e1_2 ≤ (↑s0.cap : Int) ∧
                (0 : Int) ≤ e1 ∧
                  e1 ≤ (↑e1_2.toNat : Int) ∧
                    appV Try.prog [(23 : Nat), (23 : Nat)] (23 : Nat)
                      [Value.slice none (0 : Nat) (0 : Nat),
                        Value.slice (subA s0.a e1.toNat (1 : Nat) s0.cap) (e1_2.toNat - e1.toNat) (s0.cap - e1.toNat)]
                      w' fun (s : SV) (w' : World) => R (s, IntKind.i64.wrap (e1 + IntKind.i64.wrap x.fst), (0 : Int)) w'))))
  : CallT [Ty.one Sh.slice, Ty.one (Sh.int IntKind.i64), Ty.one (Sh.int IntKind.i64)] Try.prog 62 [Value.slice s0.a s0.len s0.cap, Value.int IntKind.i64 n1, Value.int IntKind.i64 n2] w R :=
  fnV_sound (h := HT.z) Try.func62 (by kernel_rfl) (by kernel_rfl) (Eq.mp (by kernel_rfl) h)

/-- dunnage/dunnageref01.Text -/
theorem dunnageref01_Text.vc (s0 : SV) (w : World) (R : SV → World → Prop)
  (h : CallT [Ty.one Sh.slice] Try.prog (41 : Nat) [Value.int IntKind.u64 (IntKind.u64.wrap (↑s0.len : Int))] w
      fun (x : SV) (w' : World) =>
      appV Try.prog [(23 : Nat), (23 : Nat)] (23 : Nat) [Value.slice x.a x.len x.cap, Value.slice s0.a s0.len s0.cap] w'
        fun (s : SV) (w' : World) => R s w')
  : CallT [Ty.one Sh.slice] Try.prog 63 [Value.slice s0.a s0.len s0.cap] w R :=
  fnV_sound (h := HT.z) Try.func63 (by kernel_rfl) (by kernel_rfl) (Eq.mp (by kernel_rfl) h)

/-- dunnage/word.Zero -/
theorem word_Zero.vc (s0 : SV) (w : World) (R : Bool → World → Prop)
  (h : let w1 := w.alloc (Obj.cells #[Value.nilFunc] (85 : Nat));
    canSt w1 (Addr.mk w.heap.size (0 : Nat) none) (1 : Nat) ∧
      let w1 := setCells w1 (Addr.mk w.heap.size (0 : Nat) none) (0 : Nat) [Value.func (Fn.func (79 : Nat)) #[] #[]];
      ∃ (x : Value),
        cellsAt w1 (Addr.mk w.heap.size (0 : Nat) none) [x] ∧
          CallT [Ty.one (Sh.int IntKind.i64), Ty.one Sh.bool] Try.prog (71 : Nat)
            [Value.agg #[x], Value.slice s0.a s0.len s0.cap, Value.int IntKind.i64 (0 : Int)] w1
            fun (x : Int × Bool) (w' : World) => R x.snd w')
  : CallT [Ty.one Sh.bool] Try.prog 64 [Value.slice s0.a s0.len s0.cap] w R :=
  fnV_sound (h := HT.z) Try.func64 (by kernel_rfl) (by kernel_rfl) (Eq.mp (by kernel_rfl) h)

/-- dunnage/dunnageref01.Zero -/
theorem dunnageref01_Zero.vc (s0 : SV) (w : World) (R : Bool → World → Prop)
  (h : ∃ (I : Nat → Int → World → Prop),
      (∃ (n : Nat), I n (0 : Int) w) ∧
        ∀ (n : Nat) (x : Int) (j : Nat → Value) (w' : World),
          I n x w' →
            cnd (decide (x < (↑s0.len : Int)))
              ((0 : Int) ≤ x ∧
                x < (↑s0.len : Int) ∧
                  onP s0.a fun (A : Addr) =>
                    ∃ (x_1 : Int),
                      w'.cell? (A.add (x.toNat * (1 : Nat))) = some (Value.int IntKind.u8 x_1) ∧
                        cnd (x_1 != (0 : Int)) (R false w')
                          (∃ (m : Nat), m < n ∧ I m (IntKind.i64.wrap (x + (1 : Int))) w'))
              (R true w'))
  : CallT [Ty.one Sh.bool] Try.prog 65 [Value.slice s0.a s0.len s0.cap] w R :=
  fnV_sound (h := HT.z.sq ((HT.z.sq (HT.lp [((3 : Nat), Ty.one (Sh.int IntKind.i64))] HT.z).bl).sq HT.z)) Try.func65 (by kernel_rfl) (by kernel_rfl) (Eq.mp (by kernel_rfl) h)

/-- dunnage/crc.half -/
theorem crc_half.vc (n0 : Int) (w : World) (R : Int → World → Prop)
  (h : cnd (band IntKind.u32 n0 (1 : Int) != (0 : Int))
      (R (bxor IntKind.u32 (shr IntKind.u32 n0 (1 : Int)) (2197175160 : Int)) w) (R (shr IntKind.u32 n0 (1 : Int)) w))
  : CallT [Ty.one (Sh.int IntKind.u32)] Try.prog 66 [Value.int IntKind.u32 n0] w R :=
  fnV_sound (h := HT.z) Try.func66 (by kernel_rfl) (by kernel_rfl) (Eq.mp (by kernel_rfl) h)

/-- dunnage/dunnageref02.step -/
theorem dunnageref02_step.vc (n0 : Int) (w : World) (R : Int → World → Prop)
  (h : cnd (band IntKind.u32 n0 (1 : Int) == (1 : Int))
      (R (bxor IntKind.u32 (shr IntKind.u32 n0 (1 : Int)) (2197175160 : Int)) w) (R (shr IntKind.u32 n0 (1 : Int)) w))
  : CallT [Ty.one (Sh.int IntKind.u32)] Try.prog 67 [Value.int IntKind.u32 n0] w R :=
  fnV_sound (h := HT.z) Try.func67 (by kernel_rfl) (by kernel_rfl) (Eq.mp (by kernel_rfl) h)

/-- dunnage/dunnagehelp.Plain[byte] -/
theorem dunnagehelp_Plain_byte.vc (s0 : SV) (s1 : SV) (w : World) (R : Bool → World → Prop)
  (h : CallT [Ty.one Sh.bool] Try.prog (80 : Nat)
      [Value.slice s0.a s0.len s0.cap, Value.slice s1.a s1.len s1.cap, Value.func (Fn.func (81 : Nat)) #[] #[]] w
      fun (x : Bool) (w' : World) => R x w')
  : CallT [Ty.one Sh.bool] Try.prog 68 [Value.slice s0.a s0.len s0.cap, Value.slice s1.a s1.len s1.cap] w R :=
  fnV_sound (h := HT.z) Try.func68 (by kernel_rfl) (by kernel_rfl) (Eq.mp (by kernel_rfl) h)

/-- dunnage/layout.regions -/
theorem layout_regions.vc (x0 : Int × Int × Int × Int × Int × Int × Int × Int × Int) (w : World) (R : SV → World → Prop)
  (h : let w1 :=
      w.alloc
        (Obj.cells
          #[Value.int IntKind.i64 x0.fst, Value.int IntKind.i64 x0.snd.fst, Value.int IntKind.i64 x0.snd.snd.fst,
            Value.int IntKind.i64 x0.snd.snd.snd.fst, Value.int IntKind.i64 x0.snd.snd.snd.snd.fst,
            Value.int IntKind.i64 x0.snd.snd.snd.snd.snd.fst, Value.int IntKind.i64 x0.snd.snd.snd.snd.snd.snd.fst,
            Value.int IntKind.i64 x0.snd.snd.snd.snd.snd.snd.snd.fst,
            Value.int IntKind.i64 x0.snd.snd.snd.snd.snd.snd.snd.snd]
          (44 : Nat));
    ∃ (x : Int),
      w1.cell? ((Addr.mk w.heap.size (0 : Nat) none).add (1 : Nat)) = some (Value.int IntKind.i64 x) ∧
        ∃ (x_1 : Int),
          w1.cell? ((Addr.mk w.heap.size (0 : Nat) none).add (2 : Nat)) = some (Value.int IntKind.i64 x_1) ∧
            ∃ (x_2 : Int),
              w1.cell? ((Addr.mk w.heap.size (0 : Nat) none).add (3 : Nat)) = some (Value.int IntKind.i64 x_2) ∧
                (0 : Int) ≤ (0 : Int) ∧
                  (0 : Int) < (↑(2 : Nat) : Int) ∧
                    ∃ (x_3 : Int),
                      w1.cell?
                            (((Addr.mk w.heap.size (0 : Nat) none).add (4 : Nat)).add (Int.toNat (0 : Int) * (1 : Nat))) =
                          some (Value.int IntKind.i64 x_3) ∧
                        ∃ (x_4 : Int),
                          w1.cell? ((Addr.mk w.heap.size (0 : Nat) none).add (6 : Nat)) = some (Value.int IntKind.i64 x_4) ∧
                            (0 : Int) ≤ (1 : Int) ∧
                              (1 : Int) < (↑(2 : Nat) : Int) ∧
                                ∃ (x_5 : Int),
                                  w1.cell?
                                        (((Addr.mk w.heap.size (0 : Nat) none).add (4 : Nat)).add
                                          (Int.toNat (1 : Int) * (1 : Nat))) =
                                      some (Value.int IntKind.i64 x_5) ∧
                                    ∃ (x_6 : Int),
                                      w1.cell? ((Addr.mk w.heap.size (0 : Nat) none).add (6 : Nat)) =
                                          some (Value.int IntKind.i64 x_6) ∧
                                        ∃ (x_7 : Int),
                                          w1.cell? ((Addr.mk w.heap.size (0 : Nat) none).add (7 : Nat)) =
                                              some (Value.int IntKind.i64 x_7) ∧
                                            ∃ (x_8 : Int),
                                              w1.cell? ((Addr.mk w.heap.size (0 : Nat) none).add (8 : Nat)) =
                                                  some (Value.int IntKind.i64 x_8) ∧
                                                R (SV.mk (some (Addr.mk w1.heap.size (0 : Nat) none)) (7 : Nat) (7 : Nat))
                                                  (w1.alloc
                                                    (Obj.cells
                                                      #[Value.int IntKind.i64 (1 : Int), Value.int IntKind.i64 (0 : Int),
                                                        Value.int IntKind.i64 (2 : Int), Value.int IntKind.i64 (2 : Int),
                                                        Value.int IntKind.i64 (2 : Int), Value.int IntKind.i64 (1 : Int),
                                                        Value.int IntKind.i64 (3 : Int), Value.int IntKind.i64 x,
                                                        Value.int IntKind.i64 (10 : Int), Value.int IntKind.i64 (4 : Int),
                                                        Value.int IntKind.i64 x_1, Value.int IntKind.i64 x_2,
                                                        Value.int IntKind.i64 (5 : Int), Value.int IntKind.i64 x_3,
                                                        Value.int IntKind.i64 x_4, Value.int IntKind.i64 (6 : Int),
                                                        Value.int IntKind.i64 x_5, Value.int IntKind.i64 x_6,
                                                        Value.int IntKind.i64 (7 : Int), Value.int IntKind.i64 x_7,
                                                        Value.int IntKind.i64 (IntKind.i64.wrap (x_8 * (32 : Int)))]
                                                      (82 : Nat))))
  : CallT [Ty.one Sh.slice] Try.prog 69 [Value.agg
    #[Value.int IntKind.i64 x0.fst, Value.int IntKind.i64 x0.snd.fst, Value.int IntKind.i64 x0.snd.snd.fst,
      Value.int IntKind.i64 x0.snd.snd.snd.fst, Value.int IntKind.i64 x0.snd.snd.snd.snd.fst,
      Value.int IntKind.i64 x0.snd.snd.snd.snd.snd.fst, Value.int IntKind.i64 x0.snd.snd.snd.snd.snd.snd.fst,
      Value.int IntKind.i64 x0.snd.snd.snd.snd.snd.snd.snd.fst,
      Value.int IntKind.i64 x0.snd.snd.snd.snd.snd.snd.snd.snd]] w R :=
  fnV_sound (h := HT.z) Try.func69 (by kernel_rfl) (by kernel_rfl) (Eq.mp (by kernel_rfl) h)

/-- dunnage/word.ReadVar$1 -/
theorem word_ReadVar_1.vc (n0 : Int) (p1 : Option Addr) (p2 : Option Addr) (p3 : Option Addr) (w : World) (R : Bool → World → Prop)
  (h : ∃ (R_1 : PUnit → World → Prop),
      (onP p1 fun (A : Addr) =>
          ∃ (x : Int),
            w.cell? A = some (Value.int IntKind.i64 x) ∧
              cnd (x == (9 : Int))
                (cnd (decide (n0 > (1 : Int)))
                  (onP p2 fun (A : Addr) =>
                    (w.cell? A).isSome = true ∧ w.frozen? A = false ∧ R false (w.setCell A (Value.bool false)))
                  (onP p1 fun (A : Addr) =>
                    ∃ (x : Int),
                      w.cell? A = some (Value.int IntKind.i64 x) ∧
                        cnd (decide (x > (0 : Int)))
                          (cnd (n0 == (0 : Int))
                            (onP p2 fun (A : Addr) =>
                              (w.cell? A).isSome = true ∧ w.frozen? A = false ∧ R false (w.setCell A (Value.bool false)))
                            (R_1 () w))
                          (R_1 () w)))
                (onP p1 fun (A : Addr) =>
                  ∃ (x : Int),
                    w.cell? A = some (Value.int IntKind.i64 x) ∧
                      cnd (decide (x > (0 : Int)))
                        (cnd (n0 == (0 : Int))
                          (onP p2 fun (A : Addr) =>
                            (w.cell? A).isSome = true ∧ w.frozen? A = false ∧ R false (w.setCell A (Value.bool false)))
                          (R_1 () w))
                        (R_1 () w))) ∧
        ∀ (x : PUnit) (j : Nat → Value) (w' : World),
          R_1 x w' →
            onP p3 fun (A : Addr) =>
              ∃ (x : Int),
                w'.drew.cell? A = some (Value.int IntKind.u64 x) ∧
                  onP p1 fun (A : Addr) =>
                    ∃ (x_1 : Int),
                      w'.drew.cell? A = some (Value.int IntKind.i64 x_1) ∧
                        (0 : Int) ≤ IntKind.i64.wrap ((7 : Int) * x_1) ∧
                          onP p3 fun (A : Addr) =>
                            (w'.drew.cell? A).isSome = true ∧
                              w'.drew.frozen? A = false ∧
                                let w1 :=
                                  w'.drew.setCell A
                                    (Value.int IntKind.u64
                                      (bor IntKind.u64 x
                                        (shl IntKind.u64 (IntKind.u64.wrap (band IntKind.u8 n0 (127 : Int)))
                                          (IntKind.i64.wrap ((7 : Int) * x_1)))));
                                onP p1 fun (A : Addr) =>
                                  ∃ (x : Int),
                                    w1.cell? A = some (Value.int IntKind.i64 x) ∧
                                      onP p1 fun (A : Addr) =>
                                        (w1.cell? A).isSome = true ∧
                                          w1.frozen? A = false ∧
                                            R (decide (n0 ≥ (128 : Int)))
                                              (w1.setCell A (Value.int IntKind.i64 (IntKind.i64.wrap (x + (1 : Int))))))
  : CallT [Ty.one Sh.bool] Try.prog 70 [Value.int IntKind.u8 n0, Value.pointer p1, Value.pointer p2, Value.pointer p3] w R :=
  fnV_sound (h := HT.z.sq (HT.jn [] HT.z ((HT.rg (8 : Nat)).sq HT.z))) Try.func70 (by kernel_rfl) (by kernel_rfl) (Eq.mp (by kernel_rfl) h)

/-- (dunnage/word.walk).over -/
theorem word_walk_over.vc (x0 : Value) (s1 : SV) (n2 : Int) (w : World) (R : Int × Bool → World → Prop)
  (h : ∃ (I : Nat → Int → World → Prop),
      (∃ (n : Nat), I n n2 (w.alloc (Obj.cells #[x0] (85 : Nat)))) ∧
        ∀ (n : Nat) (x : Int) (j : Nat → Value) (w' : World),
          I n x w' →
            cnd (decide (x < (↑s1.len : Int)))
              (∃ (x_1 : Value),
                w'.drew.cell? ((Addr.mk w.heap.size (0 : Nat) none).add (0 : Nat)) = some x_1 ∧
                  let e1 := IntKind.i64.wrap (IntKind.i64.wrap (x + (1 : Int)) - (1 : Int));
                  (0 : Int) ≤ e1 ∧
                    e1 < (↑s1.len : Int) ∧
                      onP s1.a fun (A : Addr) =>
                        ∃ (x_2 : Int),
                          w'.drew.cell? (A.add (e1.toNat * (1 : Nat))) = some (Value.int IntKind.u8 x_2) ∧
                            callVal [Ty.one Sh.bool] Try.prog x_1 [Value.int IntKind.u8 x_2] w'.drew
                              fun (x_3 : Bool) (w' : World) =>
                              cnd (!x_3) (R (IntKind.i64.wrap (x + (1 : Int)), false) w')
                                (∃ (m : Nat), m < n ∧ I m (IntKind.i64.wrap (x + (1 : Int))) w'))
              (R (x, true) w'))
  : CallT [Ty.one (Sh.int IntKind.i64), Ty.one Sh.bool] Try.prog 71 [Value.agg #[x0], Value.slice s1.a s1.len s1.cap, Value.int IntKind.i64 n2] w R :=
  fnV_sound (h := HT.z.sq
  ((HT.lp [((2 : Nat), Ty.one (Sh.int IntKind.i64))] (HT.z.sq (HT.z.sq ((HT.rg (7 : Nat)).sq HT.z)).bl)).bl.sq HT.z)) Try.func71 (by kernel_rfl) (by kernel_rfl) (Eq.mp (by kernel_rfl) h)

/-- slices.Clone[[]byte,byte] -/
theorem slices_Clone_byte_byte.vc (s0 : SV) (w : World) (R : SV → World → Prop)
  (h : cnd s0.a.isNone (R (SV.mk none (0 : Nat) (0 : Nat)) w)
      (appV Try.prog [(23 : Nat), (23 : Nat)] (23 : Nat)
        [Value.slice (some (Addr.mk w.heap.size (0 : Nat) none)) (0 : Nat) (0 : Nat), Value.slice s0.a s0.len s0.cap]
        (w.alloc (Obj.cells #[] (5 : Nat))) fun (s : SV) (w' : World) => R s w'))
  : CallT [Ty.one Sh.slice] Try.prog 72 [Value.slice s0.a s0.len s0.cap] w R :=
  fnV_sound (h := HT.z) Try.func72 (by kernel_rfl) (by kernel_rfl) (Eq.mp (by kernel_rfl) h)

/-- dunnage/crc.times -/
theorem crc_times.vc (n0 : Int) (n1 : Int) (w : World) (R : Int → World → Prop)
  (h : ∃ (I : Nat → Int × Int × Int → World → Prop),
      (∃ (n : Nat), I n (n1, (0 : Int), (31 : Int)) w) ∧
        ∀ (n : Nat) (x : Int × Int × Int) (j : Nat → Value) (w' : World),
          I n x w' →
            let e1 := x.snd.snd;
            cnd (decide (e1 ≥ (0 : Int)))
              (∃ (R : Int → World → Prop),
                (let e1 := x.snd.snd;
                  (0 : Int) ≤ e1 ∧
                    cnd (band IntKind.u32 (shr IntKind.u32 n0 e1) (1 : Int) != (0 : Int))
                      (R (bxor IntKind.u32 x.snd.fst x.fst) w') (R x.snd.fst w')) ∧
                  ∀ (x_1 : Int) (j : Nat → Value) (w' : World),
                    R x_1 w' →
                      CallT [Ty.one (Sh.int IntKind.u32)] Try.prog (66 : Nat) [Value.int IntKind.u32 x.fst] w'
                        fun (x_2 : Int) (w' : World) =>
                        ∃ (m : Nat), m < n ∧ I m (x_2, x_1, IntKind.i64.wrap (x.snd.snd - (1 : Int))) w')
              (R x.snd.fst w'))
  : CallT [Ty.one (Sh.int IntKind.u32)] Try.prog 73 [Value.int IntKind.u32 n0, Value.int IntKind.u32 n1] w R :=
  fnV_sound (h := HT.z.sq
  (HT.z.sq
    ((HT.z.sq
          (HT.lp
              [((1 : Nat), Ty.one (Sh.int IntKind.u32)), ((5 : Nat), Ty.one (Sh.int IntKind.u32)),
                ((6 : Nat), Ty.one (Sh.int IntKind.i64))]
              (HT.z.sq ((HT.jn [((5 : Nat), Ty.one (Sh.int IntKind.u32))] HT.z HT.z).bl.sq HT.z))).bl).sq
      HT.z))) Try.func73 (by kernel_rfl) (by kernel_rfl) (Eq.mp (by kernel_rfl) h)

/-- dunnage/dunnageref02.times -/
theorem dunnageref02_times.vc (n0 : Int) (n1 : Int) (w : World) (R : Int → World → Prop)
  (h : ∃ (I : Nat → Int × Int × Int × Int → World → Prop),
      (∃ (n : Nat), I n (n0, n1, (0 : Int), (0 : Int)) w) ∧
        ∀ (n : Nat) (x : Int × Int × Int × Int) (j : Nat → Value) (w' : World),
          I n x w' →
            let e1 := x.snd.snd.snd;
            cnd (decide (e1 < (32 : Int)))
              (∃ (R : Int → World → Prop),
                cnd (band IntKind.u32 x.fst (2147483648 : Int) != (0 : Int))
                    (R (bxor IntKind.u32 x.snd.snd.fst x.snd.fst) w') (R x.snd.snd.fst w') ∧
                  ∀ (x_1 : Int) (j : Nat → Value) (w' : World),
                    R x_1 w' →
                      CallT [Ty.one (Sh.int IntKind.u32)] Try.prog (67 : Nat) [Value.int IntKind.u32 x.snd.fst] w'
                        fun (x_2 : Int) (w' : World) =>
                        ∃ (m : Nat),
                          m < n ∧
                            I m (shl IntKind.u32 x.fst (1 : Int), x_2, x_1, IntKind.i64.wrap (x.snd.snd.snd + (1 : Int)))
                              w')
              (R x.snd.snd.fst w'))
  : CallT [Ty.one (Sh.int IntKind.u32)] Try.prog 74 [Value.int IntKind.u32 n0, Value.int IntKind.u32 n1] w R :=
  fnV_sound (h := HT.z.sq
  (HT.z.sq
    ((HT.z.sq
          (HT.lp
              [((0 : Nat), Ty.one (Sh.int IntKind.u32)), ((1 : Nat), Ty.one (Sh.int IntKind.u32)),
                ((5 : Nat), Ty.one (Sh.int IntKind.u32)), ((6 : Nat), Ty.one (Sh.int IntKind.i64))]
              (HT.z.sq ((HT.jn [((5 : Nat), Ty.one (Sh.int IntKind.u32))] HT.z HT.z).bl.sq HT.z))).bl).sq
      HT.z))) Try.func74 (by kernel_rfl) (by kernel_rfl) (Eq.mp (by kernel_rfl) h)

/-- dunnage/dunnageref02.power -/
theorem dunnageref02_power.vc (n0 : Int) (w : World) (R : Int → World → Prop)
  (h : ∃ (I : Nat → Int × Int × Int → World → Prop),
      (∃ (n : Nat), I n (n0, (2147483648 : Int), (8388608 : Int)) w) ∧
        ∀ (n : Nat) (x : Int × Int × Int) (j : Nat → Value) (w' : World),
          I n x w' →
            let e1 := x.fst;
            cnd (decide (e1 > (0 : Int)))
              (∃ (R : Int → World → Prop),
                cnd (band IntKind.i64 x.fst (1 : Int) == (1 : Int))
                    (CallT [Ty.one (Sh.int IntKind.u32)] Try.prog (74 : Nat)
                      [Value.int IntKind.u32 x.snd.fst, Value.int IntKind.u32 x.snd.snd] w' fun (x : Int) (w' : World) =>
                      R x w')
                    (R x.snd.fst w') ∧
                  ∀ (x_1 : Int) (j : Nat → Value) (w' : World),
                    R x_1 w' →
                      CallT [Ty.one (Sh.int IntKind.u32)] Try.prog (74 : Nat)
                        [Value.int IntKind.u32 x.snd.snd, Value.int IntKind.u32 x.snd.snd] w'
                        fun (x_2 : Int) (w' : World) =>
                        ∃ (m : Nat), m < n ∧ I m (shr IntKind.i64 x.fst (1 : Int), x_1, x_2) w')
              (R x.snd.fst w'))
  : CallT [Ty.one (Sh.int IntKind.u32)] Try.prog 75 [Value.int IntKind.i64 n0] w R :=
  fnV_sound (h := HT.z.sq
  (HT.z.sq
    ((HT.lp
            [((0 : Nat), Ty.one (Sh.int IntKind.i64)), ((3 : Nat), Ty.one (Sh.int IntKind.u32)),
              ((4 : Nat), Ty.one (Sh.int IntKind.u32))]
            (HT.z.sq (HT.jn [((3 : Nat), Ty.one (Sh.int IntKind.u32))] HT.z HT.z).bl)).bl.sq
      HT.z))) Try.func75 (by kernel_rfl) (by kernel_rfl) (Eq.mp (by kernel_rfl) h)

/-- dunnage/dunnageref01.Fits -/
theorem dunnageref01_Fits.vc (n0 : Int) (n1 : Int) (w : World) (R : Bool → World → Prop)
  (h : cnd (decide (n1 ≥ (8 : Int))) (R true w)
      ((0 : Int) ≤ IntKind.u64.wrap ((8 : Int) * IntKind.u64.wrap n1) ∧
        R (shr IntKind.u64 n0 (IntKind.u64.wrap ((8 : Int) * IntKind.u64.wrap n1)) == (0 : Int)) w))
  : CallT [Ty.one Sh.bool] Try.prog 76 [Value.int IntKind.u64 n0, Value.int IntKind.i64 n1] w R :=
  fnV_sound (h := HT.z) Try.func76 (by kernel_rfl) (by kernel_rfl) (Eq.mp (by kernel_rfl) h)

/-- dunnage/word.Get$1 -/
theorem word_Get_1.vc (n0 : Int) (p1 : Option Addr) (p2 : Option Addr) (w : World) (R : Bool → World → Prop)
  (h : onP p1 fun (A : Addr) =>
      ∃ (x : Int),
        w.drew.cell? A = some (Value.int IntKind.u64 x) ∧
          onP p2 fun (A : Addr) =>
            ∃ (x_1 : Int),
              w.drew.cell? A = some (Value.int IntKind.i64 x_1) ∧
                (0 : Int) ≤ x_1 ∧
                  onP p1 fun (A : Addr) =>
                    (w.drew.cell? A).isSome = true ∧
                      w.drew.frozen? A = false ∧
                        let w1 :=
                          w.drew.setCell A
                            (Value.int IntKind.u64 (bor IntKind.u64 x (shl IntKind.u64 (IntKind.u64.wrap n0) x_1)));
                        onP p2 fun (A : Addr) =>
                          ∃ (x : Int),
                            w1.cell? A = some (Value.int IntKind.i64 x) ∧
                              onP p2 fun (A : Addr) =>
                                (w1.cell? A).isSome = true ∧
                                  w1.frozen? A = false ∧
                                    R true (w1.setCell A (Value.int IntKind.i64 (IntKind.i64.wrap (x + (8 : Int))))))
  : CallT [Ty.one Sh.bool] Try.prog 77 [Value.int IntKind.u8 n0, Value.pointer p1, Value.pointer p2] w R :=
  fnV_sound (h := HT.z.sq ((HT.rg (6 : Nat)).sq HT.z)) Try.func77 (by kernel_rfl) (by kernel_rfl) (Eq.mp (by kernel_rfl) h)

/-- dunnage/dunnageref05.in -/
theorem dunnageref05_in.vc (n0 : Int) (n1 : Int) (n2 : Int) (w : World) (R : Bool → World → Prop)
  (h : cnd (decide (n0 ≥ n1)) (R (decide (n0 < IntKind.i64.wrap (n1 + n2))) w) (R false w))
  : CallT [Ty.one Sh.bool] Try.prog 78 [Value.int IntKind.i64 n0, Value.int IntKind.i64 n1, Value.int IntKind.i64 n2] w R :=
  fnV_sound (h := HT.z) Try.func78 (by kernel_rfl) (by kernel_rfl) (Eq.mp (by kernel_rfl) h)

/-- dunnage/word.Zero$1 -/
theorem word_Zero_1.vc (n0 : Int) (w : World) (R : Bool → World → Prop)
  (h : R (n0 == (0 : Int)) w)
  : CallT [Ty.one Sh.bool] Try.prog 79 [Value.int IntKind.u8 n0] w R :=
  fnV_sound (h := HT.z) Try.func79 (by kernel_rfl) (by kernel_rfl) (Eq.mp (by kernel_rfl) h)

/-- dunnage/dunnagehelp.Same[byte] -/
theorem dunnagehelp_Same_byte.vc (s0 : SV) (s1 : SV) (v2 : Value) (w : World) (R : Bool → World → Prop)
  (h : cnd ((↑s0.len : Int) != (↑s1.len : Int)) (R false w)
      (∃ (I : Nat → Int → World → Prop),
        (∃ (n : Nat), I n (0 : Int) w) ∧
          ∀ (n : Nat) (x : Int) (j : Nat → Value) (w' : World),
            I n x w' →
              cnd (decide (x < (↑s0.len : Int)))
                ((0 : Int) ≤ x ∧
                  x < (↑s0.len : Int) ∧
                    onP s0.a fun (A : Addr) =>
                      ∃ (x_1 : Int),
                        w'.drew.cell? (A.add (x.toNat * (1 : Nat))) = some (Value.int IntKind.u8 x_1) ∧
                          (0 : Int) ≤ x ∧
                            x < (↑s1.len : Int) ∧
                              onP s1.a fun (A : Addr) =>
                                ∃ (x_2 : Int),
                                  w'.drew.cell? (A.add (x.toNat * (1 : Nat))) = some (Value.int IntKind.u8 x_2) ∧
                                    callVal [Ty.one Sh.bool] Try.prog v2
                                      [Value.int IntKind.u8 x_1, Value.int IntKind.u8 x_2] w'.drew
                                      fun (x_3 : Bool) (w' : World) =>
                                      cnd (!x_3) (R false w')
                                        (∃ (m : Nat), m < n ∧ I m (IntKind.i64.wrap (x + (1 : Int))) w'))
                (R true w')))
  : CallT [Ty.one Sh.bool] Try.prog 80 [Value.slice s0.a s0.len s0.cap, Value.slice s1.a s1.len s1.cap, v2] w R :=
  fnV_sound (h := HT.z.sq
  (HT.z.sq
    ((HT.z.sq
          (HT.lp [((7 : Nat), Ty.one (Sh.int IntKind.i64))] (HT.z.sq (((HT.rg (9 : Nat)).sq HT.z).bl.sq HT.z))).bl).sq
      HT.z))) Try.func80 (by kernel_rfl) (by kernel_rfl) (Eq.mp (by kernel_rfl) h)

/-- dunnage/dunnagehelp.Plain[byte]$1 -/
theorem dunnagehelp_Plain_byte_1.vc (n0 : Int) (n1 : Int) (w : World) (R : Bool → World → Prop)
  (h : R (n0 == n1) w)
  : CallT [Ty.one Sh.bool] Try.prog 81 [Value.int IntKind.u8 n0, Value.int IntKind.u8 n1] w R :=
  fnV_sound (h := HT.z) Try.func81 (by kernel_rfl) (by kernel_rfl) (Eq.mp (by kernel_rfl) h)

end Go.Proofs
