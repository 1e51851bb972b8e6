/- The conditions of the seat's functions, written by a program (VcTool, genvc.py) off 'vc' reduced; each is tied to 'vc' by the kernel. Conditions: none. -/
import Derived.Test.YtdldamlephggmaaVcSound5
import Derived.Test.YtdldamlephggmaaProg
set_option linter.unusedVariables false
set_option maxRecDepth 100000
namespace Go.Proofs
open Go Go.Vc
/-- dunnage/snaps.Pin -/
theorem snaps_Pin.vc (x0 : Int × SV) (w : World) (R : (Int × SV) × (Int × Int) × Int → World → Prop)
  (h : let w1 := w.alloc (Obj.cells #[Value.int IntKind.i64 x0.fst, Value.slice x0.snd.a x0.snd.len x0.snd.cap] (46 : Nat));
    let w1_1 := w1.alloc (Obj.cells #[Value.int IntKind.i64 (0 : Int), Value.slice none (0 : Nat) (0 : Nat)] (46 : Nat));
    let w1_2 := w1_1.alloc (Obj.cells #[Value.int IntKind.i64 (0 : Int), Value.int IntKind.i64 (0 : Int)] (49 : Nat));
    ∃ (x : Int × SV),
      cellsAt w1_2 (Addr.mk w.heap.size (0 : Nat) none)
          [Value.int IntKind.i64 x.fst, Value.slice x.snd.a x.snd.len x.snd.cap] ∧
        CallT [Ty.one (Sh.int IntKind.i64)] Try.prog (30 : Nat)
          [Value.agg #[Value.int IntKind.i64 x.fst, Value.slice x.snd.a x.snd.len x.snd.cap]] w1_2
          fun (x : Int) (w' : World) =>
          cnd (x != (0 : Int))
            (canSt w' (Addr.mk w1.heap.size (0 : Nat) none) (2 : Nat) ∧
              let w1_3 :=
                setCells w' (Addr.mk w1.heap.size (0 : Nat) none) (0 : Nat)
                  [Value.int IntKind.i64 (0 : Int), Value.slice none (0 : Nat) (0 : Nat)];
              canSt w1_3 (Addr.mk w1_1.heap.size (0 : Nat) none) (2 : Nat) ∧
                let w1_4 :=
                  setCells w1_3 (Addr.mk w1_1.heap.size (0 : Nat) none) (0 : Nat)
                    [Value.int IntKind.i64 (0 : Int), Value.int IntKind.i64 (0 : Int)];
                ∃ (x_1 : Int × SV),
                  cellsAt w1_4 (Addr.mk w1.heap.size (0 : Nat) none)
                      [Value.int IntKind.i64 x_1.fst, Value.slice x_1.snd.a x_1.snd.len x_1.snd.cap] ∧
                    ∃ (x_2 : Int × Int),
                      cellsAt w1_4 (Addr.mk w1_1.heap.size (0 : Nat) none)
                          [Value.int IntKind.i64 x_2.fst, Value.int IntKind.i64 x_2.snd] ∧
                        R ((x_1.fst, x_1.snd), (x_2.fst, x_2.snd), x) w1_4)
            (∃ (R_1 : PUnit → World → Prop),
              (∃ (R_2 : Bool → World → Prop),
                  (∃ (x : SV),
                      w'.cell? ((Addr.mk w.heap.size (0 : Nat) none).add (1 : Nat)) = some (Value.slice x.a x.len x.cap) ∧
                        cnd (decide ((↑x.len : Int) ≥ (8 : Int))) (R_2 true w')
                          (∃ (x : Int),
                            w'.cell? ((Addr.mk w.heap.size (0 : Nat) none).add (0 : Nat)) = some (Value.int IntKind.i64 x) ∧
                              R_2 (decide (x ≥ (4611686018427387904 : Int))) w')) ∧
                    ∀ (x : Bool) (j : Nat → Value) (w' : World),
                      R_2 x w' →
                        cnd x
                          (canSt w' (Addr.mk w1.heap.size (0 : Nat) none) (2 : Nat) ∧
                            let w1_3 :=
                              setCells w' (Addr.mk w1.heap.size (0 : Nat) none) (0 : Nat)
                                [Value.int IntKind.i64 (0 : Int), Value.slice none (0 : Nat) (0 : Nat)];
                            canSt w1_3 (Addr.mk w1_1.heap.size (0 : Nat) none) (2 : Nat) ∧
                              let w1_4 :=
                                setCells w1_3 (Addr.mk w1_1.heap.size (0 : Nat) none) (0 : Nat)
                                  [Value.int IntKind.i64 (0 : Int), Value.int IntKind.i64 (0 : Int)];
                              ∃ (x : Int × SV),
                                cellsAt w1_4 (Addr.mk w1.heap.size (0 : Nat) none)
                                    [Value.int IntKind.i64 x.fst, Value.slice x.snd.a x.snd.len x.snd.cap] ∧
                                  ∃ (x_1 : Int × Int),
                                    cellsAt w1_4 (Addr.mk w1_1.heap.size (0 : Nat) none)
                                        [Value.int IntKind.i64 x_1.fst, Value.int IntKind.i64 x_1.snd] ∧
                                      R ((x.fst, x.snd), (x_1.fst, x_1.snd), (3 : Int)) w1_4)
                          (R_1 () w')) ∧
                ∀ (x : PUnit) (j : Nat → Value) (w' : World),
                  R_1 x w' →
                    let w1_3 := w'.alloc (Obj.cells #[Value.int IntKind.i64 (0 : Int)] (3 : Nat));
                    (w1_3.cell? (Addr.mk w'.heap.size (0 : Nat) none)).isSome = true ∧
                      w1_3.frozen? (Addr.mk w'.heap.size (0 : Nat) none) = false ∧
                        ∃ (I : Nat → PUnit → World → Prop),
                          (∃ (n : Nat),
                              I n ()
                                (w1_3.setCell (Addr.mk w'.heap.size (0 : Nat) none) (Value.int IntKind.i64 (1 : Int)))) ∧
                            ∀ (n : Nat) (x : PUnit) (j : Nat → Value) (w'_1 : World),
                              I n x w'_1 →
                                ∃ (x : SV),
                                  w'_1.cell? ((Addr.mk w.heap.size (0 : Nat) none).add (1 : Nat)) =
                                      some (Value.slice x.a x.len x.cap) ∧
                                    CallT [Ty.one Sh.bool] Try.prog (38 : Nat)
                                      [Value.slice x.a x.len x.cap,
                                        Value.func (Fn.func (39 : Nat)) #[]
                                          #[Value.pointer (some (Addr.mk w'.heap.size (0 : Nat) none))]]
                                      w'_1 fun (x : Bool) (w'_2 : World) =>
                                      cnd x
                                        (∃ (x : Int),
                                          w'_2.cell? (Addr.mk w'.heap.size (0 : Nat) none) =
                                              some (Value.int IntKind.i64 x) ∧
                                            (w'_2.cell? (Addr.mk w'.heap.size (0 : Nat) none)).isSome = true ∧
                                              w'_2.frozen? (Addr.mk w'.heap.size (0 : Nat) none) = false ∧
                                                ∃ (m : Nat),
                                                  m < n ∧
                                                    I m ()
                                                      (w'_2.setCell (Addr.mk w'.heap.size (0 : Nat) none)
                                                        (Value.int IntKind.i64 (IntKind.i64.wrap (x + (1 : Int))))))
                                        (∃ (x : Int),
                                          w'_2.cell? ((Addr.mk w.heap.size (0 : Nat) none).add (0 : Nat)) =
                                              some (Value.int IntKind.i64 x) ∧
                                            ∃ (x_1 : Int),
                                              w'_2.cell? (Addr.mk w'.heap.size (0 : Nat) none) =
                                                  some (Value.int IntKind.i64 x_1) ∧
                                                let w1_4 :=
                                                  w'_2.alloc
                                                    (Obj.cells
                                                      #[Value.int IntKind.i64 (0 : Int), Value.int IntKind.i64 (0 : Int)]
                                                      (49 : Nat));
                                                canSt w1_4 (Addr.mk w'_2.heap.size (0 : Nat) none) (2 : Nat) ∧
                                                  let w1_5 :=
                                                    setCells w1_4 (Addr.mk w'_2.heap.size (0 : Nat) none) (0 : Nat)
                                                      [Value.int IntKind.i64 x, Value.int IntKind.i64 x_1];
                                                  ∃ (S : World → Prop),
                                                    S w1_5.drew ∧
                                                      ∃ (x : Int),
                                                        (∀ (w_1 : World),
                                                            S w_1 →
                                                              w_1.cell?
                                                                  ((Addr.mk w.heap.size (0 : Nat) none).add (0 : Nat)) =
                                                                some (Value.int IntKind.i64 x)) ∧
                                                          ∃ (x_2 : SV),
                                                            (∀ (w_1 : World),
                                                                S w_1 →
                                                                  w_1.cell?
                                                                      ((Addr.mk w.heap.size (0 : Nat) none).add (1 : Nat)) =
                                                                    some (Value.slice x_2.a x_2.len x_2.cap)) ∧
                                                              ∃ (x_3 : Int × Int),
                                                                (∀ (w : World),
                                                                    S w →
                                                                      cellsAt w (Addr.mk w'_2.heap.size (0 : Nat) none)
                                                                        [Value.int IntKind.i64 x_3.fst,
                                                                          Value.int IntKind.i64 x_3.snd]) ∧
                                                                  ∃ (x_4 : Int × Int),
                                                                    (∀ (w : World),
                                                                        S w →
                                                                          cellsAt w (Addr.mk w'_2.heap.size (0 : Nat) none)
                                                                            [Value.int IntKind.i64 x_4.fst,
                                                                              Value.int IntKind.i64 x_4.snd]) ∧
                                                                      (CallT [Ty.one Sh.slice] Try.prog (40 : Nat)
                                                                          [Value.slice x_2.a x_2.len x_2.cap] w1_5.drew
                                                                          fun (x_5 : SV) (w' : World) =>
                                                                          S w' ∧
                                                                            let w1_6 :=
                                                                              w'.alloc
                                                                                (Obj.cells
                                                                                  #[Value.int IntKind.i64 x_3.fst,
                                                                                    Value.int IntKind.i64 x_3.snd]
                                                                                  (49 : Nat));
                                                                            S w1_6 ∧
                                                                              appV Try.prog [(44 : Nat), (44 : Nat)]
                                                                                (44 : Nat)
                                                                                [Value.slice x_5.a x_5.len x_5.cap,
                                                                                  Value.slice
                                                                                    (some
                                                                                      (Addr.mk w'.heap.size (0 : Nat) none))
                                                                                    (1 : Nat) (1 : Nat)]
                                                                                w1_6 fun (s : SV) (w' : World) =>
                                                                                S w' ∧
                                                                                  canSt w'
                                                                                      (Addr.mk w1.heap.size (0 : Nat) none)
                                                                                      (2 : Nat) ∧
                                                                                    let w1_7 :=
                                                                                      setCells w'
                                                                                        (Addr.mk w1.heap.size (0 : Nat)
                                                                                          none)
                                                                                        (0 : Nat)
                                                                                        [Value.int IntKind.i64
                                                                                            (IntKind.i64.wrap
                                                                                              (x + (1 : Int))),
                                                                                          Value.slice s.a s.len s.cap];
                                                                                    S w1_7 ∧
                                                                                      canSt w1_7
                                                                                          (Addr.mk w1_1.heap.size (0 : Nat)
                                                                                            none)
                                                                                          (2 : Nat) ∧
                                                                                        let w1_8 :=
                                                                                          setCells w1_7
                                                                                            (Addr.mk w1_1.heap.size
                                                                                              (0 : Nat) none)
                                                                                            (0 : Nat)
                                                                                            [Value.int IntKind.i64 x_4.fst,
                                                                                              Value.int IntKind.i64
                                                                                                x_4.snd];
                                                                                        ∃ (x : Int × SV),
                                                                                          cellsAt w1_8
                                                                                              (Addr.mk w1.heap.size
                                                                                                (0 : Nat) none)
                                                                                              [Value.int IntKind.i64 x.fst,
                                                                                                Value.slice x.snd.a
                                                                                                  x.snd.len x.snd.cap] ∧
                                                                                            ∃ (x_6 : Int × Int),
                                                                                              cellsAt w1_8
                                                                                                  (Addr.mk w1_1.heap.size
                                                                                                    (0 : Nat) none)
                                                                                                  [Value.int IntKind.i64
                                                                                                      x_6.fst,
                                                                                                    Value.int IntKind.i64
                                                                                                      x_6.snd] ∧
                                                                                                R
                                                                                                  ((x.fst, x.snd),
                                                                                                    (x_6.fst, x_6.snd),
                                                                                                    (0 : Int))
                                                                                                  w1_8) ∧
                                                                        let w1_6 :=
                                                                          w1_5.drew.alloc
                                                                            (Obj.cells
                                                                              #[Value.int IntKind.i64 x_3.fst,
                                                                                Value.int IntKind.i64 x_3.snd]
                                                                              (49 : Nat));
                                                                        S w1_6 ∧
                                                                          CallT [Ty.one Sh.slice] Try.prog (40 : Nat)
                                                                            [Value.slice x_2.a x_2.len x_2.cap] w1_6
                                                                            fun (x_5 : SV) (w' : World) =>
                                                                            S w' ∧
                                                                              appV Try.prog [(44 : Nat), (44 : Nat)]
                                                                                (44 : Nat)
                                                                                [Value.slice x_5.a x_5.len x_5.cap,
                                                                                  Value.slice
                                                                                    (some
                                                                                      (Addr.mk w1_5.drew.heap.size (0 : Nat)
                                                                                        none))
                                                                                    (1 : Nat) (1 : Nat)]
                                                                                w' fun (s : SV) (w' : World) =>
                                                                                S w' ∧
                                                                                  canSt w'
                                                                                      (Addr.mk w1.heap.size (0 : Nat) none)
                                                                                      (2 : Nat) ∧
                                                                                    let w1_7 :=
                                                                                      setCells w'
                                                                                        (Addr.mk w1.heap.size (0 : Nat)
                                                                                          none)
                                                                                        (0 : Nat)
                                                                                        [Value.int IntKind.i64
                                                                                            (IntKind.i64.wrap
                                                                                              (x + (1 : Int))),
                                                                                          Value.slice s.a s.len s.cap];
                                                                                    S w1_7 ∧
                                                                                      canSt w1_7
                                                                                          (Addr.mk w1_1.heap.size (0 : Nat)
                                                                                            none)
                                                                                          (2 : Nat) ∧
                                                                                        let w1_8 :=
                                                                                          setCells w1_7
                                                                                            (Addr.mk w1_1.heap.size
                                                                                              (0 : Nat) none)
                                                                                            (0 : Nat)
                                                                                            [Value.int IntKind.i64 x_4.fst,
                                                                                              Value.int IntKind.i64
                                                                                                x_4.snd];
                                                                                        ∃ (x : Int × SV),
                                                                                          cellsAt w1_8
                                                                                              (Addr.mk w1.heap.size
                                                                                                (0 : Nat) none)
                                                                                              [Value.int IntKind.i64 x.fst,
                                                                                                Value.slice x.snd.a
                                                                                                  x.snd.len x.snd.cap] ∧
                                                                                            ∃ (x_6 : Int × Int),
                                                                                              cellsAt w1_8
                                                                                                  (Addr.mk w1_1.heap.size
                                                                                                    (0 : Nat) none)
                                                                                                  [Value.int IntKind.i64
                                                                                                      x_6.fst,
                                                                                                    Value.int IntKind.i64
                                                                                                      x_6.snd] ∧
                                                                                                R
                                                                                                  ((x.fst, x.snd),
                                                                                                    (x_6.fst, x_6.snd),
                                                                                                    (0 : Int))
                                                                                                  w1_8)))
  : CallT [Ty.agg [Sh.int IntKind.i64, Sh.slice], Ty.agg [Sh.int IntKind.i64, Sh.int IntKind.i64], Ty.one (Sh.int IntKind.i64)] Try.prog 23 [Value.agg #[Value.int IntKind.i64 x0.fst, Value.slice x0.snd.a x0.snd.len x0.snd.cap]] w R :=
  fnV_sound (h := HT.z.sq
  (HT.z.sq
    (HT.jn [] (HT.jn [((23 : Nat), Ty.one Sh.bool)] HT.z HT.z)
      (HT.z.sq
        ((HT.lp [] HT.z).bl.sq
          (HT.z.sq
            ((HT.dr
                  (DT.take (0 : Nat)
                    (DT.take (1 : Nat)
                      (DT.take (2 : Nat)
                        (DT.take (3 : Nat)
                          (DT.take (4 : Nat)
                            (DT.take (6 : Nat)
                              (DT.take (10 : Nat)
                                (DT.alt (5 : Nat)
                                  (DT.alt (7 : Nat)
                                    (DT.alt (8 : Nat)
                                      (DT.take (9 : Nat)
                                        (DT.alt (11 : Nat) (DT.alt (12 : Nat) (DT.take (13 : Nat) DT.fin) DT.fin)
                                          DT.fin))
                                      DT.fin)
                                    DT.fin)
                                  (DT.alt (7 : Nat)
                                    (DT.alt (5 : Nat)
                                      (DT.alt (8 : Nat)
                                        (DT.take (9 : Nat)
                                          (DT.alt (11 : Nat) (DT.alt (12 : Nat) (DT.take (13 : Nat) DT.fin) DT.fin)
                                            DT.fin))
                                        DT.fin)
                                      DT.fin)
                                    DT.fin)))))))))).sq
              HT.z))))))) Try.func23 (by kernel_rfl) (by kernel_rfl) (Eq.mp (by kernel_rfl) h)

/-- dunnage/dunnageref19.Pin -/
theorem dunnageref19_Pin.vc (x0 : Int × SV) (w : World) (R : (Int × SV) × (Int × Int) × Int → World → Prop)
  (h : let w1 := w.alloc (Obj.cells #[Value.int IntKind.i64 x0.fst, Value.slice x0.snd.a x0.snd.len x0.snd.cap] (46 : Nat));
    let w1_1 := w1.alloc (Obj.cells #[Value.int IntKind.i64 (0 : Int), Value.slice none (0 : Nat) (0 : Nat)] (46 : Nat));
    let w1_2 := w1_1.alloc (Obj.cells #[Value.int IntKind.i64 (0 : Int), Value.int IntKind.i64 (0 : Int)] (49 : Nat));
    ∃ (x : Int × SV),
      cellsAt w1_2 (Addr.mk w.heap.size (0 : Nat) none)
          [Value.int IntKind.i64 x.fst, Value.slice x.snd.a x.snd.len x.snd.cap] ∧
        CallT [Ty.one Sh.bool] Try.prog (22 : Nat)
          [Value.agg #[Value.int IntKind.i64 x.fst, Value.slice x.snd.a x.snd.len x.snd.cap]] w1_2
          fun (x : Bool) (w' : World) =>
          cnd (!x)
            (canSt w' (Addr.mk w1.heap.size (0 : Nat) none) (2 : Nat) ∧
              let w1_3 :=
                setCells w' (Addr.mk w1.heap.size (0 : Nat) none) (0 : Nat)
                  [Value.int IntKind.i64 (0 : Int), Value.slice none (0 : Nat) (0 : Nat)];
              canSt w1_3 (Addr.mk w1_1.heap.size (0 : Nat) none) (2 : Nat) ∧
                let w1_4 :=
                  setCells w1_3 (Addr.mk w1_1.heap.size (0 : Nat) none) (0 : Nat)
                    [Value.int IntKind.i64 (0 : Int), Value.int IntKind.i64 (0 : Int)];
                ∃ (x : Int × SV),
                  cellsAt w1_4 (Addr.mk w1.heap.size (0 : Nat) none)
                      [Value.int IntKind.i64 x.fst, Value.slice x.snd.a x.snd.len x.snd.cap] ∧
                    ∃ (x_1 : Int × Int),
                      cellsAt w1_4 (Addr.mk w1_1.heap.size (0 : Nat) none)
                          [Value.int IntKind.i64 x_1.fst, Value.int IntKind.i64 x_1.snd] ∧
                        R ((x.fst, x.snd), (x_1.fst, x_1.snd), (11 : Int)) w1_4)
            (∃ (R_1 : PUnit → World → Prop),
              (∃ (R_2 : Bool → World → Prop),
                  (∃ (x : SV),
                      w'.cell? ((Addr.mk w.heap.size (0 : Nat) none).add (1 : Nat)) = some (Value.slice x.a x.len x.cap) ∧
                        cnd (decide ((↑x.len : Int) ≥ (8 : Int))) (R_2 true w')
                          (∃ (x : Int),
                            w'.cell? ((Addr.mk w.heap.size (0 : Nat) none).add (0 : Nat)) = some (Value.int IntKind.i64 x) ∧
                              R_2 (x == (4611686018427387904 : Int)) w')) ∧
                    ∀ (x : Bool) (j : Nat → Value) (w' : World),
                      R_2 x w' →
                        cnd x
                          (canSt w' (Addr.mk w1.heap.size (0 : Nat) none) (2 : Nat) ∧
                            let w1_3 :=
                              setCells w' (Addr.mk w1.heap.size (0 : Nat) none) (0 : Nat)
                                [Value.int IntKind.i64 (0 : Int), Value.slice none (0 : Nat) (0 : Nat)];
                            canSt w1_3 (Addr.mk w1_1.heap.size (0 : Nat) none) (2 : Nat) ∧
                              let w1_4 :=
                                setCells w1_3 (Addr.mk w1_1.heap.size (0 : Nat) none) (0 : Nat)
                                  [Value.int IntKind.i64 (0 : Int), Value.int IntKind.i64 (0 : Int)];
                              ∃ (x : Int × SV),
                                cellsAt w1_4 (Addr.mk w1.heap.size (0 : Nat) none)
                                    [Value.int IntKind.i64 x.fst, Value.slice x.snd.a x.snd.len x.snd.cap] ∧
                                  ∃ (x_1 : Int × Int),
                                    cellsAt w1_4 (Addr.mk w1_1.heap.size (0 : Nat) none)
                                        [Value.int IntKind.i64 x_1.fst, Value.int IntKind.i64 x_1.snd] ∧
                                      R ((x.fst, x.snd), (x_1.fst, x_1.snd), (3 : Int)) w1_4)
                          (R_1 () w')) ∧
                ∀ (x : PUnit) (j : Nat → Value) (w' : World),
                  R_1 x w' →
                    ∃ (R_2 : Option Addr → World → Prop),
                      (∃ (S : World → Prop),
                          S w'.drew ∧
                            ∃ (x : Int),
                              (∀ (w_1 : World),
                                  S w_1 →
                                    w_1.cell? ((Addr.mk w.heap.size (0 : Nat) none).add (0 : Nat)) =
                                      some (Value.int IntKind.i64 x)) ∧
                                ∃ (x_1 : Int × SV),
                                  (∀ (w_1 : World),
                                      S w_1 →
                                        cellsAt w_1 (Addr.mk w.heap.size (0 : Nat) none)
                                          [Value.int IntKind.i64 x_1.fst, Value.slice x_1.snd.a x_1.snd.len x_1.snd.cap]) ∧
                                    (CallT [Ty.one (Sh.int IntKind.i64)] Try.prog (41 : Nat)
                                        [Value.agg
                                            #[Value.int IntKind.i64 x_1.fst, Value.slice x_1.snd.a x_1.snd.len x_1.snd.cap]]
                                        w'.drew fun (x_2 : Int) (w' : World) =>
                                        S w' ∧
                                          let w1 :=
                                            w'.alloc
                                              (Obj.cells #[Value.int IntKind.i64 (0 : Int), Value.int IntKind.i64 (0 : Int)]
                                                (49 : Nat));
                                          S w1 ∧
                                            canSt w1 (Addr.mk w'.heap.size (0 : Nat) none) (2 : Nat) ∧
                                              R_2 (some (Addr.mk w'.heap.size (0 : Nat) none))
                                                (setCells w1 (Addr.mk w'.heap.size (0 : Nat) none) (0 : Nat)
                                                  [Value.int IntKind.i64 x, Value.int IntKind.i64 x_2])) ∧
                                      let w1 :=
                                        w'.drew.alloc
                                          (Obj.cells #[Value.int IntKind.i64 (0 : Int), Value.int IntKind.i64 (0 : Int)]
                                            (49 : Nat));
                                      S w1 ∧
                                        CallT [Ty.one (Sh.int IntKind.i64)] Try.prog (41 : Nat)
                                          [Value.agg
                                              #[Value.int IntKind.i64 x_1.fst,
                                                Value.slice x_1.snd.a x_1.snd.len x_1.snd.cap]]
                                          w1 fun (x_2 : Int) (w'_1 : World) =>
                                          S w'_1 ∧
                                            canSt w'_1 (Addr.mk w'.drew.heap.size (0 : Nat) none) (2 : Nat) ∧
                                              R_2 (some (Addr.mk w'.drew.heap.size (0 : Nat) none))
                                                (setCells w'_1 (Addr.mk w'.drew.heap.size (0 : Nat) none) (0 : Nat)
                                                  [Value.int IntKind.i64 x, Value.int IntKind.i64 x_2])) ∧
                        ∀ (x : Option Addr) (j : Nat → Value) (w' : World),
                          R_2 x w' →
                            ∃ (S : World → Prop),
                              S w'.drew ∧
                                ∃ (x_1 : Int),
                                  (∀ (w_1 : World),
                                      S w_1 →
                                        w_1.cell? ((Addr.mk w.heap.size (0 : Nat) none).add (0 : Nat)) =
                                          some (Value.int IntKind.i64 x_1)) ∧
                                    ∃ (x_2 : SV),
                                      (∀ (w_1 : World),
                                          S w_1 →
                                            w_1.cell? ((Addr.mk w.heap.size (0 : Nat) none).add (1 : Nat)) =
                                              some (Value.slice x_2.a x_2.len x_2.cap)) ∧
                                        onP x fun (A : Addr) =>
                                          ∃ (x_3 : Int × Int),
                                            (∀ (w : World),
                                                S w →
                                                  cellsAt w A
                                                    [Value.int IntKind.i64 x_3.fst, Value.int IntKind.i64 x_3.snd]) ∧
                                              onP x fun (A : Addr) =>
                                                ∃ (x : Int × Int),
                                                  (∀ (w : World),
                                                      S w →
                                                        cellsAt w A
                                                          [Value.int IntKind.i64 x.fst, Value.int IntKind.i64 x.snd]) ∧
                                                    (appV Try.prog [(44 : Nat), (44 : Nat)] (44 : Nat)
                                                        [Value.slice none (0 : Nat) (0 : Nat),
                                                          Value.slice x_2.a x_2.len x_2.cap]
                                                        w'.drew fun (s : SV) (w' : World) =>
                                                        S w' ∧
                                                          let w1_3 :=
                                                            w'.alloc
                                                              (Obj.cells
                                                                #[Value.int IntKind.i64 x_3.fst,
                                                                  Value.int IntKind.i64 x_3.snd]
                                                                (49 : Nat));
                                                          S w1_3 ∧
                                                            appV Try.prog [(44 : Nat), (44 : Nat)] (44 : Nat)
                                                              [Value.slice s.a s.len s.cap,
                                                                Value.slice (some (Addr.mk w'.heap.size (0 : Nat) none))
                                                                  (1 : Nat) (1 : Nat)]
                                                              w1_3 fun (s : SV) (w' : World) =>
                                                              S w' ∧
                                                                canSt w' (Addr.mk w1.heap.size (0 : Nat) none) (2 : Nat) ∧
                                                                  let w1_4 :=
                                                                    setCells w' (Addr.mk w1.heap.size (0 : Nat) none)
                                                                      (0 : Nat)
                                                                      [Value.int IntKind.i64
                                                                          (IntKind.i64.wrap (x_1 + (1 : Int))),
                                                                        Value.slice s.a s.len s.cap];
                                                                  S w1_4 ∧
                                                                    canSt w1_4 (Addr.mk w1_1.heap.size (0 : Nat) none)
                                                                        (2 : Nat) ∧
                                                                      let w1_5 :=
                                                                        setCells w1_4
                                                                          (Addr.mk w1_1.heap.size (0 : Nat) none) (0 : Nat)
                                                                          [Value.int IntKind.i64 x.fst,
                                                                            Value.int IntKind.i64 x.snd];
                                                                      ∃ (x : Int × SV),
                                                                        cellsAt w1_5 (Addr.mk w1.heap.size (0 : Nat) none)
                                                                            [Value.int IntKind.i64 x.fst,
                                                                              Value.slice x.snd.a x.snd.len x.snd.cap] ∧
                                                                          ∃ (x_4 : Int × Int),
                                                                            cellsAt w1_5
                                                                                (Addr.mk w1_1.heap.size (0 : Nat) none)
                                                                                [Value.int IntKind.i64 x_4.fst,
                                                                                  Value.int IntKind.i64 x_4.snd] ∧
                                                                              R
                                                                                ((x.fst, x.snd), (x_4.fst, x_4.snd),
                                                                                  (0 : Int))
                                                                                w1_5) ∧
                                                      let w1_3 :=
                                                        w'.drew.alloc
                                                          (Obj.cells
                                                            #[Value.int IntKind.i64 x_3.fst, Value.int IntKind.i64 x_3.snd]
                                                            (49 : Nat));
                                                      S w1_3 ∧
                                                        appV Try.prog [(44 : Nat), (44 : Nat)] (44 : Nat)
                                                          [Value.slice none (0 : Nat) (0 : Nat),
                                                            Value.slice x_2.a x_2.len x_2.cap]
                                                          w1_3 fun (s : SV) (w'_1 : World) =>
                                                          S w'_1 ∧
                                                            appV Try.prog [(44 : Nat), (44 : Nat)] (44 : Nat)
                                                              [Value.slice s.a s.len s.cap,
                                                                Value.slice
                                                                  (some (Addr.mk w'.drew.heap.size (0 : Nat) none))
                                                                  (1 : Nat) (1 : Nat)]
                                                              w'_1 fun (s : SV) (w' : World) =>
                                                              S w' ∧
                                                                canSt w' (Addr.mk w1.heap.size (0 : Nat) none) (2 : Nat) ∧
                                                                  let w1_4 :=
                                                                    setCells w' (Addr.mk w1.heap.size (0 : Nat) none)
                                                                      (0 : Nat)
                                                                      [Value.int IntKind.i64
                                                                          (IntKind.i64.wrap (x_1 + (1 : Int))),
                                                                        Value.slice s.a s.len s.cap];
                                                                  S w1_4 ∧
                                                                    canSt w1_4 (Addr.mk w1_1.heap.size (0 : Nat) none)
                                                                        (2 : Nat) ∧
                                                                      let w1_5 :=
                                                                        setCells w1_4
                                                                          (Addr.mk w1_1.heap.size (0 : Nat) none) (0 : Nat)
                                                                          [Value.int IntKind.i64 x.fst,
                                                                            Value.int IntKind.i64 x.snd];
                                                                      ∃ (x : Int × SV),
                                                                        cellsAt w1_5 (Addr.mk w1.heap.size (0 : Nat) none)
                                                                            [Value.int IntKind.i64 x.fst,
                                                                              Value.slice x.snd.a x.snd.len x.snd.cap] ∧
                                                                          ∃ (x_4 : Int × Int),
                                                                            cellsAt w1_5
                                                                                (Addr.mk w1_1.heap.size (0 : Nat) none)
                                                                                [Value.int IntKind.i64 x_4.fst,
                                                                                  Value.int IntKind.i64 x_4.snd] ∧
                                                                              R
                                                                                ((x.fst, x.snd), (x_4.fst, x_4.snd),
                                                                                  (0 : Int))
                                                                                w1_5))
  : CallT [Ty.agg [Sh.int IntKind.i64, Sh.slice], Ty.agg [Sh.int IntKind.i64, Sh.int IntKind.i64], Ty.one (Sh.int IntKind.i64)] Try.prog 24 [Value.agg #[Value.int IntKind.i64 x0.fst, Value.slice x0.snd.a x0.snd.len x0.snd.cap]] w R :=
  fnV_sound (h := HT.z.sq
  (HT.z.sq
    (HT.jn [] (HT.jn [((19 : Nat), Ty.one Sh.bool)] HT.z HT.z)
      (HT.jn [((5 : Nat), Ty.one Sh.ptr)]
        (HT.dr
          (DT.take (0 : Nat)
            (DT.take (1 : Nat)
              (DT.take (2 : Nat)
                (DT.alt (3 : Nat) (DT.take (4 : Nat) (DT.alt (5 : Nat) (DT.alt (6 : Nat) DT.fin DT.fin) DT.fin))
                  (DT.alt (5 : Nat) (DT.alt (3 : Nat) (DT.take (4 : Nat) (DT.alt (6 : Nat) DT.fin DT.fin)) DT.fin)
                    DT.fin))))))
        ((HT.dr
              (DT.take (0 : Nat)
                (DT.take (1 : Nat)
                  (DT.take (2 : Nat)
                    (DT.take (3 : Nat)
                      (DT.take (4 : Nat)
                        (DT.take (6 : Nat)
                          (DT.take (10 : Nat)
                            (DT.alt (5 : Nat)
                              (DT.alt (7 : Nat)
                                (DT.alt (8 : Nat)
                                  (DT.take (9 : Nat)
                                    (DT.alt (11 : Nat) (DT.alt (12 : Nat) (DT.take (13 : Nat) DT.fin) DT.fin) DT.fin))
                                  DT.fin)
                                DT.fin)
                              (DT.alt (7 : Nat)
                                (DT.alt (5 : Nat)
                                  (DT.alt (8 : Nat)
                                    (DT.take (9 : Nat)
                                      (DT.alt (11 : Nat) (DT.alt (12 : Nat) (DT.take (13 : Nat) DT.fin) DT.fin) DT.fin))
                                    DT.fin)
                                  DT.fin)
                                DT.fin)))))))))).sq
          HT.z))))) Try.func24 (by kernel_rfl) (by kernel_rfl) (Eq.mp (by kernel_rfl) h)

/-- dunnage/snaps.Release -/
theorem snaps_Release.vc (x0 : Int × SV) (n1 : Int) (w : World) (R : (Int × SV) × Int × Int → World → Prop)
  (h : let w1 := w.alloc (Obj.cells #[Value.int IntKind.i64 x0.fst, Value.slice x0.snd.a x0.snd.len x0.snd.cap] (46 : Nat));
    let w1_1 := w1.alloc (Obj.cells #[Value.int IntKind.i64 n1] (3 : Nat));
    let w1_2 := w1_1.alloc (Obj.cells #[Value.int IntKind.i64 (0 : Int), Value.slice none (0 : Nat) (0 : Nat)] (46 : Nat));
    ∃ (x : Int × SV),
      cellsAt w1_2 (Addr.mk w.heap.size (0 : Nat) none)
          [Value.int IntKind.i64 x.fst, Value.slice x.snd.a x.snd.len x.snd.cap] ∧
        CallT [Ty.one (Sh.int IntKind.i64)] Try.prog (30 : Nat)
          [Value.agg #[Value.int IntKind.i64 x.fst, Value.slice x.snd.a x.snd.len x.snd.cap]] w1_2
          fun (x : Int) (w' : World) =>
          cnd (x != (0 : Int))
            (canSt w' (Addr.mk w1_1.heap.size (0 : Nat) none) (2 : Nat) ∧
              let w1 :=
                setCells w' (Addr.mk w1_1.heap.size (0 : Nat) none) (0 : Nat)
                  [Value.int IntKind.i64 (0 : Int), Value.slice none (0 : Nat) (0 : Nat)];
              ∃ (x_1 : Int × SV),
                cellsAt w1 (Addr.mk w1_1.heap.size (0 : Nat) none)
                    [Value.int IntKind.i64 x_1.fst, Value.slice x_1.snd.a x_1.snd.len x_1.snd.cap] ∧
                  R ((x_1.fst, x_1.snd), (0 : Int), x) w1)
            (∃ (x : Int × SV),
              cellsAt w' (Addr.mk w.heap.size (0 : Nat) none)
                  [Value.int IntKind.i64 x.fst, Value.slice x.snd.a x.snd.len x.snd.cap] ∧
                ∃ (x_1 : Int),
                  w'.cell? (Addr.mk w1.heap.size (0 : Nat) none) = some (Value.int IntKind.i64 x_1) ∧
                    CallT [Ty.one (Sh.int IntKind.i64), Ty.one Sh.bool] Try.prog (27 : Nat)
                      [Value.agg #[Value.int IntKind.i64 x.fst, Value.slice x.snd.a x.snd.len x.snd.cap],
                        Value.int IntKind.i64 x_1]
                      w' fun (x : Int × Bool) (w' : World) =>
                      cnd (!x.snd)
                        (canSt w' (Addr.mk w1_1.heap.size (0 : Nat) none) (2 : Nat) ∧
                          let w1 :=
                            setCells w' (Addr.mk w1_1.heap.size (0 : Nat) none) (0 : Nat)
                              [Value.int IntKind.i64 (0 : Int), Value.slice none (0 : Nat) (0 : Nat)];
                          ∃ (x : Int × SV),
                            cellsAt w1 (Addr.mk w1_1.heap.size (0 : Nat) none)
                                [Value.int IntKind.i64 x.fst, Value.slice x.snd.a x.snd.len x.snd.cap] ∧
                              R ((x.fst, x.snd), (0 : Int), (6 : Int)) w1)
                        (∃ (x_2 : SV),
                          w'.cell? ((Addr.mk w.heap.size (0 : Nat) none).add (1 : Nat)) =
                              some (Value.slice x_2.a x_2.len x_2.cap) ∧
                            CallT [Ty.one Sh.slice] Try.prog (40 : Nat) [Value.slice x_2.a x_2.len x_2.cap] w'
                              fun (x_3 : SV) (w' : World) =>
                              CallT [Ty.one Sh.slice] Try.prog (42 : Nat)
                                [Value.slice x_3.a x_3.len x_3.cap,
                                  Value.func (Fn.func (43 : Nat)) #[]
                                    #[Value.pointer (some (Addr.mk w1.heap.size (0 : Nat) none))]]
                                w' fun (x_4 : SV) (w' : World) =>
                                ∃ (x_5 : Int),
                                  w'.cell? ((Addr.mk w.heap.size (0 : Nat) none).add (0 : Nat)) =
                                      some (Value.int IntKind.i64 x_5) ∧
                                    canSt w' (Addr.mk w1_1.heap.size (0 : Nat) none) (2 : Nat) ∧
                                      let w1 :=
                                        setCells w' (Addr.mk w1_1.heap.size (0 : Nat) none) (0 : Nat)
                                          [Value.int IntKind.i64 x_5, Value.slice x_4.a x_4.len x_4.cap];
                                      ∃ (x_6 : Int × SV),
                                        cellsAt w1 (Addr.mk w1_1.heap.size (0 : Nat) none)
                                            [Value.int IntKind.i64 x_6.fst, Value.slice x_6.snd.a x_6.snd.len x_6.snd.cap] ∧
                                          R ((x_6.fst, x_6.snd), x.fst, (0 : Int)) w1)))
  : CallT [Ty.agg [Sh.int IntKind.i64, Sh.slice], Ty.one (Sh.int IntKind.i64), Ty.one (Sh.int IntKind.i64)] Try.prog 25 [Value.agg #[Value.int IntKind.i64 x0.fst, Value.slice x0.snd.a x0.snd.len x0.snd.cap], Value.int IntKind.i64 n1] w R :=
  fnV_sound (h := HT.z) Try.func25 (by kernel_rfl) (by kernel_rfl) (Eq.mp (by kernel_rfl) h)

/-- dunnage/dunnageref19.Release -/
theorem dunnageref19_Release.vc (x0 : Int × SV) (n1 : Int) (w : World) (R : (Int × SV) × Int × Int → World → Prop)
  (h : let w1 := w.alloc (Obj.cells #[Value.int IntKind.i64 x0.fst, Value.slice x0.snd.a x0.snd.len x0.snd.cap] (46 : Nat));
    let w1_1 := w1.alloc (Obj.cells #[Value.int IntKind.i64 (0 : Int), Value.slice none (0 : Nat) (0 : Nat)] (46 : Nat));
    ∃ (x : Int × SV),
      cellsAt w1_1 (Addr.mk w.heap.size (0 : Nat) none)
          [Value.int IntKind.i64 x.fst, Value.slice x.snd.a x.snd.len x.snd.cap] ∧
        CallT [Ty.one Sh.bool] Try.prog (22 : Nat)
          [Value.agg #[Value.int IntKind.i64 x.fst, Value.slice x.snd.a x.snd.len x.snd.cap]] w1_1
          fun (x : Bool) (w' : World) =>
          cnd (!x)
            (canSt w' (Addr.mk w1.heap.size (0 : Nat) none) (2 : Nat) ∧
              let w1_2 :=
                setCells w' (Addr.mk w1.heap.size (0 : Nat) none) (0 : Nat)
                  [Value.int IntKind.i64 (0 : Int), Value.slice none (0 : Nat) (0 : Nat)];
              ∃ (x : Int × SV),
                cellsAt w1_2 (Addr.mk w1.heap.size (0 : Nat) none)
                    [Value.int IntKind.i64 x.fst, Value.slice x.snd.a x.snd.len x.snd.cap] ∧
                  R ((x.fst, x.snd), (0 : Int), (11 : Int)) w1_2)
            (∃ (x : Int × SV),
              cellsAt w' (Addr.mk w.heap.size (0 : Nat) none)
                  [Value.int IntKind.i64 x.fst, Value.slice x.snd.a x.snd.len x.snd.cap] ∧
                CallT [Ty.one (Sh.int IntKind.i64), Ty.one Sh.bool] Try.prog (28 : Nat)
                  [Value.agg #[Value.int IntKind.i64 x.fst, Value.slice x.snd.a x.snd.len x.snd.cap],
                    Value.int IntKind.i64 n1]
                  w' fun (x : Int × Bool) (w' : World) =>
                  cnd (!x.snd)
                    (canSt w' (Addr.mk w1.heap.size (0 : Nat) none) (2 : Nat) ∧
                      let w1_2 :=
                        setCells w' (Addr.mk w1.heap.size (0 : Nat) none) (0 : Nat)
                          [Value.int IntKind.i64 (0 : Int), Value.slice none (0 : Nat) (0 : Nat)];
                      ∃ (x : Int × SV),
                        cellsAt w1_2 (Addr.mk w1.heap.size (0 : Nat) none)
                            [Value.int IntKind.i64 x.fst, Value.slice x.snd.a x.snd.len x.snd.cap] ∧
                          R ((x.fst, x.snd), (0 : Int), (6 : Int)) w1_2)
                    (∃ (I : Nat → SV × Int → World → Prop),
                      (∃ (n : Nat), I n (SV.mk none (0 : Nat) (0 : Nat), (0 : Int)) w') ∧
                        ∀ (n : Nat) (x_1 : SV × Int) (j : Nat → Value) (w' : World),
                          I n x_1 w' →
                            let e1 := x_1.snd;
                            ∃ (x_2 : SV),
                              w'.cell? ((Addr.mk w.heap.size (0 : Nat) none).add (1 : Nat)) =
                                  some (Value.slice x_2.a x_2.len x_2.cap) ∧
                                cnd (decide (e1 < (↑x_2.len : Int)))
                                  (∃ (x : SV),
                                    w'.cell? ((Addr.mk w.heap.size (0 : Nat) none).add (1 : Nat)) =
                                        some (Value.slice x.a x.len x.cap) ∧
                                      let e1 := x_1.snd;
                                      (0 : Int) ≤ e1 ∧
                                        e1 < (↑x.len : Int) ∧
                                          onP x.a fun (A : Addr) =>
                                            ∃ (x : Int),
                                              w'.cell? ((A.add (e1.toNat * (2 : Nat))).add (0 : Nat)) =
                                                  some (Value.int IntKind.i64 x) ∧
                                                cnd (x != n1)
                                                  (∃ (x : SV),
                                                    w'.cell? ((Addr.mk w.heap.size (0 : Nat) none).add (1 : Nat)) =
                                                        some (Value.slice x.a x.len x.cap) ∧
                                                      let e1 := x_1.snd;
                                                      (0 : Int) ≤ e1 ∧
                                                        e1 < (↑x.len : Int) ∧
                                                          onP x.a fun (A : Addr) =>
                                                            ∃ (x : Int × Int),
                                                              cellsAt w' (A.add (e1.toNat * (2 : Nat)))
                                                                  [Value.int IntKind.i64 x.fst,
                                                                    Value.int IntKind.i64 x.snd] ∧
                                                                appV Try.prog [(44 : Nat), (44 : Nat)] (44 : Nat)
                                                                  [Value.slice x_1.fst.a x_1.fst.len x_1.fst.cap,
                                                                    Value.slice (some (Addr.mk w'.heap.size (0 : Nat) none))
                                                                      (1 : Nat) (1 : Nat)]
                                                                  (w'.alloc
                                                                    (Obj.cells
                                                                      #[Value.int IntKind.i64 x.fst,
                                                                        Value.int IntKind.i64 x.snd]
                                                                      (49 : Nat)))
                                                                  fun (s : SV) (w' : World) =>
                                                                  ∃ (m : Nat),
                                                                    m < n ∧
                                                                      I m (s, IntKind.i64.wrap (x_1.snd + (1 : Int))) w')
                                                  (∃ (m : Nat),
                                                    m < n ∧ I m (x_1.fst, IntKind.i64.wrap (x_1.snd + (1 : Int))) w'))
                                  (∃ (x_3 : Int),
                                    w'.cell? ((Addr.mk w.heap.size (0 : Nat) none).add (0 : Nat)) =
                                        some (Value.int IntKind.i64 x_3) ∧
                                      canSt w' (Addr.mk w1.heap.size (0 : Nat) none) (2 : Nat) ∧
                                        let w1_2 :=
                                          setCells w' (Addr.mk w1.heap.size (0 : Nat) none) (0 : Nat)
                                            [Value.int IntKind.i64 x_3, Value.slice x_1.fst.a x_1.fst.len x_1.fst.cap];
                                        ∃ (x_4 : Int × SV),
                                          cellsAt w1_2 (Addr.mk w1.heap.size (0 : Nat) none)
                                              [Value.int IntKind.i64 x_4.fst,
                                                Value.slice x_4.snd.a x_4.snd.len x_4.snd.cap] ∧
                                            R ((x_4.fst, x_4.snd), x.fst, (0 : Int)) w1_2))))
  : CallT [Ty.agg [Sh.int IntKind.i64, Sh.slice], Ty.one (Sh.int IntKind.i64), Ty.one (Sh.int IntKind.i64)] Try.prog 26 [Value.agg #[Value.int IntKind.i64 x0.fst, Value.slice x0.snd.a x0.snd.len x0.snd.cap], Value.int IntKind.i64 n1] w R :=
  fnV_sound (h := HT.z.sq
  (HT.z.sq
    (HT.z.sq
      (HT.z.sq
        (HT.z.sq
          ((HT.z.sq (HT.lp [((9 : Nat), Ty.one Sh.slice), ((10 : Nat), Ty.one (Sh.int IntKind.i64))] HT.z).bl).sq
            HT.z)))))) Try.func26 (by kernel_rfl) (by kernel_rfl) (Eq.mp (by kernel_rfl) h)

/-- dunnage/snaps.Root -/
theorem snaps_Root.vc (x0 : Int × SV) (n1 : Int) (w : World) (R : Int × Bool → World → Prop)
  (h : let w1 := w.alloc (Obj.cells #[Value.int IntKind.i64 x0.fst, Value.slice x0.snd.a x0.snd.len x0.snd.cap] (46 : Nat));
    ∃ (x : Int × SV),
      cellsAt w1 (Addr.mk w.heap.size (0 : Nat) none)
          [Value.int IntKind.i64 x.fst, Value.slice x.snd.a x.snd.len x.snd.cap] ∧
        CallT [Ty.one (Sh.int IntKind.i64)] Try.prog (30 : Nat)
          [Value.agg #[Value.int IntKind.i64 x.fst, Value.slice x.snd.a x.snd.len x.snd.cap]] w1
          fun (x : Int) (w' : World) =>
          cnd (x != (0 : Int)) (R ((0 : Int), false) w')
            (∃ (x : SV),
              w'.cell? ((Addr.mk w.heap.size (0 : Nat) none).add (1 : Nat)) = some (Value.slice x.a x.len x.cap) ∧
                ∃ (I : Nat → Int → World → Prop),
                  (∃ (n : Nat), I n (0 : Int) w') ∧
                    ∀ (n : Nat) (x_1 : Int) (j : Nat → Value) (w' : World),
                      I n x_1 w' →
                        cnd (decide (x_1 < (↑x.len : Int)))
                          ((0 : Int) ≤ x_1 ∧
                            x_1 < (↑x.len : Int) ∧
                              onP x.a fun (A : Addr) =>
                                ∃ (x : Int × Int),
                                  cellsAt w' (A.add (x_1.toNat * (2 : Nat)))
                                      [Value.int IntKind.i64 x.fst, Value.int IntKind.i64 x.snd] ∧
                                    let w1 :=
                                      w'.alloc
                                        (Obj.cells #[Value.int IntKind.i64 (0 : Int), Value.int IntKind.i64 (0 : Int)]
                                          (49 : Nat));
                                    canSt w1 (Addr.mk w'.heap.size (0 : Nat) none) (2 : Nat) ∧
                                      let w1 :=
                                        setCells w1 (Addr.mk w'.heap.size (0 : Nat) none) (0 : Nat)
                                          [Value.int IntKind.i64 x.fst, Value.int IntKind.i64 x.snd];
                                      ∃ (x : Int),
                                        w1.cell? ((Addr.mk w'.heap.size (0 : Nat) none).add (0 : Nat)) =
                                            some (Value.int IntKind.i64 x) ∧
                                          cnd (x == n1)
                                            (∃ (x : Int),
                                              w1.cell? ((Addr.mk w'.heap.size (0 : Nat) none).add (1 : Nat)) =
                                                  some (Value.int IntKind.i64 x) ∧
                                                R (x, true) w1)
                                            (∃ (m : Nat), m < n ∧ I m (IntKind.i64.wrap (x_1 + (1 : Int))) w1))
                          (R ((0 : Int), false) w')))
  : CallT [Ty.one (Sh.int IntKind.i64), Ty.one Sh.bool] Try.prog 27 [Value.agg #[Value.int IntKind.i64 x0.fst, Value.slice x0.snd.a x0.snd.len x0.snd.cap], Value.int IntKind.i64 n1] w R :=
  fnV_sound (h := HT.z.sq (HT.z.sq ((HT.z.sq (HT.lp [((14 : Nat), Ty.one (Sh.int IntKind.i64))] HT.z).bl).sq HT.z))) Try.func27 (by kernel_rfl) (by kernel_rfl) (Eq.mp (by kernel_rfl) h)

/-- dunnage/dunnageref19.Root -/
theorem dunnageref19_Root.vc (x0 : Int × SV) (n1 : Int) (w : World) (R : Int × Bool → World → Prop)
  (h : ∃ (I : Nat → Int → World → Prop),
      (∃ (n : Nat),
          I n (0 : Int)
            (w.alloc (Obj.cells #[Value.int IntKind.i64 x0.fst, Value.slice x0.snd.a x0.snd.len x0.snd.cap] (46 : Nat)))) ∧
        ∀ (n : Nat) (x : Int) (j : Nat → Value) (w' : World),
          I n x w' →
            ∃ (R_1 : PUnit → World → Prop),
              (∃ (x_1 : Int × SV),
                  cellsAt w' (Addr.mk w.heap.size (0 : Nat) none)
                      [Value.int IntKind.i64 x_1.fst, Value.slice x_1.snd.a x_1.snd.len x_1.snd.cap] ∧
                    CallT [Ty.one Sh.bool] Try.prog (22 : Nat)
                      [Value.agg #[Value.int IntKind.i64 x_1.fst, Value.slice x_1.snd.a x_1.snd.len x_1.snd.cap]] w'
                      fun (x_2 : Bool) (w' : World) =>
                      cnd x_2
                        (∃ (x_3 : SV),
                          w'.cell? ((Addr.mk w.heap.size (0 : Nat) none).add (1 : Nat)) =
                              some (Value.slice x_3.a x_3.len x_3.cap) ∧
                            cnd (decide (x < (↑x_3.len : Int))) (R_1 () w') (R ((0 : Int), false) w'))
                        (R ((0 : Int), false) w')) ∧
                ∀ (x_1 : PUnit) (j : Nat → Value) (w' : World),
                  R_1 x_1 w' →
                    ∃ (x_2 : SV),
                      w'.cell? ((Addr.mk w.heap.size (0 : Nat) none).add (1 : Nat)) =
                          some (Value.slice x_2.a x_2.len x_2.cap) ∧
                        (0 : Int) ≤ x ∧
                          x < (↑x_2.len : Int) ∧
                            onP x_2.a fun (A : Addr) =>
                              ∃ (x_3 : Int),
                                w'.cell? ((A.add (x.toNat * (2 : Nat))).add (0 : Nat)) = some (Value.int IntKind.i64 x_3) ∧
                                  cnd (x_3 == n1)
                                    (∃ (x_4 : SV),
                                      w'.cell? ((Addr.mk w.heap.size (0 : Nat) none).add (1 : Nat)) =
                                          some (Value.slice x_4.a x_4.len x_4.cap) ∧
                                        (0 : Int) ≤ x ∧
                                          x < (↑x_4.len : Int) ∧
                                            onP x_4.a fun (A : Addr) =>
                                              ∃ (x_5 : Int),
                                                w'.cell? ((A.add (x.toNat * (2 : Nat))).add (1 : Nat)) =
                                                    some (Value.int IntKind.i64 x_5) ∧
                                                  R (x_5, true) w')
                                    (∃ (m : Nat), m < n ∧ I m (IntKind.i64.wrap (x + (1 : Int))) w'))
  : CallT [Ty.one (Sh.int IntKind.i64), Ty.one Sh.bool] Try.prog 28 [Value.agg #[Value.int IntKind.i64 x0.fst, Value.slice x0.snd.a x0.snd.len x0.snd.cap], Value.int IntKind.i64 n1] w R :=
  fnV_sound (h := HT.z.sq ((HT.z.sq (HT.lp [((6 : Nat), Ty.one (Sh.int IntKind.i64))] (HT.jn [] HT.z HT.z)).bl).sq HT.z)) Try.func28 (by kernel_rfl) (by kernel_rfl) (Eq.mp (by kernel_rfl) h)

/-- dunnage/dunnagelaw19.awake -/
theorem dunnagelaw19_awake.vc (w : World) (R : Bool → World → Prop)
  (h : CallT
      [Ty.agg [Sh.int IntKind.i64, Sh.slice], Ty.agg [Sh.int IntKind.i64, Sh.int IntKind.i64], Ty.one (Sh.int IntKind.i64)]
      Try.prog (23 : Nat) [Value.agg #[Value.int IntKind.i64 (1 : Int), Value.slice none (0 : Nat) (0 : Nat)]] w
      fun (x : (Int × SV) × (Int × Int) × Int) (w' : World) =>
      let w1 := w'.alloc (Obj.cells #[Value.int IntKind.i64 (0 : Int), Value.slice none (0 : Nat) (0 : Nat)] (46 : Nat));
      let w1_1 := w1.alloc (Obj.cells #[Value.int IntKind.i64 (0 : Int), Value.int IntKind.i64 (0 : Int)] (49 : Nat));
      canSt w1_1 (Addr.mk w'.heap.size (0 : Nat) none) (2 : Nat) ∧
        let w1_2 :=
          setCells w1_1 (Addr.mk w'.heap.size (0 : Nat) none) (0 : Nat)
            [Value.int IntKind.i64 x.fst.fst, Value.slice x.fst.snd.a x.fst.snd.len x.fst.snd.cap];
        canSt w1_2 (Addr.mk w1.heap.size (0 : Nat) none) (2 : Nat) ∧
          let w1_3 :=
            setCells w1_2 (Addr.mk w1.heap.size (0 : Nat) none) (0 : Nat)
              [Value.int IntKind.i64 x.snd.fst.fst, Value.int IntKind.i64 x.snd.fst.snd];
          cnd (x.snd.snd == (0 : Int))
            (∃ (x : Int × Int),
              cellsAt w1_3 (Addr.mk w1.heap.size (0 : Nat) none)
                  [Value.int IntKind.i64 x.fst, Value.int IntKind.i64 x.snd] ∧
                cnd (x.fst == (1 : Int) && (x.snd == (1 : Int) && true))
                  (CallT [Ty.one (Sh.int IntKind.i64)] Try.prog (30 : Nat)
                    [Value.agg #[Value.int IntKind.i64 (0 : Int), Value.slice none (0 : Nat) (0 : Nat)]] w1_3
                    fun (x : Int) (w' : World) => R (x == (11 : Int)) w')
                  (R false w1_3))
            (R false w1_3))
  : CallT [Ty.one Sh.bool] Try.prog 29 [] w R :=
  fnV_sound (h := HT.z) Try.func29 (by kernel_rfl) (by kernel_rfl) (Eq.mp (by kernel_rfl) h)

/-- dunnage/snaps.Check -/
theorem snaps_Check.vc (x0 : Int × SV) (w : World) (R : Int → World → Prop)
  (h : let w1 := w.alloc (Obj.cells #[Value.int IntKind.i64 x0.fst, Value.slice x0.snd.a x0.snd.len x0.snd.cap] (46 : Nat));
    ∃ (R_1 : PUnit → World → Prop),
      (∃ (x : Int),
          w1.cell? ((Addr.mk w.heap.size (0 : Nat) none).add (0 : Nat)) = some (Value.int IntKind.i64 x) ∧
            cnd (decide (x < (1 : Int))) (R (11 : Int) w1)
              (∃ (x : Int),
                w1.cell? ((Addr.mk w.heap.size (0 : Nat) none).add (0 : Nat)) = some (Value.int IntKind.i64 x) ∧
                  cnd (decide (x > (4611686018427387904 : Int))) (R (11 : Int) w1)
                    (∃ (x : SV),
                      w1.cell? ((Addr.mk w.heap.size (0 : Nat) none).add (1 : Nat)) = some (Value.slice x.a x.len x.cap) ∧
                        cnd (decide ((↑x.len : Int) > (8 : Int))) (R (11 : Int) w1) (R_1 () w1)))) ∧
        ∀ (x : PUnit) (j : Nat → Value) (w' : World),
          R_1 x w' →
            let w1 :=
              w'.alloc
                (Obj.cells
                  #[Value.bool false, Value.bool false, Value.bool false, Value.bool false, Value.bool false,
                    Value.bool false, Value.bool false, Value.bool false, Value.bool false]
                  (76 : Nat));
            ∃ (x : SV),
              w1.cell? ((Addr.mk w.heap.size (0 : Nat) none).add (1 : Nat)) = some (Value.slice x.a x.len x.cap) ∧
                ∃ (I : Nat → Int × Int → World → Prop),
                  (∃ (n : Nat), I n ((0 : Int), (0 : Int)) w1) ∧
                    ∀ (n : Nat) (x_1 : Int × Int) (j : Nat → Value) (w'_1 : World),
                      I n x_1 w'_1 →
                        cnd (decide (x_1.snd < (↑x.len : Int)))
                          ((0 : Int) ≤ x_1.snd ∧
                            x_1.snd < (↑x.len : Int) ∧
                              onP x.a fun (A : Addr) =>
                                ∃ (x : Int × Int),
                                  cellsAt w'_1 (A.add (Int.toNat x_1.snd * (2 : Nat)))
                                      [Value.int IntKind.i64 x.fst, Value.int IntKind.i64 x.snd] ∧
                                    let w1 :=
                                      w'_1.alloc
                                        (Obj.cells #[Value.int IntKind.i64 (0 : Int), Value.int IntKind.i64 (0 : Int)]
                                          (49 : Nat));
                                    canSt w1 (Addr.mk w'_1.heap.size (0 : Nat) none) (2 : Nat) ∧
                                      let w1 :=
                                        setCells w1 (Addr.mk w'_1.heap.size (0 : Nat) none) (0 : Nat)
                                          [Value.int IntKind.i64 x.fst, Value.int IntKind.i64 x.snd];
                                      ∃ (R_2 : PUnit → World → Prop),
                                        (∃ (x : Int),
                                            w1.cell? ((Addr.mk w'_1.heap.size (0 : Nat) none).add (0 : Nat)) =
                                                some (Value.int IntKind.i64 x) ∧
                                              let e1 := x_1.fst;
                                              cnd (decide (x ≤ e1)) (R (11 : Int) w1)
                                                (∃ (x : Int),
                                                  w1.cell? ((Addr.mk w'_1.heap.size (0 : Nat) none).add (0 : Nat)) =
                                                      some (Value.int IntKind.i64 x) ∧
                                                    ∃ (x_2 : Int),
                                                      w1.cell? ((Addr.mk w.heap.size (0 : Nat) none).add (0 : Nat)) =
                                                          some (Value.int IntKind.i64 x_2) ∧
                                                        cnd (decide (x ≥ x_2)) (R (11 : Int) w1)
                                                          (∃ (x : Int),
                                                            w1.cell?
                                                                  ((Addr.mk w'_1.heap.size (0 : Nat) none).add (1 : Nat)) =
                                                                some (Value.int IntKind.i64 x) ∧
                                                              cnd (decide (x < (1 : Int))) (R (11 : Int) w1)
                                                                (∃ (x : Int),
                                                                  w1.cell?
                                                                        ((Addr.mk w'_1.heap.size (0 : Nat) none).add
                                                                          (1 : Nat)) =
                                                                      some (Value.int IntKind.i64 x) ∧
                                                                    cnd (decide (x > (8 : Int))) (R (11 : Int) w1)
                                                                      (∃ (x : Int),
                                                                        w1.cell?
                                                                              ((Addr.mk w'_1.heap.size (0 : Nat) none).add
                                                                                (1 : Nat)) =
                                                                            some (Value.int IntKind.i64 x) ∧
                                                                          (0 : Int) ≤ x ∧
                                                                            x < (↑(9 : Nat) : Int) ∧
                                                                              ∃ (x_3 : Bool),
                                                                                w1.cell?
                                                                                      ((Addr.mk w'.heap.size (0 : Nat)
                                                                                            none).add
                                                                                        (x.toNat * (1 : Nat))) =
                                                                                    some (Value.bool x_3) ∧
                                                                                  cnd x_3 (R (11 : Int) w1)
                                                                                    (R_2 () w1)))))) ∧
                                          ∀ (x : PUnit) (j : Nat → Value) (w'_2 : World),
                                            R_2 x w'_2 →
                                              ∃ (x : Int),
                                                w'_2.cell? ((Addr.mk w'_1.heap.size (0 : Nat) none).add (0 : Nat)) =
                                                    some (Value.int IntKind.i64 x) ∧
                                                  ∃ (x_2 : Int),
                                                    w'_2.cell? ((Addr.mk w'_1.heap.size (0 : Nat) none).add (1 : Nat)) =
                                                        some (Value.int IntKind.i64 x_2) ∧
                                                      (0 : Int) ≤ x_2 ∧
                                                        x_2 < (↑(9 : Nat) : Int) ∧
                                                          (w'_2.cell?
                                                                  ((Addr.mk w'.heap.size (0 : Nat) none).add
                                                                    (x_2.toNat * (1 : Nat)))).isSome =
                                                              true ∧
                                                            w'_2.frozen?
                                                                  ((Addr.mk w'.heap.size (0 : Nat) none).add
                                                                    (x_2.toNat * (1 : Nat))) =
                                                                false ∧
                                                              ∃ (m : Nat),
                                                                m < n ∧
                                                                  I m (x, IntKind.i64.wrap (x_1.snd + (1 : Int)))
                                                                    (w'_2.setCell
                                                                      ((Addr.mk w'.heap.size (0 : Nat) none).add
                                                                        (x_2.toNat * (1 : Nat)))
                                                                      (Value.bool true)))
                          (R (0 : Int) w'_1))
  : CallT [Ty.one (Sh.int IntKind.i64)] Try.prog 30 [Value.agg #[Value.int IntKind.i64 x0.fst, Value.slice x0.snd.a x0.snd.len x0.snd.cap]] w R :=
  fnV_sound (h := HT.z.sq
  (HT.jn [] HT.z
    (HT.z.sq
      (HT.z.sq
        ((HT.z.sq
              (HT.lp [((4 : Nat), Ty.one (Sh.int IntKind.i64)), ((24 : Nat), Ty.one (Sh.int IntKind.i64))]
                  (HT.z.sq (HT.z.sq ((HT.z.sq (HT.jn [] HT.z HT.z)).bl.sq HT.z)))).bl).sq
          HT.z))))) Try.func30 (by kernel_rfl) (by kernel_rfl) (Eq.mp (by kernel_rfl) h)

/-- dunnage/dunnagehelp.Pins -/
theorem dunnagehelp_Pins.vc (x0 : Int × SV) (x1 : Int × SV) (w : World) (R : Bool → World → Prop)
  (h : let w1 := w.alloc (Obj.cells #[Value.int IntKind.i64 x0.fst, Value.slice x0.snd.a x0.snd.len x0.snd.cap] (46 : Nat));
    let w1_1 := w1.alloc (Obj.cells #[Value.int IntKind.i64 x1.fst, Value.slice x1.snd.a x1.snd.len x1.snd.cap] (46 : Nat));
    ∃ (x : Int),
      w1_1.cell? ((Addr.mk w.heap.size (0 : Nat) none).add (0 : Nat)) = some (Value.int IntKind.i64 x) ∧
        ∃ (x_1 : Int),
          w1_1.cell? ((Addr.mk w1.heap.size (0 : Nat) none).add (0 : Nat)) = some (Value.int IntKind.i64 x_1) ∧
            cnd (x == x_1)
              (∃ (x : SV),
                w1_1.cell? ((Addr.mk w.heap.size (0 : Nat) none).add (1 : Nat)) = some (Value.slice x.a x.len x.cap) ∧
                  ∃ (x_2 : SV),
                    w1_1.cell? ((Addr.mk w1.heap.size (0 : Nat) none).add (1 : Nat)) =
                        some (Value.slice x_2.a x_2.len x_2.cap) ∧
                      CallT [Ty.one Sh.bool] Try.prog (44 : Nat)
                        [Value.slice x.a x.len x.cap, Value.slice x_2.a x_2.len x_2.cap] w1_1 fun (x : Bool) (w' : World) =>
                        R x w')
              (R false w1_1))
  : CallT [Ty.one Sh.bool] Try.prog 31 [Value.agg #[Value.int IntKind.i64 x0.fst, Value.slice x0.snd.a x0.snd.len x0.snd.cap],
  Value.agg #[Value.int IntKind.i64 x1.fst, Value.slice x1.snd.a x1.snd.len x1.snd.cap]] w R :=
  fnV_sound (h := HT.z) Try.func31 (by kernel_rfl) (by kernel_rfl) (Eq.mp (by kernel_rfl) h)

/-- dunnage/dunnagehelp.Kept[dunnage/api.Pin] -/
theorem dunnagehelp_Kept_api_Pin.vc (s0 : SV) (s1 : SV) (x2 : Int × Int) (w : World) (R : Bool → World → Prop)
  (h : ∃ (R_1 : PUnit → World → Prop),
      (CallT [Ty.one Sh.bool] Try.prog (44 : Nat) [Value.slice s0.a s0.len s0.cap, Value.slice s1.a s1.len s1.cap]
          (w.alloc (Obj.cells #[Value.int IntKind.i64 x2.fst, Value.int IntKind.i64 x2.snd] (49 : Nat)))
          fun (x : Bool) (w' : World) =>
          cnd (!x) (R false w')
            (cnd (decide ((↑s0.cap : Int) < IntKind.i64.wrap ((↑s1.len : Int) + (3 : Int)))) (R false w') (R_1 () w'))) ∧
        ∀ (x : PUnit) (j : Nat → Value) (w' : World),
          R_1 x w' →
            (0 : Int) ≤ IntKind.i64.wrap ((↑s1.len : Int) + (3 : Int)) ∧
              IntKind.i64.wrap ((↑s1.len : Int) + (3 : Int)) ≤ (↑s0.cap : Int) ∧
                ∃ (I : Nat → Int → World → Prop),
                  (∃ (n : Nat), I n (↑s1.len : Int) w') ∧
                    ∀ (n : Nat) (x : Int) (j : Nat → Value) (w' : World),
                      I n x w' →
                        let e1 := (↑((IntKind.i64.wrap ((↑s1.len : Int) + (3 : Int))).toNat - (0 : Nat)) : Int);
                        cnd (decide (x < e1))
                          ((0 : Int) ≤ x ∧
                            x < (↑((IntKind.i64.wrap ((↑s1.len : Int) + (3 : Int))).toNat - (0 : Nat)) : Int) ∧
                              onP (subA s0.a (0 : Nat) (2 : Nat) s0.cap) fun (A : Addr) =>
                                ∃ (x_1 : Int × Int),
                                  cellsAt w'.drew (A.add (x.toNat * (2 : Nat)))
                                      [Value.int IntKind.i64 x_1.fst, Value.int IntKind.i64 x_1.snd] ∧
                                    ∃ (x_2 : Int × Int),
                                      cellsAt w'.drew (Addr.mk w.heap.size (0 : Nat) none)
                                          [Value.int IntKind.i64 x_2.fst, Value.int IntKind.i64 x_2.snd] ∧
                                        cnd (!(x_1.fst == x_2.fst && (x_1.snd == x_2.snd && true))) (R false w'.drew)
                                          (∃ (m : Nat), m < n ∧ I m (IntKind.i64.wrap (x + (1 : Int))) w'.drew))
                          (R true w'))
  : CallT [Ty.one Sh.bool] Try.prog 32 [Value.slice s0.a s0.len s0.cap, Value.slice s1.a s1.len s1.cap,
  Value.agg #[Value.int IntKind.i64 x2.fst, Value.int IntKind.i64 x2.snd]] w R :=
  fnV_sound (h := HT.z.sq
  (HT.jn [] HT.z
    (HT.z.sq
      ((HT.z.sq
            (HT.lp [((8 : Nat), Ty.one (Sh.int IntKind.i64))] (HT.z.sq (((HT.rg (6 : Nat)).sq HT.z).bl.sq HT.z))).bl).sq
        HT.z)))) Try.func32 (by kernel_rfl) (by kernel_rfl) (Eq.mp (by kernel_rfl) h)

/-- dunnage/dunnagehelp.Same[dunnage/api.Move] -/
theorem dunnagehelp_Same_api_Move.vc (s0 : SV) (s1 : SV) (v2 : Value) (w : World) (R : Bool → World → Prop)
  (h : cnd ((↑s0.len : Int) != (↑s1.len : Int)) (R false w)
      (∃ (I : Nat → Int → World → Prop),
        (∃ (n : Nat), I n (0 : Int) w) ∧
          ∀ (n : Nat) (x : Int) (j : Nat → Value) (w' : World),
            I n x w' →
              cnd (decide (x < (↑s0.len : Int)))
                ((0 : Int) ≤ x ∧
                  x < (↑s0.len : Int) ∧
                    onP s0.a fun (A : Addr) =>
                      ∃ (x_1 : Int × Int × Int × Int),
                        cellsAt w'.drew (A.add (x.toNat * (4 : Nat)))
                            [Value.int IntKind.u64 x_1.fst, Value.int IntKind.i64 x_1.snd.fst,
                              Value.int IntKind.i64 x_1.snd.snd.fst, Value.int IntKind.i64 x_1.snd.snd.snd] ∧
                          (0 : Int) ≤ x ∧
                            x < (↑s1.len : Int) ∧
                              onP s1.a fun (A : Addr) =>
                                ∃ (x_2 : Int × Int × Int × Int),
                                  cellsAt w'.drew (A.add (x.toNat * (4 : Nat)))
                                      [Value.int IntKind.u64 x_2.fst, Value.int IntKind.i64 x_2.snd.fst,
                                        Value.int IntKind.i64 x_2.snd.snd.fst, Value.int IntKind.i64 x_2.snd.snd.snd] ∧
                                    callVal [Ty.one Sh.bool] Try.prog v2
                                      [Value.agg
                                          #[Value.int IntKind.u64 x_1.fst, Value.int IntKind.i64 x_1.snd.fst,
                                            Value.int IntKind.i64 x_1.snd.snd.fst, Value.int IntKind.i64 x_1.snd.snd.snd],
                                        Value.agg
                                          #[Value.int IntKind.u64 x_2.fst, Value.int IntKind.i64 x_2.snd.fst,
                                            Value.int IntKind.i64 x_2.snd.snd.fst, Value.int IntKind.i64 x_2.snd.snd.snd]]
                                      w'.drew fun (x_3 : Bool) (w' : World) =>
                                      cnd (!x_3) (R false w')
                                        (∃ (m : Nat), m < n ∧ I m (IntKind.i64.wrap (x + (1 : Int))) w'))
                (R true w')))
  : CallT [Ty.one Sh.bool] Try.prog 33 [Value.slice s0.a s0.len s0.cap, Value.slice s1.a s1.len s1.cap, v2] w R :=
  fnV_sound (h := HT.z.sq
  (HT.z.sq
    ((HT.z.sq
          (HT.lp [((7 : Nat), Ty.one (Sh.int IntKind.i64))] (HT.z.sq (((HT.rg (9 : Nat)).sq HT.z).bl.sq HT.z))).bl).sq
      HT.z))) Try.func33 (by kernel_rfl) (by kernel_rfl) (Eq.mp (by kernel_rfl) h)

/-- dunnage/dunnagehelp.Plain[dunnage/api.Move]$1 -/
theorem dunnagehelp_Plain_api_Move_1.vc (x0 : Int × Int × Int × Int) (x1 : Int × Int × Int × Int) (w : World) (R : Bool → World → Prop)
  (h : let w1 :=
      w.alloc
        (Obj.cells
          #[Value.int IntKind.u64 x0.fst, Value.int IntKind.i64 x0.snd.fst, Value.int IntKind.i64 x0.snd.snd.fst,
            Value.int IntKind.i64 x0.snd.snd.snd]
          (28 : Nat));
    let w1_1 :=
      w1.alloc
        (Obj.cells
          #[Value.int IntKind.u64 x1.fst, Value.int IntKind.i64 x1.snd.fst, Value.int IntKind.i64 x1.snd.snd.fst,
            Value.int IntKind.i64 x1.snd.snd.snd]
          (28 : Nat));
    ∃ (x : Int × Int × Int × Int),
      cellsAt w1_1 (Addr.mk w.heap.size (0 : Nat) none)
          [Value.int IntKind.u64 x.fst, Value.int IntKind.i64 x.snd.fst, Value.int IntKind.i64 x.snd.snd.fst,
            Value.int IntKind.i64 x.snd.snd.snd] ∧
        ∃ (x_1 : Int × Int × Int × Int),
          cellsAt w1_1 (Addr.mk w1.heap.size (0 : Nat) none)
              [Value.int IntKind.u64 x_1.fst, Value.int IntKind.i64 x_1.snd.fst, Value.int IntKind.i64 x_1.snd.snd.fst,
                Value.int IntKind.i64 x_1.snd.snd.snd] ∧
            R
              (x.fst == x_1.fst &&
                (x.snd.fst == x_1.snd.fst &&
                  (x.snd.snd.fst == x_1.snd.snd.fst && (x.snd.snd.snd == x_1.snd.snd.snd && true))))
              w1_1)
  : CallT [Ty.one Sh.bool] Try.prog 34 [Value.agg
    #[Value.int IntKind.u64 x0.fst, Value.int IntKind.i64 x0.snd.fst, Value.int IntKind.i64 x0.snd.snd.fst,
      Value.int IntKind.i64 x0.snd.snd.snd],
  Value.agg
    #[Value.int IntKind.u64 x1.fst, Value.int IntKind.i64 x1.snd.fst, Value.int IntKind.i64 x1.snd.snd.fst,
      Value.int IntKind.i64 x1.snd.snd.snd]] w R :=
  fnV_sound (h := HT.z) Try.func34 (by kernel_rfl) (by kernel_rfl) (Eq.mp (by kernel_rfl) h)

/-- dunnage/dunnagehelp.Same[dunnage/api.Entry] -/
theorem dunnagehelp_Same_api_Entry.vc (s0 : SV) (s1 : SV) (v2 : Value) (w : World) (R : Bool → World → Prop)
  (h : cnd ((↑s0.len : Int) != (↑s1.len : Int)) (R false w)
      (∃ (I : Nat → Int → World → Prop),
        (∃ (n : Nat), I n (0 : Int) w) ∧
          ∀ (n : Nat) (x : Int) (j : Nat → Value) (w' : World),
            I n x w' →
              cnd (decide (x < (↑s0.len : Int)))
                ((0 : Int) ≤ x ∧
                  x < (↑s0.len : Int) ∧
                    onP s0.a fun (A : Addr) =>
                      ∃ (x_1 : ByteArray × Int × Int × Int),
                        cellsAt w'.drew (A.add (x.toNat * (4 : Nat)))
                            [Value.string x_1.fst, Value.int IntKind.u64 x_1.snd.fst, Value.int IntKind.i64 x_1.snd.snd.fst,
                              Value.int IntKind.i64 x_1.snd.snd.snd] ∧
                          (0 : Int) ≤ x ∧
                            x < (↑s1.len : Int) ∧
                              onP s1.a fun (A : Addr) =>
                                ∃ (x_2 : ByteArray × Int × Int × Int),
                                  cellsAt w'.drew (A.add (x.toNat * (4 : Nat)))
                                      [Value.string x_2.fst, Value.int IntKind.u64 x_2.snd.fst,
                                        Value.int IntKind.i64 x_2.snd.snd.fst, Value.int IntKind.i64 x_2.snd.snd.snd] ∧
                                    callVal [Ty.one Sh.bool] Try.prog v2
                                      [Value.agg
                                          #[Value.string x_1.fst, Value.int IntKind.u64 x_1.snd.fst,
                                            Value.int IntKind.i64 x_1.snd.snd.fst, Value.int IntKind.i64 x_1.snd.snd.snd],
                                        Value.agg
                                          #[Value.string x_2.fst, Value.int IntKind.u64 x_2.snd.fst,
                                            Value.int IntKind.i64 x_2.snd.snd.fst, Value.int IntKind.i64 x_2.snd.snd.snd]]
                                      w'.drew fun (x_3 : Bool) (w' : World) =>
                                      cnd (!x_3) (R false w')
                                        (∃ (m : Nat), m < n ∧ I m (IntKind.i64.wrap (x + (1 : Int))) w'))
                (R true w')))
  : CallT [Ty.one Sh.bool] Try.prog 35 [Value.slice s0.a s0.len s0.cap, Value.slice s1.a s1.len s1.cap, v2] w R :=
  fnV_sound (h := HT.z.sq
  (HT.z.sq
    ((HT.z.sq
          (HT.lp [((7 : Nat), Ty.one (Sh.int IntKind.i64))] (HT.z.sq (((HT.rg (9 : Nat)).sq HT.z).bl.sq HT.z))).bl).sq
      HT.z))) Try.func35 (by kernel_rfl) (by kernel_rfl) (Eq.mp (by kernel_rfl) h)

/-- dunnage/dunnagehelp.Plain[dunnage/api.Entry]$1 -/
theorem dunnagehelp_Plain_api_Entry_1.vc (x0 : ByteArray × Int × Int × Int) (x1 : ByteArray × Int × Int × Int) (w : World) (R : Bool → World → Prop)
  (h : let w1 :=
      w.alloc
        (Obj.cells
          #[Value.string x0.fst, Value.int IntKind.u64 x0.snd.fst, Value.int IntKind.i64 x0.snd.snd.fst,
            Value.int IntKind.i64 x0.snd.snd.snd]
          (38 : Nat));
    let w1_1 :=
      w1.alloc
        (Obj.cells
          #[Value.string x1.fst, Value.int IntKind.u64 x1.snd.fst, Value.int IntKind.i64 x1.snd.snd.fst,
            Value.int IntKind.i64 x1.snd.snd.snd]
          (38 : Nat));
    ∃ (x : ByteArray × Int × Int × Int),
      cellsAt w1_1 (Addr.mk w.heap.size (0 : Nat) none)
          [Value.string x.fst, Value.int IntKind.u64 x.snd.fst, Value.int IntKind.i64 x.snd.snd.fst,
            Value.int IntKind.i64 x.snd.snd.snd] ∧
        ∃ (x_1 : ByteArray × Int × Int × Int),
          cellsAt w1_1 (Addr.mk w1.heap.size (0 : Nat) none)
              [Value.string x_1.fst, Value.int IntKind.u64 x_1.snd.fst, Value.int IntKind.i64 x_1.snd.snd.fst,
                Value.int IntKind.i64 x_1.snd.snd.snd] ∧
            R
              (x.fst == x_1.fst &&
                (x.snd.fst == x_1.snd.fst &&
                    (x.snd.snd.fst == x_1.snd.snd.fst && (x.snd.snd.snd == x_1.snd.snd.snd && true)) &&
                  true))
              w1_1)
  : CallT [Ty.one Sh.bool] Try.prog 36 [Value.agg
    #[Value.string x0.fst, Value.int IntKind.u64 x0.snd.fst, Value.int IntKind.i64 x0.snd.snd.fst,
      Value.int IntKind.i64 x0.snd.snd.snd],
  Value.agg
    #[Value.string x1.fst, Value.int IntKind.u64 x1.snd.fst, Value.int IntKind.i64 x1.snd.snd.fst,
      Value.int IntKind.i64 x1.snd.snd.snd]] w R :=
  fnV_sound (h := HT.z) Try.func36 (by kernel_rfl) (by kernel_rfl) (Eq.mp (by kernel_rfl) h)

/-- slices.Clone[[]dunnage/api.Entry,dunnage/api.Entry] -/
theorem slices_Clone_api_Entry_api_Entry.vc (s0 : SV) (w : World) (R : SV → World → Prop)
  (h : cnd s0.a.isNone (R (SV.mk none (0 : Nat) (0 : Nat)) w)
      (appV Try.prog [(32 : Nat), (32 : Nat)] (32 : Nat)
        [Value.slice (some (Addr.mk w.heap.size (0 : Nat) none)) (0 : Nat) (0 : Nat), Value.slice s0.a s0.len s0.cap]
        (w.alloc (Obj.cells #[] (38 : Nat))) fun (s : SV) (w' : World) => R s w'))
  : CallT [Ty.one Sh.slice] Try.prog 37 [Value.slice s0.a s0.len s0.cap] w R :=
  fnV_sound (h := HT.z) Try.func37 (by kernel_rfl) (by kernel_rfl) (Eq.mp (by kernel_rfl) h)

/-- slices.ContainsFunc[[]dunnage/api.Pin,dunnage/api.Pin] -/
theorem slices_ContainsFunc_api_Pin_api_Pin.vc (s0 : SV) (v1 : Value) (w : World) (R : Bool → World → Prop)
  (h : CallT [Ty.one (Sh.int IntKind.i64)] Try.prog (45 : Nat) [Value.slice s0.a s0.len s0.cap, v1] w
      fun (x : Int) (w' : World) => R (decide (x ≥ (0 : Int))) w')
  : CallT [Ty.one Sh.bool] Try.prog 38 [Value.slice s0.a s0.len s0.cap, v1] w R :=
  fnV_sound (h := HT.z) Try.func38 (by kernel_rfl) (by kernel_rfl) (Eq.mp (by kernel_rfl) h)

/-- dunnage/snaps.Pin$1 -/
theorem snaps_Pin_1.vc (x0 : Int × Int) (p1 : Option Addr) (w : World) (R : Bool → World → Prop)
  (h : let w1 := w.alloc (Obj.cells #[Value.int IntKind.i64 x0.fst, Value.int IntKind.i64 x0.snd] (49 : Nat));
    ∃ (x : Int),
      w1.cell? ((Addr.mk w.heap.size (0 : Nat) none).add (1 : Nat)) = some (Value.int IntKind.i64 x) ∧
        onP p1 fun (A : Addr) => ∃ (x_1 : Int), w1.cell? A = some (Value.int IntKind.i64 x_1) ∧ R (x == x_1) w1)
  : CallT [Ty.one Sh.bool] Try.prog 39 [Value.agg #[Value.int IntKind.i64 x0.fst, Value.int IntKind.i64 x0.snd], Value.pointer p1] w R :=
  fnV_sound (h := HT.z) Try.func39 (by kernel_rfl) (by kernel_rfl) (Eq.mp (by kernel_rfl) h)

/-- slices.Clone[[]dunnage/api.Pin,dunnage/api.Pin] -/
theorem slices_Clone_api_Pin_api_Pin.vc (s0 : SV) (w : World) (R : SV → World → Prop)
  (h : cnd s0.a.isNone (R (SV.mk none (0 : Nat) (0 : Nat)) w)
      (appV Try.prog [(44 : Nat), (44 : Nat)] (44 : Nat)
        [Value.slice (some (Addr.mk w.heap.size (0 : Nat) none)) (0 : Nat) (0 : Nat), Value.slice s0.a s0.len s0.cap]
        (w.alloc (Obj.cells #[] (49 : Nat))) fun (s : SV) (w' : World) => R s w'))
  : CallT [Ty.one Sh.slice] Try.prog 40 [Value.slice s0.a s0.len s0.cap] w R :=
  fnV_sound (h := HT.z) Try.func40 (by kernel_rfl) (by kernel_rfl) (Eq.mp (by kernel_rfl) h)

/-- dunnage/dunnageref19.free -/
theorem dunnageref19_free.vc (x0 : Int × SV) (w : World) (R : Int → World → Prop)
  (h : ∃ (I : Nat → Int → World → Prop),
      (∃ (n : Nat),
          I n (1 : Int)
            (w.alloc (Obj.cells #[Value.int IntKind.i64 x0.fst, Value.slice x0.snd.a x0.snd.len x0.snd.cap] (46 : Nat)))) ∧
        ∀ (n : Nat) (x : Int) (j : Nat → Value) (w' : World),
          I n x w' →
            ∃ (I_1 : Nat → Bool × Int → World → Prop),
              (∃ (n : Nat), I_1 n (false, (0 : Int)) w') ∧
                ∀ (n_1 : Nat) (x_1 : Bool × Int) (j : Nat → Value) (w' : World),
                  I_1 n_1 x_1 w' →
                    let e1 := x_1.snd;
                    ∃ (x_2 : SV),
                      w'.cell? ((Addr.mk w.heap.size (0 : Nat) none).add (1 : Nat)) =
                          some (Value.slice x_2.a x_2.len x_2.cap) ∧
                        cnd (decide (e1 < (↑x_2.len : Int)))
                          (cnd x_1.fst (∃ (m : Nat), m < n_1 ∧ I_1 m (true, IntKind.i64.wrap (x_1.snd + (1 : Int))) w')
                            (∃ (x_3 : SV),
                              w'.cell? ((Addr.mk w.heap.size (0 : Nat) none).add (1 : Nat)) =
                                  some (Value.slice x_3.a x_3.len x_3.cap) ∧
                                let e1 := x_1.snd;
                                (0 : Int) ≤ e1 ∧
                                  e1 < (↑x_3.len : Int) ∧
                                    onP x_3.a fun (A : Addr) =>
                                      ∃ (x_4 : Int),
                                        w'.cell? ((A.add (e1.toNat * (2 : Nat))).add (1 : Nat)) =
                                            some (Value.int IntKind.i64 x_4) ∧
                                          ∃ (m : Nat),
                                            m < n_1 ∧ I_1 m (x_4 == x, IntKind.i64.wrap (x_1.snd + (1 : Int))) w'))
                          (cnd (!x_1.fst) (R x w') (∃ (m : Nat), m < n ∧ I m (IntKind.i64.wrap (x + (1 : Int))) w')))
  : CallT [Ty.one (Sh.int IntKind.i64)] Try.prog 41 [Value.agg #[Value.int IntKind.i64 x0.fst, Value.slice x0.snd.a x0.snd.len x0.snd.cap]] w R :=
  fnV_sound (h := HT.z.sq
  (HT.z.sq
    (HT.lp [((3 : Nat), Ty.one (Sh.int IntKind.i64))]
        ((HT.z.sq
                ((HT.z.sq (HT.lp [((4 : Nat), Ty.one Sh.bool), ((5 : Nat), Ty.one (Sh.int IntKind.i64))] HT.z).bl).sq
                  HT.z)).bl.sq
          HT.z)).bl)) Try.func41 (by kernel_rfl) (by kernel_rfl) (Eq.mp (by kernel_rfl) h)

/-- slices.DeleteFunc[[]dunnage/api.Pin,dunnage/api.Pin] -/
theorem slices_DeleteFunc_api_Pin_api_Pin.vc (s0 : SV) (v1 : Value) (w : World) (R : SV → World → Prop)
  (h : CallT [Ty.one (Sh.int IntKind.i64)] Try.prog (45 : Nat) [Value.slice s0.a s0.len s0.cap, v1] w
      fun (x : Int) (w' : World) =>
      cnd (x == (-1 : Int)) (R s0 w')
        (∃ (I : Nat → Int × Int → World → Prop),
          (∃ (n : Nat), I n (x, IntKind.i64.wrap (x + (1 : Int))) w') ∧
            ∀ (n : Nat) (x : Int × Int) (j : Nat → Value) (w' : World),
              I n x w' →
                let e1 := x.snd;
                cnd (decide (e1 < (↑s0.len : Int)))
                  (let e1 := x.snd;
                  (0 : Int) ≤ e1 ∧
                    e1 < (↑s0.len : Int) ∧
                      onP s0.a fun (A : Addr) =>
                        ∃ (x_1 : Int × Int),
                          cellsAt w' (A.add (e1.toNat * (2 : Nat)))
                              [Value.int IntKind.i64 x_1.fst, Value.int IntKind.i64 x_1.snd] ∧
                            let w1 :=
                              w'.alloc
                                (Obj.cells #[Value.int IntKind.i64 (0 : Int), Value.int IntKind.i64 (0 : Int)] (49 : Nat));
                            canSt w1 (Addr.mk w'.heap.size (0 : Nat) none) (2 : Nat) ∧
                              let w1 :=
                                setCells w1 (Addr.mk w'.heap.size (0 : Nat) none) (0 : Nat)
                                  [Value.int IntKind.i64 x_1.fst, Value.int IntKind.i64 x_1.snd];
                              ∃ (x_2 : Int × Int),
                                cellsAt w1 (Addr.mk w'.heap.size (0 : Nat) none)
                                    [Value.int IntKind.i64 x_2.fst, Value.int IntKind.i64 x_2.snd] ∧
                                  callVal [Ty.one Sh.bool] Try.prog v1
                                    [Value.agg #[Value.int IntKind.i64 x_2.fst, Value.int IntKind.i64 x_2.snd]] w1
                                    fun (x_3 : Bool) (w'_1 : World) =>
                                    cnd (!x_3)
                                      (let e1 := x.fst;
                                      ∃ (x_4 : Int × Int),
                                        cellsAt w'_1 (Addr.mk w'.heap.size (0 : Nat) none)
                                            [Value.int IntKind.i64 x_4.fst, Value.int IntKind.i64 x_4.snd] ∧
                                          (0 : Int) ≤ e1 ∧
                                            e1 < (↑s0.len : Int) ∧
                                              onP s0.a fun (A : Addr) =>
                                                canSt w'_1 (A.add (e1.toNat * (2 : Nat))) (2 : Nat) ∧
                                                  ∃ (m : Nat),
                                                    m < n ∧
                                                      I m
                                                        (IntKind.i64.wrap (x.fst + (1 : Int)),
                                                          IntKind.i64.wrap (x.snd + (1 : Int)))
                                                        (setCells w'_1 (A.add (e1.toNat * (2 : Nat))) (0 : Nat)
                                                          [Value.int IntKind.i64 x_4.fst, Value.int IntKind.i64 x_4.snd]))
                                      (∃ (m : Nat), m < n ∧ I m (x.fst, IntKind.i64.wrap (x.snd + (1 : Int))) w'_1))
                  (let e1 := x.fst;
                  (0 : Int) ≤ e1 ∧
                    e1 ≤ (↑s0.len : Int) ∧
                      clrV Try.prog [(44 : Nat)] (0 : Nat)
                        [Value.slice (subA s0.a e1.toNat (2 : Nat) s0.cap) (s0.len - e1.toNat) (s0.cap - e1.toNat)] w'
                        fun (w' : World) =>
                        let e1 := x.fst;
                        (0 : Int) ≤ e1 ∧
                          e1 ≤ (↑s0.cap : Int) ∧
                            R (SV.mk (subA s0.a (0 : Nat) (2 : Nat) s0.cap) (e1.toNat - (0 : Nat)) (s0.cap - (0 : Nat)))
                              w')))
  : CallT [Ty.one Sh.slice] Try.prog 42 [Value.slice s0.a s0.len s0.cap, v1] w R :=
  fnV_sound (h := HT.z.sq
  (HT.z.sq
    (HT.z.sq
      ((HT.z.sq (HT.lp [((5 : Nat), Ty.one (Sh.int IntKind.i64)), ((6 : Nat), Ty.one (Sh.int IntKind.i64))] HT.z).bl).sq
        HT.z)))) Try.func42 (by kernel_rfl) (by kernel_rfl) (Eq.mp (by kernel_rfl) h)

/-- dunnage/snaps.Release$1 -/
theorem snaps_Release_1.vc (x0 : Int × Int) (p1 : Option Addr) (w : World) (R : Bool → World → Prop)
  (h : let w1 := w.alloc (Obj.cells #[Value.int IntKind.i64 x0.fst, Value.int IntKind.i64 x0.snd] (49 : Nat));
    ∃ (x : Int),
      w1.cell? ((Addr.mk w.heap.size (0 : Nat) none).add (0 : Nat)) = some (Value.int IntKind.i64 x) ∧
        onP p1 fun (A : Addr) => ∃ (x_1 : Int), w1.cell? A = some (Value.int IntKind.i64 x_1) ∧ R (x == x_1) w1)
  : CallT [Ty.one Sh.bool] Try.prog 43 [Value.agg #[Value.int IntKind.i64 x0.fst, Value.int IntKind.i64 x0.snd], Value.pointer p1] w R :=
  fnV_sound (h := HT.z) Try.func43 (by kernel_rfl) (by kernel_rfl) (Eq.mp (by kernel_rfl) h)

/-- dunnage/dunnagehelp.Plain[dunnage/api.Pin] -/
theorem dunnagehelp_Plain_api_Pin.vc (s0 : SV) (s1 : SV) (w : World) (R : Bool → World → Prop)
  (h : CallT [Ty.one Sh.bool] Try.prog (46 : Nat)
      [Value.slice s0.a s0.len s0.cap, Value.slice s1.a s1.len s1.cap, Value.func (Fn.func (47 : Nat)) #[] #[]] w
      fun (x : Bool) (w' : World) => R x w')
  : CallT [Ty.one Sh.bool] Try.prog 44 [Value.slice s0.a s0.len s0.cap, Value.slice s1.a s1.len s1.cap] w R :=
  fnV_sound (h := HT.z) Try.func44 (by kernel_rfl) (by kernel_rfl) (Eq.mp (by kernel_rfl) h)

/-- slices.IndexFunc[[]dunnage/api.Pin,dunnage/api.Pin] -/
theorem slices_IndexFunc_api_Pin_api_Pin.vc (s0 : SV) (v1 : Value) (w : World) (R : Int → World → Prop)
  (h : ∃ (I : Nat → Int → World → Prop),
      (∃ (n : Nat), I n (0 : Int) w) ∧
        ∀ (n : Nat) (x : Int) (j : Nat → Value) (w' : World),
          I n x w' →
            cnd (decide (x < (↑s0.len : Int)))
              ((0 : Int) ≤ x ∧
                x < (↑s0.len : Int) ∧
                  onP s0.a fun (A : Addr) =>
                    ∃ (x_1 : Int × Int),
                      cellsAt w' (A.add (x.toNat * (2 : Nat)))
                          [Value.int IntKind.i64 x_1.fst, Value.int IntKind.i64 x_1.snd] ∧
                        callVal [Ty.one Sh.bool] Try.prog v1
                          [Value.agg #[Value.int IntKind.i64 x_1.fst, Value.int IntKind.i64 x_1.snd]] w'
                          fun (x_2 : Bool) (w' : World) =>
                          cnd x_2 (R x w') (∃ (m : Nat), m < n ∧ I m (IntKind.i64.wrap (x + (1 : Int))) w'))
              (R (-1 : Int) w'))
  : CallT [Ty.one (Sh.int IntKind.i64)] Try.prog 45 [Value.slice s0.a s0.len s0.cap, v1] w R :=
  fnV_sound (h := HT.z.sq ((HT.z.sq (HT.lp [((8 : Nat), Ty.one (Sh.int IntKind.i64))] HT.z).bl).sq HT.z)) Try.func45 (by kernel_rfl) (by kernel_rfl) (Eq.mp (by kernel_rfl) h)

/-- dunnage/dunnagehelp.Same[dunnage/api.Pin] -/
theorem dunnagehelp_Same_api_Pin.vc (s0 : SV) (s1 : SV) (v2 : Value) (w : World) (R : Bool → World → Prop)
  (h : cnd ((↑s0.len : Int) != (↑s1.len : Int)) (R false w)
      (∃ (I : Nat → Int → World → Prop),
        (∃ (n : Nat), I n (0 : Int) w) ∧
          ∀ (n : Nat) (x : Int) (j : Nat → Value) (w' : World),
            I n x w' →
              cnd (decide (x < (↑s0.len : Int)))
                ((0 : Int) ≤ x ∧
                  x < (↑s0.len : Int) ∧
                    onP s0.a fun (A : Addr) =>
                      ∃ (x_1 : Int × Int),
                        cellsAt w'.drew (A.add (x.toNat * (2 : Nat)))
                            [Value.int IntKind.i64 x_1.fst, Value.int IntKind.i64 x_1.snd] ∧
                          (0 : Int) ≤ x ∧
                            x < (↑s1.len : Int) ∧
                              onP s1.a fun (A : Addr) =>
                                ∃ (x_2 : Int × Int),
                                  cellsAt w'.drew (A.add (x.toNat * (2 : Nat)))
                                      [Value.int IntKind.i64 x_2.fst, Value.int IntKind.i64 x_2.snd] ∧
                                    callVal [Ty.one Sh.bool] Try.prog v2
                                      [Value.agg #[Value.int IntKind.i64 x_1.fst, Value.int IntKind.i64 x_1.snd],
                                        Value.agg #[Value.int IntKind.i64 x_2.fst, Value.int IntKind.i64 x_2.snd]]
                                      w'.drew fun (x_3 : Bool) (w' : World) =>
                                      cnd (!x_3) (R false w')
                                        (∃ (m : Nat), m < n ∧ I m (IntKind.i64.wrap (x + (1 : Int))) w'))
                (R true w')))
  : CallT [Ty.one Sh.bool] Try.prog 46 [Value.slice s0.a s0.len s0.cap, Value.slice s1.a s1.len s1.cap, v2] w R :=
  fnV_sound (h := HT.z.sq
  (HT.z.sq
    ((HT.z.sq
          (HT.lp [((7 : Nat), Ty.one (Sh.int IntKind.i64))] (HT.z.sq (((HT.rg (9 : Nat)).sq HT.z).bl.sq HT.z))).bl).sq
      HT.z))) Try.func46 (by kernel_rfl) (by kernel_rfl) (Eq.mp (by kernel_rfl) h)

/-- dunnage/dunnagehelp.Plain[dunnage/api.Pin]$1 -/
theorem dunnagehelp_Plain_api_Pin_1.vc (x0 : Int × Int) (x1 : Int × Int) (w : World) (R : Bool → World → Prop)
  (h : let w1 := w.alloc (Obj.cells #[Value.int IntKind.i64 x0.fst, Value.int IntKind.i64 x0.snd] (49 : Nat));
    let w1_1 := w1.alloc (Obj.cells #[Value.int IntKind.i64 x1.fst, Value.int IntKind.i64 x1.snd] (49 : Nat));
    ∃ (x : Int × Int),
      cellsAt w1_1 (Addr.mk w.heap.size (0 : Nat) none) [Value.int IntKind.i64 x.fst, Value.int IntKind.i64 x.snd] ∧
        ∃ (x_1 : Int × Int),
          cellsAt w1_1 (Addr.mk w1.heap.size (0 : Nat) none)
              [Value.int IntKind.i64 x_1.fst, Value.int IntKind.i64 x_1.snd] ∧
            R (x.fst == x_1.fst && (x.snd == x_1.snd && true)) w1_1)
  : CallT [Ty.one Sh.bool] Try.prog 47 [Value.agg #[Value.int IntKind.i64 x0.fst, Value.int IntKind.i64 x0.snd],
  Value.agg #[Value.int IntKind.i64 x1.fst, Value.int IntKind.i64 x1.snd]] w R :=
  fnV_sound (h := HT.z) Try.func47 (by kernel_rfl) (by kernel_rfl) (Eq.mp (by kernel_rfl) h)

end Go.Proofs
