/- The conditions of the seat's functions, written by a program (VcTool, genvc.py) off 'vc' reduced; each is tied to 'vc' by the kernel. Conditions: none. -/
import Derived.Test.YtdldamlephggmaaVcSound5
import Derived.Test.YtdldamlephggmaaProg
set_option linter.unusedVariables false
set_option maxRecDepth 100000
namespace Go.Proofs
open Go Go.Vc
/-- dunnage/dunnagehelp.Same[dunnage/api.Move] -/
theorem dunnagehelp_Same_api_Move.vc (s0 : SV) (s1 : SV) (v2 : Value) (w : World) (R : Bool → World → Prop)
  (h : cnd ((↑s0.len : Int) != (↑s1.len : Int)) (R false w)
      (∃ (I : Nat → Int → World → Prop),
        (∃ (n : Nat), I n (0 : Int) w) ∧
          ∀ (n : Nat) (x : Int) (j : Nat → Value) (w' : World),
            I n x w' →
              cnd (decide (x < (↑s0.len : Int)))
                ((0 : Int) ≤ x ∧
                  x < (↑s0.len : Int) ∧
                    onP s0.a fun (A : Addr) =>
                      ∃ (x_1 : Int × Int × Int × Int),
                        cellsAt w'.drew (A.add (x.toNat * (4 : Nat)))
                            [Value.int IntKind.u64 x_1.fst, Value.int IntKind.i64 x_1.snd.fst,
                              Value.int IntKind.i64 x_1.snd.snd.fst, Value.int IntKind.i64 x_1.snd.snd.snd] ∧
                          (0 : Int) ≤ x ∧
                            x < (↑s1.len : Int) ∧
                              onP s1.a fun (A : Addr) =>
                                ∃ (x_2 : Int × Int × Int × Int),
                                  cellsAt w'.drew (A.add (x.toNat * (4 : Nat)))
                                      [Value.int IntKind.u64 x_2.fst, Value.int IntKind.i64 x_2.snd.fst,
                                        Value.int IntKind.i64 x_2.snd.snd.fst, Value.int IntKind.i64 x_2.snd.snd.snd] ∧
                                    callVal [Ty.one Sh.bool] Try.prog v2
                                      [Value.agg
                                          #[Value.int IntKind.u64 x_1.fst, Value.int IntKind.i64 x_1.snd.fst,
                                            Value.int IntKind.i64 x_1.snd.snd.fst, Value.int IntKind.i64 x_1.snd.snd.snd],
                                        Value.agg
                                          #[Value.int IntKind.u64 x_2.fst, Value.int IntKind.i64 x_2.snd.fst,
                                            Value.int IntKind.i64 x_2.snd.snd.fst, Value.int IntKind.i64 x_2.snd.snd.snd]]
                                      w'.drew fun (x_3 : Bool) (w' : World) =>
                                      cnd (!x_3) (R false w')
                                        (∃ (m : Nat), m < n ∧ I m (IntKind.i64.wrap (x + (1 : Int))) w'))
                (R true w')))
  : CallT [Ty.one Sh.bool] Try.prog 33 [Value.slice s0.a s0.len s0.cap, Value.slice s1.a s1.len s1.cap, v2] w R :=
  fnV_sound (h := HT.z.sq
  (HT.z.sq
    ((HT.z.sq
          (HT.lp [((7 : Nat), Ty.one (Sh.int IntKind.i64))] (HT.z.sq (((HT.rg (9 : Nat)).sq HT.z).bl.sq HT.z))).bl).sq
      HT.z))) Try.func33 (by kernel_rfl) (by kernel_rfl) (Eq.mp (by kernel_rfl) h)

/-- dunnage/dunnagehelp.Plain[dunnage/api.Move]$1 -/
theorem dunnagehelp_Plain_api_Move_1.vc (x0 : Int × Int × Int × Int) (x1 : Int × Int × Int × Int) (w : World) (R : Bool → World → Prop)
  (h : let w1 :=
      w.alloc
        (Obj.cells
          #[Value.int IntKind.u64 x0.fst, Value.int IntKind.i64 x0.snd.fst, Value.int IntKind.i64 x0.snd.snd.fst,
            Value.int IntKind.i64 x0.snd.snd.snd]
          (28 : Nat));
    let w1_1 :=
      w1.alloc
        (Obj.cells
          #[Value.int IntKind.u64 x1.fst, Value.int IntKind.i64 x1.snd.fst, Value.int IntKind.i64 x1.snd.snd.fst,
            Value.int IntKind.i64 x1.snd.snd.snd]
          (28 : Nat));
    ∃ (x : Int × Int × Int × Int),
      cellsAt w1_1 (Addr.mk w.heap.size (0 : Nat) none)
          [Value.int IntKind.u64 x.fst, Value.int IntKind.i64 x.snd.fst, Value.int IntKind.i64 x.snd.snd.fst,
            Value.int IntKind.i64 x.snd.snd.snd] ∧
        ∃ (x_1 : Int × Int × Int × Int),
          cellsAt w1_1 (Addr.mk w1.heap.size (0 : Nat) none)
              [Value.int IntKind.u64 x_1.fst, Value.int IntKind.i64 x_1.snd.fst, Value.int IntKind.i64 x_1.snd.snd.fst,
                Value.int IntKind.i64 x_1.snd.snd.snd] ∧
            R
              (x.fst == x_1.fst &&
                (x.snd.fst == x_1.snd.fst &&
                  (x.snd.snd.fst == x_1.snd.snd.fst && (x.snd.snd.snd == x_1.snd.snd.snd && true))))
              w1_1)
  : CallT [Ty.one Sh.bool] Try.prog 34 [Value.agg
    #[Value.int IntKind.u64 x0.fst, Value.int IntKind.i64 x0.snd.fst, Value.int IntKind.i64 x0.snd.snd.fst,
      Value.int IntKind.i64 x0.snd.snd.snd],
  Value.agg
    #[Value.int IntKind.u64 x1.fst, Value.int IntKind.i64 x1.snd.fst, Value.int IntKind.i64 x1.snd.snd.fst,
      Value.int IntKind.i64 x1.snd.snd.snd]] w R :=
  fnV_sound (h := HT.z) Try.func34 (by kernel_rfl) (by kernel_rfl) (Eq.mp (by kernel_rfl) h)

/-- dunnage/dunnagehelp.Same[dunnage/api.Entry] -/
theorem dunnagehelp_Same_api_Entry.vc (s0 : SV) (s1 : SV) (v2 : Value) (w : World) (R : Bool → World → Prop)
  (h : cnd ((↑s0.len : Int) != (↑s1.len : Int)) (R false w)
      (∃ (I : Nat → Int → World → Prop),
        (∃ (n : Nat), I n (0 : Int) w) ∧
          ∀ (n : Nat) (x : Int) (j : Nat → Value) (w' : World),
            I n x w' →
              cnd (decide (x < (↑s0.len : Int)))
                ((0 : Int) ≤ x ∧
                  x < (↑s0.len : Int) ∧
                    onP s0.a fun (A : Addr) =>
                      ∃ (x_1 : ByteArray × Int × Int × Int),
                        cellsAt w'.drew (A.add (x.toNat * (4 : Nat)))
                            [Value.string x_1.fst, Value.int IntKind.u64 x_1.snd.fst, Value.int IntKind.i64 x_1.snd.snd.fst,
                              Value.int IntKind.i64 x_1.snd.snd.snd] ∧
                          (0 : Int) ≤ x ∧
                            x < (↑s1.len : Int) ∧
                              onP s1.a fun (A : Addr) =>
                                ∃ (x_2 : ByteArray × Int × Int × Int),
                                  cellsAt w'.drew (A.add (x.toNat * (4 : Nat)))
                                      [Value.string x_2.fst, Value.int IntKind.u64 x_2.snd.fst,
                                        Value.int IntKind.i64 x_2.snd.snd.fst, Value.int IntKind.i64 x_2.snd.snd.snd] ∧
                                    callVal [Ty.one Sh.bool] Try.prog v2
                                      [Value.agg
                                          #[Value.string x_1.fst, Value.int IntKind.u64 x_1.snd.fst,
                                            Value.int IntKind.i64 x_1.snd.snd.fst, Value.int IntKind.i64 x_1.snd.snd.snd],
                                        Value.agg
                                          #[Value.string x_2.fst, Value.int IntKind.u64 x_2.snd.fst,
                                            Value.int IntKind.i64 x_2.snd.snd.fst, Value.int IntKind.i64 x_2.snd.snd.snd]]
                                      w'.drew fun (x_3 : Bool) (w' : World) =>
                                      cnd (!x_3) (R false w')
                                        (∃ (m : Nat), m < n ∧ I m (IntKind.i64.wrap (x + (1 : Int))) w'))
                (R true w')))
  : CallT [Ty.one Sh.bool] Try.prog 35 [Value.slice s0.a s0.len s0.cap, Value.slice s1.a s1.len s1.cap, v2] w R :=
  fnV_sound (h := HT.z.sq
  (HT.z.sq
    ((HT.z.sq
          (HT.lp [((7 : Nat), Ty.one (Sh.int IntKind.i64))] (HT.z.sq (((HT.rg (9 : Nat)).sq HT.z).bl.sq HT.z))).bl).sq
      HT.z))) Try.func35 (by kernel_rfl) (by kernel_rfl) (Eq.mp (by kernel_rfl) h)

/-- dunnage/dunnagehelp.Plain[dunnage/api.Entry]$1 -/
theorem dunnagehelp_Plain_api_Entry_1.vc (x0 : ByteArray × Int × Int × Int) (x1 : ByteArray × Int × Int × Int) (w : World) (R : Bool → World → Prop)
  (h : let w1 :=
      w.alloc
        (Obj.cells
          #[Value.string x0.fst, Value.int IntKind.u64 x0.snd.fst, Value.int IntKind.i64 x0.snd.snd.fst,
            Value.int IntKind.i64 x0.snd.snd.snd]
          (38 : Nat));
    let w1_1 :=
      w1.alloc
        (Obj.cells
          #[Value.string x1.fst, Value.int IntKind.u64 x1.snd.fst, Value.int IntKind.i64 x1.snd.snd.fst,
            Value.int IntKind.i64 x1.snd.snd.snd]
          (38 : Nat));
    ∃ (x : ByteArray × Int × Int × Int),
      cellsAt w1_1 (Addr.mk w.heap.size (0 : Nat) none)
          [Value.string x.fst, Value.int IntKind.u64 x.snd.fst, Value.int IntKind.i64 x.snd.snd.fst,
            Value.int IntKind.i64 x.snd.snd.snd] ∧
        ∃ (x_1 : ByteArray × Int × Int × Int),
          cellsAt w1_1 (Addr.mk w1.heap.size (0 : Nat) none)
              [Value.string x_1.fst, Value.int IntKind.u64 x_1.snd.fst, Value.int IntKind.i64 x_1.snd.snd.fst,
                Value.int IntKind.i64 x_1.snd.snd.snd] ∧
            R
              (x.fst == x_1.fst &&
                (x.snd.fst == x_1.snd.fst &&
                    (x.snd.snd.fst == x_1.snd.snd.fst && (x.snd.snd.snd == x_1.snd.snd.snd && true)) &&
                  true))
              w1_1)
  : CallT [Ty.one Sh.bool] Try.prog 36 [Value.agg
    #[Value.string x0.fst, Value.int IntKind.u64 x0.snd.fst, Value.int IntKind.i64 x0.snd.snd.fst,
      Value.int IntKind.i64 x0.snd.snd.snd],
  Value.agg
    #[Value.string x1.fst, Value.int IntKind.u64 x1.snd.fst, Value.int IntKind.i64 x1.snd.snd.fst,
      Value.int IntKind.i64 x1.snd.snd.snd]] w R :=
  fnV_sound (h := HT.z) Try.func36 (by kernel_rfl) (by kernel_rfl) (Eq.mp (by kernel_rfl) h)

/-- slices.Clone[[]dunnage/api.Entry,dunnage/api.Entry] -/
theorem slices_Clone_api_Entry_api_Entry.vc (s0 : SV) (w : World) (R : SV → World → Prop)
  (h : cnd s0.a.isNone (R (SV.mk none (0 : Nat) (0 : Nat)) w)
      (appV Try.prog [(32 : Nat), (32 : Nat)] (32 : Nat)
        [Value.slice (some (Addr.mk w.heap.size (0 : Nat) none)) (0 : Nat) (0 : Nat), Value.slice s0.a s0.len s0.cap]
        (w.alloc (Obj.cells #[] (38 : Nat))) fun (s : SV) (w' : World) => R s w'))
  : CallT [Ty.one Sh.slice] Try.prog 37 [Value.slice s0.a s0.len s0.cap] w R :=
  fnV_sound (h := HT.z) Try.func37 (by kernel_rfl) (by kernel_rfl) (Eq.mp (by kernel_rfl) h)

/-- slices.ContainsFunc[[]dunnage/api.Pin,dunnage/api.Pin] -/
theorem slices_ContainsFunc_api_Pin_api_Pin.vc (s0 : SV) (v1 : Value) (w : World) (R : Bool → World → Prop)
  (h : CallT [Ty.one (Sh.int IntKind.i64)] Try.prog (45 : Nat) [Value.slice s0.a s0.len s0.cap, v1] w
      fun (x : Int) (w' : World) => R (decide (x ≥ (0 : Int))) w')
  : CallT [Ty.one Sh.bool] Try.prog 38 [Value.slice s0.a s0.len s0.cap, v1] w R :=
  fnV_sound (h := HT.z) Try.func38 (by kernel_rfl) (by kernel_rfl) (Eq.mp (by kernel_rfl) h)

/-- dunnage/snaps.Pin$1 -/
theorem snaps_Pin_1.vc (x0 : Int × Int) (p1 : Option Addr) (w : World) (R : Bool → World → Prop)
  (h : let w1 := w.alloc (Obj.cells #[Value.int IntKind.i64 x0.fst, Value.int IntKind.i64 x0.snd] (49 : Nat));
    ∃ (x : Int),
      w1.cell? ((Addr.mk w.heap.size (0 : Nat) none).add (1 : Nat)) = some (Value.int IntKind.i64 x) ∧
        onP p1 fun (A : Addr) => ∃ (x_1 : Int), w1.cell? A = some (Value.int IntKind.i64 x_1) ∧ R (x == x_1) w1)
  : CallT [Ty.one Sh.bool] Try.prog 39 [Value.agg #[Value.int IntKind.i64 x0.fst, Value.int IntKind.i64 x0.snd], Value.pointer p1] w R :=
  fnV_sound (h := HT.z) Try.func39 (by kernel_rfl) (by kernel_rfl) (Eq.mp (by kernel_rfl) h)

/-- slices.Clone[[]dunnage/api.Pin,dunnage/api.Pin] -/
theorem slices_Clone_api_Pin_api_Pin.vc (s0 : SV) (w : World) (R : SV → World → Prop)
  (h : cnd s0.a.isNone (R (SV.mk none (0 : Nat) (0 : Nat)) w)
      (appV Try.prog [(44 : Nat), (44 : Nat)] (44 : Nat)
        [Value.slice (some (Addr.mk w.heap.size (0 : Nat) none)) (0 : Nat) (0 : Nat), Value.slice s0.a s0.len s0.cap]
        (w.alloc (Obj.cells #[] (49 : Nat))) fun (s : SV) (w' : World) => R s w'))
  : CallT [Ty.one Sh.slice] Try.prog 40 [Value.slice s0.a s0.len s0.cap] w R :=
  fnV_sound (h := HT.z) Try.func40 (by kernel_rfl) (by kernel_rfl) (Eq.mp (by kernel_rfl) h)

/-- dunnage/dunnageref19.free -/
theorem dunnageref19_free.vc (x0 : Int × SV) (w : World) (R : Int → World → Prop)
  (h : ∃ (I : Nat → Int → World → Prop),
      (∃ (n : Nat),
          I n (1 : Int)
            (w.alloc (Obj.cells #[Value.int IntKind.i64 x0.fst, Value.slice x0.snd.a x0.snd.len x0.snd.cap] (46 : Nat)))) ∧
        ∀ (n : Nat) (x : Int) (j : Nat → Value) (w' : World),
          I n x w' →
            ∃ (I_1 : Nat → Bool × Int → World → Prop),
              (∃ (n : Nat), I_1 n (false, (0 : Int)) w') ∧
                ∀ (n_1 : Nat) (x_1 : Bool × Int) (j : Nat → Value) (w' : World),
                  I_1 n_1 x_1 w' →
                    let e1 := x_1.snd;
                    ∃ (x_2 : SV),
                      w'.cell? ((Addr.mk w.heap.size (0 : Nat) none).add (1 : Nat)) =
                          some (Value.slice x_2.a x_2.len x_2.cap) ∧
                        cnd (decide (e1 < (↑x_2.len : Int)))
                          (cnd x_1.fst (∃ (m : Nat), m < n_1 ∧ I_1 m (true, IntKind.i64.wrap (x_1.snd + (1 : Int))) w')
                            (∃ (x_3 : SV),
                              w'.cell? ((Addr.mk w.heap.size (0 : Nat) none).add (1 : Nat)) =
                                  some (Value.slice x_3.a x_3.len x_3.cap) ∧
                                let e1 := x_1.snd;
                                (0 : Int) ≤ e1 ∧
                                  e1 < (↑x_3.len : Int) ∧
                                    onP x_3.a fun (A : Addr) =>
                                      ∃ (x_4 : Int),
                                        w'.cell? ((A.add (e1.toNat * (2 : Nat))).add (1 : Nat)) =
                                            some (Value.int IntKind.i64 x_4) ∧
                                          ∃ (m : Nat),
                                            m < n_1 ∧ I_1 m (x_4 == x, IntKind.i64.wrap (x_1.snd + (1 : Int))) w'))
                          (cnd (!x_1.fst) (R x w') (∃ (m : Nat), m < n ∧ I m (IntKind.i64.wrap (x + (1 : Int))) w')))
  : CallT [Ty.one (Sh.int IntKind.i64)] Try.prog 41 [Value.agg #[Value.int IntKind.i64 x0.fst, Value.slice x0.snd.a x0.snd.len x0.snd.cap]] w R :=
  fnV_sound (h := HT.z.sq
  (HT.z.sq
    (HT.lp [((3 : Nat), Ty.one (Sh.int IntKind.i64))]
        ((HT.z.sq
                ((HT.z.sq (HT.lp [((4 : Nat), Ty.one Sh.bool), ((5 : Nat), Ty.one (Sh.int IntKind.i64))] HT.z).bl).sq
                  HT.z)).bl.sq
          HT.z)).bl)) Try.func41 (by kernel_rfl) (by kernel_rfl) (Eq.mp (by kernel_rfl) h)

/-- slices.DeleteFunc[[]dunnage/api.Pin,dunnage/api.Pin] -/
theorem slices_DeleteFunc_api_Pin_api_Pin.vc (s0 : SV) (v1 : Value) (w : World) (R : SV → World → Prop)
  (h : CallT [Ty.one (Sh.int IntKind.i64)] Try.prog (45 : Nat) [Value.slice s0.a s0.len s0.cap, v1] w
      fun (x : Int) (w' : World) =>
      cnd (x == (-1 : Int)) (R s0 w')
        (∃ (I : Nat → Int × Int → World → Prop),
          (∃ (n : Nat), I n (x, IntKind.i64.wrap (x + (1 : Int))) w') ∧
            ∀ (n : Nat) (x : Int × Int) (j : Nat → Value) (w' : World),
              I n x w' →
                let e1 := x.snd;
                cnd (decide (e1 < (↑s0.len : Int)))
                  (let e1 := x.snd;
                  (0 : Int) ≤ e1 ∧
                    e1 < (↑s0.len : Int) ∧
                      onP s0.a fun (A : Addr) =>
                        ∃ (x_1 : Int × Int),
                          cellsAt w' (A.add (e1.toNat * (2 : Nat)))
                              [Value.int IntKind.i64 x_1.fst, Value.int IntKind.i64 x_1.snd] ∧
                            let w1 :=
                              w'.alloc
                                (Obj.cells #[Value.int IntKind.i64 (0 : Int), Value.int IntKind.i64 (0 : Int)] (49 : Nat));
                            canSt w1 (Addr.mk w'.heap.size (0 : Nat) none) (2 : Nat) ∧
                              let w1 :=
                                setCells w1 (Addr.mk w'.heap.size (0 : Nat) none) (0 : Nat)
                                  [Value.int IntKind.i64 x_1.fst, Value.int IntKind.i64 x_1.snd];
                              ∃ (x_2 : Int × Int),
                                cellsAt w1 (Addr.mk w'.heap.size (0 : Nat) none)
                                    [Value.int IntKind.i64 x_2.fst, Value.int IntKind.i64 x_2.snd] ∧
                                  callVal [Ty.one Sh.bool] Try.prog v1
                                    [Value.agg #[Value.int IntKind.i64 x_2.fst, Value.int IntKind.i64 x_2.snd]] w1
                                    fun (x_3 : Bool) (w'_1 : World) =>
                                    cnd (!x_3)
                                      (let e1 := x.fst;
                                      ∃ (x_4 : Int × Int),
                                        cellsAt w'_1 (Addr.mk w'.heap.size (0 : Nat) none)
                                            [Value.int IntKind.i64 x_4.fst, Value.int IntKind.i64 x_4.snd] ∧
                                          (0 : Int) ≤ e1 ∧
                                            e1 < (↑s0.len : Int) ∧
                                              onP s0.a fun (A : Addr) =>
                                                canSt w'_1 (A.add (e1.toNat * (2 : Nat))) (2 : Nat) ∧
                                                  ∃ (m : Nat),
                                                    m < n ∧
                                                      I m
                                                        (IntKind.i64.wrap (x.fst + (1 : Int)),
                                                          IntKind.i64.wrap (x.snd + (1 : Int)))
                                                        (setCells w'_1 (A.add (e1.toNat * (2 : Nat))) (0 : Nat)
                                                          [Value.int IntKind.i64 x_4.fst, Value.int IntKind.i64 x_4.snd]))
                                      (∃ (m : Nat), m < n ∧ I m (x.fst, IntKind.i64.wrap (x.snd + (1 : Int))) w'_1))
                  (let e1 := x.fst;
                  (0 : Int) ≤ e1 ∧ e1 ≤ (↑s0.len : Int) ∧ False)))
  : CallT [Ty.one Sh.slice] Try.prog 42 [Value.slice s0.a s0.len s0.cap, v1] w R :=
  fnV_sound (h := HT.z.sq
  (HT.z.sq
    (HT.z.sq
      ((HT.z.sq (HT.lp [((5 : Nat), Ty.one (Sh.int IntKind.i64)), ((6 : Nat), Ty.one (Sh.int IntKind.i64))] HT.z).bl).sq
        HT.z)))) Try.func42 (by kernel_rfl) (by kernel_rfl) (Eq.mp (by kernel_rfl) h)

/-- dunnage/snaps.Release$1 -/
theorem snaps_Release_1.vc (x0 : Int × Int) (p1 : Option Addr) (w : World) (R : Bool → World → Prop)
  (h : let w1 := w.alloc (Obj.cells #[Value.int IntKind.i64 x0.fst, Value.int IntKind.i64 x0.snd] (49 : Nat));
    ∃ (x : Int),
      w1.cell? ((Addr.mk w.heap.size (0 : Nat) none).add (0 : Nat)) = some (Value.int IntKind.i64 x) ∧
        onP p1 fun (A : Addr) => ∃ (x_1 : Int), w1.cell? A = some (Value.int IntKind.i64 x_1) ∧ R (x == x_1) w1)
  : CallT [Ty.one Sh.bool] Try.prog 43 [Value.agg #[Value.int IntKind.i64 x0.fst, Value.int IntKind.i64 x0.snd], Value.pointer p1] w R :=
  fnV_sound (h := HT.z) Try.func43 (by kernel_rfl) (by kernel_rfl) (Eq.mp (by kernel_rfl) h)

/-- dunnage/dunnagehelp.Plain[dunnage/api.Pin] -/
theorem dunnagehelp_Plain_api_Pin.vc (s0 : SV) (s1 : SV) (w : World) (R : Bool → World → Prop)
  (h : CallT [Ty.one Sh.bool] Try.prog (46 : Nat)
      [Value.slice s0.a s0.len s0.cap, Value.slice s1.a s1.len s1.cap, Value.func (Fn.func (47 : Nat)) #[] #[]] w
      fun (x : Bool) (w' : World) => R x w')
  : CallT [Ty.one Sh.bool] Try.prog 44 [Value.slice s0.a s0.len s0.cap, Value.slice s1.a s1.len s1.cap] w R :=
  fnV_sound (h := HT.z) Try.func44 (by kernel_rfl) (by kernel_rfl) (Eq.mp (by kernel_rfl) h)

/-- slices.IndexFunc[[]dunnage/api.Pin,dunnage/api.Pin] -/
theorem slices_IndexFunc_api_Pin_api_Pin.vc (s0 : SV) (v1 : Value) (w : World) (R : Int → World → Prop)
  (h : ∃ (I : Nat → Int → World → Prop),
      (∃ (n : Nat), I n (0 : Int) w) ∧
        ∀ (n : Nat) (x : Int) (j : Nat → Value) (w' : World),
          I n x w' →
            cnd (decide (x < (↑s0.len : Int)))
              ((0 : Int) ≤ x ∧
                x < (↑s0.len : Int) ∧
                  onP s0.a fun (A : Addr) =>
                    ∃ (x_1 : Int × Int),
                      cellsAt w' (A.add (x.toNat * (2 : Nat)))
                          [Value.int IntKind.i64 x_1.fst, Value.int IntKind.i64 x_1.snd] ∧
                        callVal [Ty.one Sh.bool] Try.prog v1
                          [Value.agg #[Value.int IntKind.i64 x_1.fst, Value.int IntKind.i64 x_1.snd]] w'
                          fun (x_2 : Bool) (w' : World) =>
                          cnd x_2 (R x w') (∃ (m : Nat), m < n ∧ I m (IntKind.i64.wrap (x + (1 : Int))) w'))
              (R (-1 : Int) w'))
  : CallT [Ty.one (Sh.int IntKind.i64)] Try.prog 45 [Value.slice s0.a s0.len s0.cap, v1] w R :=
  fnV_sound (h := HT.z.sq ((HT.z.sq (HT.lp [((8 : Nat), Ty.one (Sh.int IntKind.i64))] HT.z).bl).sq HT.z)) Try.func45 (by kernel_rfl) (by kernel_rfl) (Eq.mp (by kernel_rfl) h)

/-- dunnage/dunnagehelp.Same[dunnage/api.Pin] -/
theorem dunnagehelp_Same_api_Pin.vc (s0 : SV) (s1 : SV) (v2 : Value) (w : World) (R : Bool → World → Prop)
  (h : cnd ((↑s0.len : Int) != (↑s1.len : Int)) (R false w)
      (∃ (I : Nat → Int → World → Prop),
        (∃ (n : Nat), I n (0 : Int) w) ∧
          ∀ (n : Nat) (x : Int) (j : Nat → Value) (w' : World),
            I n x w' →
              cnd (decide (x < (↑s0.len : Int)))
                ((0 : Int) ≤ x ∧
                  x < (↑s0.len : Int) ∧
                    onP s0.a fun (A : Addr) =>
                      ∃ (x_1 : Int × Int),
                        cellsAt w'.drew (A.add (x.toNat * (2 : Nat)))
                            [Value.int IntKind.i64 x_1.fst, Value.int IntKind.i64 x_1.snd] ∧
                          (0 : Int) ≤ x ∧
                            x < (↑s1.len : Int) ∧
                              onP s1.a fun (A : Addr) =>
                                ∃ (x_2 : Int × Int),
                                  cellsAt w'.drew (A.add (x.toNat * (2 : Nat)))
                                      [Value.int IntKind.i64 x_2.fst, Value.int IntKind.i64 x_2.snd] ∧
                                    callVal [Ty.one Sh.bool] Try.prog v2
                                      [Value.agg #[Value.int IntKind.i64 x_1.fst, Value.int IntKind.i64 x_1.snd],
                                        Value.agg #[Value.int IntKind.i64 x_2.fst, Value.int IntKind.i64 x_2.snd]]
                                      w'.drew fun (x_3 : Bool) (w' : World) =>
                                      cnd (!x_3) (R false w')
                                        (∃ (m : Nat), m < n ∧ I m (IntKind.i64.wrap (x + (1 : Int))) w'))
                (R true w')))
  : CallT [Ty.one Sh.bool] Try.prog 46 [Value.slice s0.a s0.len s0.cap, Value.slice s1.a s1.len s1.cap, v2] w R :=
  fnV_sound (h := HT.z.sq
  (HT.z.sq
    ((HT.z.sq
          (HT.lp [((7 : Nat), Ty.one (Sh.int IntKind.i64))] (HT.z.sq (((HT.rg (9 : Nat)).sq HT.z).bl.sq HT.z))).bl).sq
      HT.z))) Try.func46 (by kernel_rfl) (by kernel_rfl) (Eq.mp (by kernel_rfl) h)

/-- dunnage/dunnagehelp.Plain[dunnage/api.Pin]$1 -/
theorem dunnagehelp_Plain_api_Pin_1.vc (x0 : Int × Int) (x1 : Int × Int) (w : World) (R : Bool → World → Prop)
  (h : let w1 := w.alloc (Obj.cells #[Value.int IntKind.i64 x0.fst, Value.int IntKind.i64 x0.snd] (49 : Nat));
    let w1_1 := w1.alloc (Obj.cells #[Value.int IntKind.i64 x1.fst, Value.int IntKind.i64 x1.snd] (49 : Nat));
    ∃ (x : Int × Int),
      cellsAt w1_1 (Addr.mk w.heap.size (0 : Nat) none) [Value.int IntKind.i64 x.fst, Value.int IntKind.i64 x.snd] ∧
        ∃ (x_1 : Int × Int),
          cellsAt w1_1 (Addr.mk w1.heap.size (0 : Nat) none)
              [Value.int IntKind.i64 x_1.fst, Value.int IntKind.i64 x_1.snd] ∧
            R (x.fst == x_1.fst && (x.snd == x_1.snd && true)) w1_1)
  : CallT [Ty.one Sh.bool] Try.prog 47 [Value.agg #[Value.int IntKind.i64 x0.fst, Value.int IntKind.i64 x0.snd],
  Value.agg #[Value.int IntKind.i64 x1.fst, Value.int IntKind.i64 x1.snd]] w R :=
  fnV_sound (h := HT.z) Try.func47 (by kernel_rfl) (by kernel_rfl) (Eq.mp (by kernel_rfl) h)

end Go.Proofs
