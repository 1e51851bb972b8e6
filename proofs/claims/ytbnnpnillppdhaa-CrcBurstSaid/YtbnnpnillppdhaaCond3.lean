/- The conditions of the seat's functions, written by a program (VcTool, genvc.py) off 'vc' reduced; each is tied to 'vc' by the kernel. Conditions: none. -/
import Derived.Test.YtbnnpnillppdhaaVcSound5
import Derived.Test.YtbnnpnillppdhaaProg
set_option linter.unusedVariables false
set_option maxRecDepth 100000
namespace Go.Proofs
open Go Go.Vc
/-- dunnage/word.ReadVar$1 -/
theorem word_ReadVar_1.vc (n0 : Int) (p1 : Option Addr) (p2 : Option Addr) (p3 : Option Addr) (w : World) (R : Bool → World → Prop)
  (h : ∃ (R_1 : PUnit → World → Prop),
      (onP p1 fun (A : Addr) =>
          ∃ (x : Int),
            w.cell? A = some (Value.int IntKind.i64 x) ∧
              cnd (x == (9 : Int))
                (cnd (decide (n0 > (1 : Int)))
                  (onP p2 fun (A : Addr) =>
                    (w.cell? A).isSome = true ∧ w.frozen? A = false ∧ R false (w.setCell A (Value.bool false)))
                  (onP p1 fun (A : Addr) =>
                    ∃ (x : Int),
                      w.cell? A = some (Value.int IntKind.i64 x) ∧
                        cnd (decide (x > (0 : Int)))
                          (cnd (n0 == (0 : Int))
                            (onP p2 fun (A : Addr) =>
                              (w.cell? A).isSome = true ∧ w.frozen? A = false ∧ R false (w.setCell A (Value.bool false)))
                            (R_1 () w))
                          (R_1 () w)))
                (onP p1 fun (A : Addr) =>
                  ∃ (x : Int),
                    w.cell? A = some (Value.int IntKind.i64 x) ∧
                      cnd (decide (x > (0 : Int)))
                        (cnd (n0 == (0 : Int))
                          (onP p2 fun (A : Addr) =>
                            (w.cell? A).isSome = true ∧ w.frozen? A = false ∧ R false (w.setCell A (Value.bool false)))
                          (R_1 () w))
                        (R_1 () w))) ∧
        ∀ (x : PUnit) (j : Nat → Value) (w' : World),
          R_1 x w' →
            onP p3 fun (A : Addr) =>
              ∃ (x : Int),
                w'.drew.cell? A = some (Value.int IntKind.u64 x) ∧
                  onP p1 fun (A : Addr) =>
                    ∃ (x_1 : Int),
                      w'.drew.cell? A = some (Value.int IntKind.i64 x_1) ∧
                        (0 : Int) ≤ IntKind.i64.wrap ((7 : Int) * x_1) ∧
                          onP p3 fun (A : Addr) =>
                            (w'.drew.cell? A).isSome = true ∧
                              w'.drew.frozen? A = false ∧
                                let w1 :=
                                  w'.drew.setCell A
                                    (Value.int IntKind.u64
                                      (bor IntKind.u64 x
                                        (shl IntKind.u64 (IntKind.u64.wrap (band IntKind.u8 n0 (127 : Int)))
                                          (IntKind.i64.wrap ((7 : Int) * x_1)))));
                                onP p1 fun (A : Addr) =>
                                  ∃ (x : Int),
                                    w1.cell? A = some (Value.int IntKind.i64 x) ∧
                                      onP p1 fun (A : Addr) =>
                                        (w1.cell? A).isSome = true ∧
                                          w1.frozen? A = false ∧
                                            R (decide (n0 ≥ (128 : Int)))
                                              (w1.setCell A (Value.int IntKind.i64 (IntKind.i64.wrap (x + (1 : Int))))))
  : CallT [Ty.one Sh.bool] Try.prog 70 [Value.int IntKind.u8 n0, Value.pointer p1, Value.pointer p2, Value.pointer p3] w R :=
  fnV_sound (h := HT.z.sq (HT.jn [] HT.z ((HT.rg (8 : Nat)).sq HT.z))) Try.func70 (by kernel_rfl) (by kernel_rfl) (Eq.mp (by kernel_rfl) h)

/-- (dunnage/word.walk).over -/
theorem word_walk_over.vc (x0 : Value) (s1 : SV) (n2 : Int) (w : World) (R : Int × Bool → World → Prop)
  (h : ∃ (I : Nat → Int → World → Prop),
      (∃ (n : Nat), I n n2 (w.alloc (Obj.cells #[x0] (85 : Nat)))) ∧
        ∀ (n : Nat) (x : Int) (j : Nat → Value) (w' : World),
          I n x w' →
            cnd (decide (x < (↑s1.len : Int)))
              (∃ (x_1 : Value),
                w'.drew.cell? ((Addr.mk w.heap.size (0 : Nat) none).add (0 : Nat)) = some x_1 ∧
                  let e1 := IntKind.i64.wrap (IntKind.i64.wrap (x + (1 : Int)) - (1 : Int));
                  (0 : Int) ≤ e1 ∧
                    e1 < (↑s1.len : Int) ∧
                      onP s1.a fun (A : Addr) =>
                        ∃ (x_2 : Int),
                          w'.drew.cell? (A.add (e1.toNat * (1 : Nat))) = some (Value.int IntKind.u8 x_2) ∧
                            callVal [Ty.one Sh.bool] Try.prog x_1 [Value.int IntKind.u8 x_2] w'.drew
                              fun (x_3 : Bool) (w' : World) =>
                              cnd (!x_3) (R (IntKind.i64.wrap (x + (1 : Int)), false) w')
                                (∃ (m : Nat), m < n ∧ I m (IntKind.i64.wrap (x + (1 : Int))) w'))
              (R (x, true) w'))
  : CallT [Ty.one (Sh.int IntKind.i64), Ty.one Sh.bool] Try.prog 71 [Value.agg #[x0], Value.slice s1.a s1.len s1.cap, Value.int IntKind.i64 n2] w R :=
  fnV_sound (h := HT.z.sq
  ((HT.lp [((2 : Nat), Ty.one (Sh.int IntKind.i64))] (HT.z.sq (HT.z.sq ((HT.rg (7 : Nat)).sq HT.z)).bl)).bl.sq HT.z)) Try.func71 (by kernel_rfl) (by kernel_rfl) (Eq.mp (by kernel_rfl) h)

/-- slices.Clone[[]byte,byte] -/
theorem slices_Clone_byte_byte.vc (s0 : SV) (w : World) (R : SV → World → Prop)
  (h : cnd s0.a.isNone (R (SV.mk none (0 : Nat) (0 : Nat)) w)
      (appV Try.prog [(23 : Nat), (23 : Nat)] (23 : Nat)
        [Value.slice (some (Addr.mk w.heap.size (0 : Nat) none)) (0 : Nat) (0 : Nat), Value.slice s0.a s0.len s0.cap]
        (w.alloc (Obj.cells #[] (5 : Nat))) fun (s : SV) (w' : World) => R s w'))
  : CallT [Ty.one Sh.slice] Try.prog 72 [Value.slice s0.a s0.len s0.cap] w R :=
  fnV_sound (h := HT.z) Try.func72 (by kernel_rfl) (by kernel_rfl) (Eq.mp (by kernel_rfl) h)

/-- dunnage/crc.times -/
theorem crc_times.vc (n0 : Int) (n1 : Int) (w : World) (R : Int → World → Prop)
  (h : ∃ (I : Nat → Int × Int × Int → World → Prop),
      (∃ (n : Nat), I n (n1, (0 : Int), (31 : Int)) w) ∧
        ∀ (n : Nat) (x : Int × Int × Int) (j : Nat → Value) (w' : World),
          I n x w' →
            let e1 := x.snd.snd;
            cnd (decide (e1 ≥ (0 : Int)))
              (∃ (R : Int → World → Prop),
                (let e1 := x.snd.snd;
                  (0 : Int) ≤ e1 ∧
                    cnd (band IntKind.u32 (shr IntKind.u32 n0 e1) (1 : Int) != (0 : Int))
                      (R (bxor IntKind.u32 x.snd.fst x.fst) w') (R x.snd.fst w')) ∧
                  ∀ (x_1 : Int) (j : Nat → Value) (w' : World),
                    R x_1 w' →
                      CallT [Ty.one (Sh.int IntKind.u32)] Try.prog (66 : Nat) [Value.int IntKind.u32 x.fst] w'
                        fun (x_2 : Int) (w' : World) =>
                        ∃ (m : Nat), m < n ∧ I m (x_2, x_1, IntKind.i64.wrap (x.snd.snd - (1 : Int))) w')
              (R x.snd.fst w'))
  : CallT [Ty.one (Sh.int IntKind.u32)] Try.prog 73 [Value.int IntKind.u32 n0, Value.int IntKind.u32 n1] w R :=
  fnV_sound (h := HT.z.sq
  (HT.z.sq
    ((HT.z.sq
          (HT.lp
              [((1 : Nat), Ty.one (Sh.int IntKind.u32)), ((5 : Nat), Ty.one (Sh.int IntKind.u32)),
                ((6 : Nat), Ty.one (Sh.int IntKind.i64))]
              (HT.z.sq ((HT.jn [((5 : Nat), Ty.one (Sh.int IntKind.u32))] HT.z HT.z).bl.sq HT.z))).bl).sq
      HT.z))) Try.func73 (by kernel_rfl) (by kernel_rfl) (Eq.mp (by kernel_rfl) h)

/-- dunnage/dunnageref02.times -/
theorem dunnageref02_times.vc (n0 : Int) (n1 : Int) (w : World) (R : Int → World → Prop)
  (h : ∃ (I : Nat → Int × Int × Int × Int → World → Prop),
      (∃ (n : Nat), I n (n0, n1, (0 : Int), (0 : Int)) w) ∧
        ∀ (n : Nat) (x : Int × Int × Int × Int) (j : Nat → Value) (w' : World),
          I n x w' →
            let e1 := x.snd.snd.snd;
            cnd (decide (e1 < (32 : Int)))
              (∃ (R : Int → World → Prop),
                cnd (band IntKind.u32 x.fst (2147483648 : Int) != (0 : Int))
                    (R (bxor IntKind.u32 x.snd.snd.fst x.snd.fst) w') (R x.snd.snd.fst w') ∧
                  ∀ (x_1 : Int) (j : Nat → Value) (w' : World),
                    R x_1 w' →
                      CallT [Ty.one (Sh.int IntKind.u32)] Try.prog (67 : Nat) [Value.int IntKind.u32 x.snd.fst] w'
                        fun (x_2 : Int) (w' : World) =>
                        ∃ (m : Nat),
                          m < n ∧
                            I m (shl IntKind.u32 x.fst (1 : Int), x_2, x_1, IntKind.i64.wrap (x.snd.snd.snd + (1 : Int)))
                              w')
              (R x.snd.snd.fst w'))
  : CallT [Ty.one (Sh.int IntKind.u32)] Try.prog 74 [Value.int IntKind.u32 n0, Value.int IntKind.u32 n1] w R :=
  fnV_sound (h := HT.z.sq
  (HT.z.sq
    ((HT.z.sq
          (HT.lp
              [((0 : Nat), Ty.one (Sh.int IntKind.u32)), ((1 : Nat), Ty.one (Sh.int IntKind.u32)),
                ((5 : Nat), Ty.one (Sh.int IntKind.u32)), ((6 : Nat), Ty.one (Sh.int IntKind.i64))]
              (HT.z.sq ((HT.jn [((5 : Nat), Ty.one (Sh.int IntKind.u32))] HT.z HT.z).bl.sq HT.z))).bl).sq
      HT.z))) Try.func74 (by kernel_rfl) (by kernel_rfl) (Eq.mp (by kernel_rfl) h)

/-- dunnage/dunnageref02.power -/
theorem dunnageref02_power.vc (n0 : Int) (w : World) (R : Int → World → Prop)
  (h : ∃ (I : Nat → Int × Int × Int → World → Prop),
      (∃ (n : Nat), I n (n0, (2147483648 : Int), (8388608 : Int)) w) ∧
        ∀ (n : Nat) (x : Int × Int × Int) (j : Nat → Value) (w' : World),
          I n x w' →
            let e1 := x.fst;
            cnd (decide (e1 > (0 : Int)))
              (∃ (R : Int → World → Prop),
                cnd (band IntKind.i64 x.fst (1 : Int) == (1 : Int))
                    (CallT [Ty.one (Sh.int IntKind.u32)] Try.prog (74 : Nat)
                      [Value.int IntKind.u32 x.snd.fst, Value.int IntKind.u32 x.snd.snd] w' fun (x : Int) (w' : World) =>
                      R x w')
                    (R x.snd.fst w') ∧
                  ∀ (x_1 : Int) (j : Nat → Value) (w' : World),
                    R x_1 w' →
                      CallT [Ty.one (Sh.int IntKind.u32)] Try.prog (74 : Nat)
                        [Value.int IntKind.u32 x.snd.snd, Value.int IntKind.u32 x.snd.snd] w'
                        fun (x_2 : Int) (w' : World) =>
                        ∃ (m : Nat), m < n ∧ I m (shr IntKind.i64 x.fst (1 : Int), x_1, x_2) w')
              (R x.snd.fst w'))
  : CallT [Ty.one (Sh.int IntKind.u32)] Try.prog 75 [Value.int IntKind.i64 n0] w R :=
  fnV_sound (h := HT.z.sq
  (HT.z.sq
    ((HT.lp
            [((0 : Nat), Ty.one (Sh.int IntKind.i64)), ((3 : Nat), Ty.one (Sh.int IntKind.u32)),
              ((4 : Nat), Ty.one (Sh.int IntKind.u32))]
            (HT.z.sq (HT.jn [((3 : Nat), Ty.one (Sh.int IntKind.u32))] HT.z HT.z).bl)).bl.sq
      HT.z))) Try.func75 (by kernel_rfl) (by kernel_rfl) (Eq.mp (by kernel_rfl) h)

/-- dunnage/dunnageref01.Fits -/
theorem dunnageref01_Fits.vc (n0 : Int) (n1 : Int) (w : World) (R : Bool → World → Prop)
  (h : cnd (decide (n1 ≥ (8 : Int))) (R true w)
      ((0 : Int) ≤ IntKind.u64.wrap ((8 : Int) * IntKind.u64.wrap n1) ∧
        R (shr IntKind.u64 n0 (IntKind.u64.wrap ((8 : Int) * IntKind.u64.wrap n1)) == (0 : Int)) w))
  : CallT [Ty.one Sh.bool] Try.prog 76 [Value.int IntKind.u64 n0, Value.int IntKind.i64 n1] w R :=
  fnV_sound (h := HT.z) Try.func76 (by kernel_rfl) (by kernel_rfl) (Eq.mp (by kernel_rfl) h)

/-- dunnage/word.Get$1 -/
theorem word_Get_1.vc (n0 : Int) (p1 : Option Addr) (p2 : Option Addr) (w : World) (R : Bool → World → Prop)
  (h : onP p1 fun (A : Addr) =>
      ∃ (x : Int),
        w.drew.cell? A = some (Value.int IntKind.u64 x) ∧
          onP p2 fun (A : Addr) =>
            ∃ (x_1 : Int),
              w.drew.cell? A = some (Value.int IntKind.i64 x_1) ∧
                (0 : Int) ≤ x_1 ∧
                  onP p1 fun (A : Addr) =>
                    (w.drew.cell? A).isSome = true ∧
                      w.drew.frozen? A = false ∧
                        let w1 :=
                          w.drew.setCell A
                            (Value.int IntKind.u64 (bor IntKind.u64 x (shl IntKind.u64 (IntKind.u64.wrap n0) x_1)));
                        onP p2 fun (A : Addr) =>
                          ∃ (x : Int),
                            w1.cell? A = some (Value.int IntKind.i64 x) ∧
                              onP p2 fun (A : Addr) =>
                                (w1.cell? A).isSome = true ∧
                                  w1.frozen? A = false ∧
                                    R true (w1.setCell A (Value.int IntKind.i64 (IntKind.i64.wrap (x + (8 : Int))))))
  : CallT [Ty.one Sh.bool] Try.prog 77 [Value.int IntKind.u8 n0, Value.pointer p1, Value.pointer p2] w R :=
  fnV_sound (h := HT.z.sq ((HT.rg (6 : Nat)).sq HT.z)) Try.func77 (by kernel_rfl) (by kernel_rfl) (Eq.mp (by kernel_rfl) h)

/-- dunnage/dunnageref05.in -/
theorem dunnageref05_in.vc (n0 : Int) (n1 : Int) (n2 : Int) (w : World) (R : Bool → World → Prop)
  (h : cnd (decide (n0 ≥ n1)) (R (decide (n0 < IntKind.i64.wrap (n1 + n2))) w) (R false w))
  : CallT [Ty.one Sh.bool] Try.prog 78 [Value.int IntKind.i64 n0, Value.int IntKind.i64 n1, Value.int IntKind.i64 n2] w R :=
  fnV_sound (h := HT.z) Try.func78 (by kernel_rfl) (by kernel_rfl) (Eq.mp (by kernel_rfl) h)

/-- dunnage/word.Zero$1 -/
theorem word_Zero_1.vc (n0 : Int) (w : World) (R : Bool → World → Prop)
  (h : R (n0 == (0 : Int)) w)
  : CallT [Ty.one Sh.bool] Try.prog 79 [Value.int IntKind.u8 n0] w R :=
  fnV_sound (h := HT.z) Try.func79 (by kernel_rfl) (by kernel_rfl) (Eq.mp (by kernel_rfl) h)

/-- dunnage/dunnagehelp.Same[byte] -/
theorem dunnagehelp_Same_byte.vc (s0 : SV) (s1 : SV) (v2 : Value) (w : World) (R : Bool → World → Prop)
  (h : cnd ((↑s0.len : Int) != (↑s1.len : Int)) (R false w)
      (∃ (I : Nat → Int → World → Prop),
        (∃ (n : Nat), I n (0 : Int) w) ∧
          ∀ (n : Nat) (x : Int) (j : Nat → Value) (w' : World),
            I n x w' →
              cnd (decide (x < (↑s0.len : Int)))
                ((0 : Int) ≤ x ∧
                  x < (↑s0.len : Int) ∧
                    onP s0.a fun (A : Addr) =>
                      ∃ (x_1 : Int),
                        w'.drew.cell? (A.add (x.toNat * (1 : Nat))) = some (Value.int IntKind.u8 x_1) ∧
                          (0 : Int) ≤ x ∧
                            x < (↑s1.len : Int) ∧
                              onP s1.a fun (A : Addr) =>
                                ∃ (x_2 : Int),
                                  w'.drew.cell? (A.add (x.toNat * (1 : Nat))) = some (Value.int IntKind.u8 x_2) ∧
                                    callVal [Ty.one Sh.bool] Try.prog v2
                                      [Value.int IntKind.u8 x_1, Value.int IntKind.u8 x_2] w'.drew
                                      fun (x_3 : Bool) (w' : World) =>
                                      cnd (!x_3) (R false w')
                                        (∃ (m : Nat), m < n ∧ I m (IntKind.i64.wrap (x + (1 : Int))) w'))
                (R true w')))
  : CallT [Ty.one Sh.bool] Try.prog 80 [Value.slice s0.a s0.len s0.cap, Value.slice s1.a s1.len s1.cap, v2] w R :=
  fnV_sound (h := HT.z.sq
  (HT.z.sq
    ((HT.z.sq
          (HT.lp [((7 : Nat), Ty.one (Sh.int IntKind.i64))] (HT.z.sq (((HT.rg (9 : Nat)).sq HT.z).bl.sq HT.z))).bl).sq
      HT.z))) Try.func80 (by kernel_rfl) (by kernel_rfl) (Eq.mp (by kernel_rfl) h)

/-- dunnage/dunnagehelp.Plain[byte]$1 -/
theorem dunnagehelp_Plain_byte_1.vc (n0 : Int) (n1 : Int) (w : World) (R : Bool → World → Prop)
  (h : R (n0 == n1) w)
  : CallT [Ty.one Sh.bool] Try.prog 81 [Value.int IntKind.u8 n0, Value.int IntKind.u8 n1] w R :=
  fnV_sound (h := HT.z) Try.func81 (by kernel_rfl) (by kernel_rfl) (Eq.mp (by kernel_rfl) h)

end Go.Proofs
