/- The conditions of the seat's functions, written by a program (VcTool, genvc.py) off 'vc' reduced; each is tied to 'vc' by the kernel. Conditions: none. -/
import Derived.Test.YtinolellciikoaaVcSound5
import Derived.Test.YtinolellciikoaaProg
set_option linter.unusedVariables false
set_option maxRecDepth 100000
namespace Go.Proofs
open Go Go.Vc
/-- dunnage/sector.put -/
theorem sector_put.vc (s0 : SV) (n1 : Int) (n2 : Int) (n3 : Int) (w : World) (R : PUnit → World → Prop)
  (h : CallT [Ty.one Sh.slice, Ty.one (Sh.int IntKind.i64)] Try.prog (188 : Nat)
      [Value.slice none (0 : Nat) (0 : Nat), Value.int IntKind.u64 n3, Value.int IntKind.i64 n2] w
      fun (x : SV × Int) (w' : World) =>
      (0 : Int) ≤ IntKind.i64.wrap (n1 + n2) ∧
        IntKind.i64.wrap (n1 + n2) ≤ (↑s0.cap : Int) ∧
          (0 : Int) ≤ IntKind.i64.wrap (n1 + n2) ∧
            IntKind.i64.wrap (n1 + n2) ≤ (↑(IntKind.i64.wrap (n1 + n2)).toNat : Int) ∧
              (0 : Int) ≤ n1 ∧
                n1 ≤ (↑(IntKind.i64.wrap (n1 + n2)).toNat : Int) ∧
                  cpyV Try.prog [(23 : Nat), (23 : Nat)] (3 : Nat)
                    [Value.slice (subA s0.a n1.toNat (1 : Nat) (IntKind.i64.wrap (n1 + n2)).toNat)
                        ((IntKind.i64.wrap (n1 + n2)).toNat - n1.toNat) ((IntKind.i64.wrap (n1 + n2)).toNat - n1.toNat),
                      Value.slice x.fst.a x.fst.len x.fst.cap]
                    w' fun (n : Int) (w' : World) => R () w')
  : CallT [] Try.prog 171 [Value.slice s0.a s0.len s0.cap, Value.int IntKind.i64 n1, Value.int IntKind.i64 n2, Value.int IntKind.u64 n3] w R :=
  fnV_sound (h := HT.z) Try.func171 (by kernel_rfl) (by kernel_rfl) (Eq.mp (by kernel_rfl) h)

/-- dunnage/crc.Sum -/
theorem crc_Sum.vc (s0 : SV) (w : World) (R : Int → World → Prop)
  (h : CallT [Ty.one (Sh.int IntKind.u32)] Try.prog (189 : Nat)
      [Value.int IntKind.u32 (0 : Int), Value.slice s0.a s0.len s0.cap] w fun (x : Int) (w' : World) => R x w')
  : CallT [Ty.one (Sh.int IntKind.u32)] Try.prog 172 [Value.slice s0.a s0.len s0.cap] w R :=
  fnV_sound (h := HT.z) Try.func172 (by kernel_rfl) (by kernel_rfl) (Eq.mp (by kernel_rfl) h)

/-- dunnage/word.Zero -/
theorem word_Zero.vc (s0 : SV) (w : World) (R : Bool → World → Prop)
  (h : let w1 := w.alloc (Obj.cells #[Value.nilFunc] (211 : Nat));
    canSt w1 (Addr.mk w.heap.size (0 : Nat) none) (1 : Nat) ∧
      let w1 := setCells w1 (Addr.mk w.heap.size (0 : Nat) none) (0 : Nat) [Value.func (Fn.func (190 : Nat)) #[] #[]];
      ∃ (x : Value),
        cellsAt w1 (Addr.mk w.heap.size (0 : Nat) none) [x] ∧
          CallT [Ty.one (Sh.int IntKind.i64), Ty.one Sh.bool] Try.prog (164 : Nat)
            [Value.agg #[x], Value.slice s0.a s0.len s0.cap, Value.int IntKind.i64 (0 : Int)] w1
            fun (x : Int × Bool) (w' : World) => R x.snd w')
  : CallT [Ty.one Sh.bool] Try.prog 173 [Value.slice s0.a s0.len s0.cap] w R :=
  fnV_sound (h := HT.z) Try.func173 (by kernel_rfl) (by kernel_rfl) (Eq.mp (by kernel_rfl) h)

/-- dunnage/word.Get -/
theorem word_Get.vc (s0 : SV) (n1 : Int) (n2 : Int) (w : World) (R : Int × Int → World → Prop)
  (h : ∃ (R_1 : PUnit → World → Prop),
      cnd (decide (n2 < (1 : Int))) (R ((0 : Int), (1 : Int)) w)
          (cnd (decide (n2 > (8 : Int))) (R ((0 : Int), (1 : Int)) w)
            (cnd (decide (n1 < (0 : Int))) (R ((0 : Int), (1 : Int)) w) (R_1 () w))) ∧
        ∀ (x : PUnit) (j : Nat → Value) (w' : World),
          R_1 x w' →
            ∃ (R_2 : PUnit → World → Prop),
              cnd (decide (n1 > (↑s0.len : Int))) (R ((0 : Int), (10 : Int)) w')
                  (cnd (decide (IntKind.i64.wrap ((↑s0.len : Int) - n1) < n2)) (R ((0 : Int), (10 : Int)) w') (R_2 () w')) ∧
                ∀ (x : PUnit) (j : Nat → Value) (w' : World),
                  R_2 x w' →
                    let w1 := w'.alloc (Obj.cells #[Value.int IntKind.u64 (0 : Int)] (22 : Nat));
                    let w1_1 := w1.alloc (Obj.cells #[Value.int IntKind.i64 (0 : Int)] (3 : Nat));
                    (w1_1.cell? (Addr.mk w'.heap.size (0 : Nat) none)).isSome = true ∧
                      w1_1.frozen? (Addr.mk w'.heap.size (0 : Nat) none) = false ∧
                        let w1_2 := w1_1.setCell (Addr.mk w'.heap.size (0 : Nat) none) (Value.int IntKind.u64 (0 : Int));
                        (w1_2.cell? (Addr.mk w1.heap.size (0 : Nat) none)).isSome = true ∧
                          w1_2.frozen? (Addr.mk w1.heap.size (0 : Nat) none) = false ∧
                            let w1_3 :=
                              w1_2.setCell (Addr.mk w1.heap.size (0 : Nat) none) (Value.int IntKind.i64 (0 : Int));
                            let w1_4 := w1_3.alloc (Obj.cells #[Value.nilFunc] (211 : Nat));
                            canSt w1_4 (Addr.mk w1_3.heap.size (0 : Nat) none) (1 : Nat) ∧
                              let w1 :=
                                setCells w1_4 (Addr.mk w1_3.heap.size (0 : Nat) none) (0 : Nat)
                                  [Value.func (Fn.func (191 : Nat)) #[]
                                      #[Value.pointer (some (Addr.mk w'.heap.size (0 : Nat) none)),
                                        Value.pointer (some (Addr.mk w1.heap.size (0 : Nat) none))]];
                              ∃ (x : Value),
                                cellsAt w1.drew (Addr.mk w1_3.heap.size (0 : Nat) none) [x] ∧
                                  (0 : Int) ≤ IntKind.i64.wrap (n1 + n2) ∧
                                    IntKind.i64.wrap (n1 + n2) ≤ (↑s0.cap : Int) ∧
                                      (0 : Int) ≤ n1 ∧
                                        n1 ≤ (↑(IntKind.i64.wrap (n1 + n2)).toNat : Int) ∧
                                          CallT [Ty.one (Sh.int IntKind.i64), Ty.one Sh.bool] Try.prog (164 : Nat)
                                            [Value.agg #[x],
                                              Value.slice (subA s0.a n1.toNat (1 : Nat) s0.cap)
                                                ((IntKind.i64.wrap (n1 + n2)).toNat - n1.toNat) (s0.cap - n1.toNat),
                                              Value.int IntKind.i64 (0 : Int)]
                                            w1.drew fun (x : Int × Bool) (w'_1 : World) =>
                                            ∃ (x : Int),
                                              w'_1.cell? (Addr.mk w'.heap.size (0 : Nat) none) =
                                                  some (Value.int IntKind.u64 x) ∧
                                                R (x, (0 : Int)) w'_1)
  : CallT [Ty.one (Sh.int IntKind.u64), Ty.one (Sh.int IntKind.i64)] Try.prog 174 [Value.slice s0.a s0.len s0.cap, Value.int IntKind.i64 n1, Value.int IntKind.i64 n2] w R :=
  fnV_sound (h := HT.z.sq (HT.jn [] HT.z (HT.jn [] HT.z (HT.z.sq (HT.z.sq ((HT.rg (7 : Nat)).sq HT.z)))))) Try.func174 (by kernel_rfl) (by kernel_rfl) (Eq.mp (by kernel_rfl) h)

/-- dunnage/dunnageref03.Known -/
theorem dunnageref03_Known.vc (n0 : Int) (w : World) (R : Bool → World → Prop)
  (h : cnd (n0 == (23 : Int)) (cnd (n0 == (23 : Int)) (R true w) (R false w))
      (cnd (n0 == (43 : Int)) (cnd (n0 == (43 : Int)) (R true w) (R false w))
        (cnd (n0 == (77 : Int)) (cnd (n0 == (77 : Int)) (R true w) (R false w))
          (cnd (n0 == (142 : Int)) (cnd (n0 == (142 : Int)) (R true w) (R false w))
            (cnd (n0 == (113 : Int)) (cnd (n0 == (113 : Int)) (R true w) (R false w))
              (cnd (n0 == (178 : Int)) (R true w) (R false w)))))))
  : CallT [Ty.one Sh.bool] Try.prog 175 [Value.int IntKind.u8 n0] w R :=
  fnV_sound (h := HT.z) Try.func175 (by kernel_rfl) (by kernel_rfl) (Eq.mp (by kernel_rfl) h)

/-- dunnage/dunnageref03.number -/
theorem dunnageref03_number.vc (s0 : SV) (n1 : Int) (n2 : Int) (w : World) (R : SV → World → Prop)
  (h : ∃ (I : Nat → SV × Int → World → Prop),
      (∃ (n : Nat), I n (s0, (0 : Int)) w) ∧
        ∀ (n : Nat) (x : SV × Int) (j : Nat → Value) (w' : World),
          I n x w' →
            let e1 := x.snd;
            cnd (decide (e1 < n2))
              (let e1 := x.snd;
              (0 : Int) ≤ IntKind.u64.wrap ((8 : Int) * IntKind.u64.wrap e1) ∧
                appV Try.prog [(23 : Nat), (23 : Nat)] (23 : Nat)
                  [Value.slice x.fst.a x.fst.len x.fst.cap,
                    Value.slice (some (Addr.mk w'.heap.size (0 : Nat) none)) (1 : Nat) (1 : Nat)]
                  (w'.alloc
                    (Obj.cells
                      #[Value.int IntKind.u8
                          (IntKind.u8.wrap (shr IntKind.u64 n1 (IntKind.u64.wrap ((8 : Int) * IntKind.u64.wrap e1))))]
                      (5 : Nat)))
                  fun (s : SV) (w' : World) => ∃ (m : Nat), m < n ∧ I m (s, IntKind.i64.wrap (x.snd + (1 : Int))) w')
              (R x.fst w'))
  : CallT [Ty.one Sh.slice] Try.prog 176 [Value.slice s0.a s0.len s0.cap, Value.int IntKind.u64 n1, Value.int IntKind.i64 n2] w R :=
  fnV_sound (h := HT.z.sq ((HT.z.sq (HT.lp [((0 : Nat), Ty.one Sh.slice), ((7 : Nat), Ty.one (Sh.int IntKind.i64))] HT.z).bl).sq HT.z)) Try.func176 (by kernel_rfl) (by kernel_rfl) (Eq.mp (by kernel_rfl) h)

/-- dunnage/dunnageref02.Sum -/
theorem dunnageref02_Sum.vc (s0 : SV) (w : World) (R : Int → World → Prop)
  (h : CallT [Ty.one (Sh.int IntKind.u32)] Try.prog (192 : Nat)
      [Value.int IntKind.u32 (0 : Int), Value.slice s0.a s0.len s0.cap] w fun (x : Int) (w' : World) => R x w')
  : CallT [Ty.one (Sh.int IntKind.u32)] Try.prog 177 [Value.slice s0.a s0.len s0.cap] w R :=
  fnV_sound (h := HT.z) Try.func177 (by kernel_rfl) (by kernel_rfl) (Eq.mp (by kernel_rfl) h)

/-- dunnage/dunnageref01.Zero -/
theorem dunnageref01_Zero.vc (s0 : SV) (w : World) (R : Bool → World → Prop)
  (h : ∃ (I : Nat → Int → World → Prop),
      (∃ (n : Nat), I n (0 : Int) w) ∧
        ∀ (n : Nat) (x : Int) (j : Nat → Value) (w' : World),
          I n x w' →
            cnd (decide (x < (↑s0.len : Int)))
              ((0 : Int) ≤ x ∧
                x < (↑s0.len : Int) ∧
                  onP s0.a fun (A : Addr) =>
                    ∃ (x_1 : Int),
                      w'.cell? (A.add (x.toNat * (1 : Nat))) = some (Value.int IntKind.u8 x_1) ∧
                        cnd (x_1 != (0 : Int)) (R false w')
                          (∃ (m : Nat), m < n ∧ I m (IntKind.i64.wrap (x + (1 : Int))) w'))
              (R true w'))
  : CallT [Ty.one Sh.bool] Try.prog 178 [Value.slice s0.a s0.len s0.cap] w R :=
  fnV_sound (h := HT.z.sq ((HT.z.sq (HT.lp [((3 : Nat), Ty.one (Sh.int IntKind.i64))] HT.z).bl).sq HT.z)) Try.func178 (by kernel_rfl) (by kernel_rfl) (Eq.mp (by kernel_rfl) h)

/-- dunnage/dunnageref01.Get -/
theorem dunnageref01_Get.vc (s0 : SV) (n1 : Int) (n2 : Int) (w : World) (R : Int × Int → World → Prop)
  (h : ∃ (R_1 : PUnit → World → Prop),
      cnd (decide (n2 < (1 : Int))) (R ((0 : Int), (1 : Int)) w)
          (cnd (decide (n2 > (8 : Int))) (R ((0 : Int), (1 : Int)) w)
            (cnd (decide (n1 < (0 : Int))) (R ((0 : Int), (1 : Int)) w) (R_1 () w))) ∧
        ∀ (x : PUnit) (j : Nat → Value) (w' : World),
          R_1 x w' →
            ∃ (R_2 : PUnit → World → Prop),
              cnd (decide (n1 > (↑s0.len : Int))) (R ((0 : Int), (10 : Int)) w')
                  (cnd (decide (IntKind.i64.wrap ((↑s0.len : Int) - n1) < n2)) (R ((0 : Int), (10 : Int)) w') (R_2 () w')) ∧
                ∀ (x : PUnit) (j : Nat → Value) (w' : World),
                  R_2 x w' →
                    ∃ (I : Nat → Int × Int → World → Prop),
                      (∃ (n : Nat), I n ((0 : Int), IntKind.i64.wrap (n2 - (1 : Int))) w') ∧
                        ∀ (n : Nat) (x : Int × Int) (j : Nat → Value) (w' : World),
                          I n x w' →
                            let e1 := x.snd;
                            cnd (decide (e1 ≥ (0 : Int)))
                              (let e1 := x.snd;
                              (0 : Int) ≤ IntKind.i64.wrap (n1 + e1) ∧
                                IntKind.i64.wrap (n1 + e1) < (↑s0.len : Int) ∧
                                  onP s0.a fun (A : Addr) =>
                                    ∃ (x_1 : Int),
                                      w'.cell? (A.add ((IntKind.i64.wrap (n1 + e1)).toNat * (1 : Nat))) =
                                          some (Value.int IntKind.u8 x_1) ∧
                                        ∃ (m : Nat),
                                          m < n ∧
                                            I m
                                              (bor IntKind.u64 (shl IntKind.u64 x.fst (8 : Int)) (IntKind.u64.wrap x_1),
                                                IntKind.i64.wrap (x.snd - (1 : Int)))
                                              w')
                              (R (x.fst, (0 : Int)) w'))
  : CallT [Ty.one (Sh.int IntKind.u64), Ty.one (Sh.int IntKind.i64)] Try.prog 179 [Value.slice s0.a s0.len s0.cap, Value.int IntKind.i64 n1, Value.int IntKind.i64 n2] w R :=
  fnV_sound (h := HT.z.sq
  (HT.jn [] HT.z
    (HT.jn [] HT.z
      (HT.z.sq
        ((HT.z.sq
              (HT.lp [((8 : Nat), Ty.one (Sh.int IntKind.u64)), ((9 : Nat), Ty.one (Sh.int IntKind.i64))] HT.z).bl).sq
          HT.z))))) Try.func179 (by kernel_rfl) (by kernel_rfl) (Eq.mp (by kernel_rfl) h)

/-- slices.Index[[]int,int] -/
theorem slices_Index_int_int.vc (s0 : SV) (n1 : Int) (w : World) (R : Int → World → Prop)
  (h : ∃ (I : Nat → Int → World → Prop),
      (∃ (n : Nat), I n (0 : Int) w) ∧
        ∀ (n : Nat) (x : Int) (j : Nat → Value) (w' : World),
          I n x w' →
            cnd (decide (x < (↑s0.len : Int)))
              ((0 : Int) ≤ x ∧
                x < (↑s0.len : Int) ∧
                  onP s0.a fun (A : Addr) =>
                    ∃ (x_1 : Int),
                      w'.cell? (A.add (x.toNat * (1 : Nat))) = some (Value.int IntKind.i64 x_1) ∧
                        cnd (n1 == x_1) (R x w') (∃ (m : Nat), m < n ∧ I m (IntKind.i64.wrap (x + (1 : Int))) w'))
              (R (-1 : Int) w'))
  : CallT [Ty.one (Sh.int IntKind.i64)] Try.prog 180 [Value.slice s0.a s0.len s0.cap, Value.int IntKind.i64 n1] w R :=
  fnV_sound (h := HT.z.sq ((HT.z.sq (HT.lp [((8 : Nat), Ty.one (Sh.int IntKind.i64))] HT.z).bl).sq HT.z)) Try.func180 (by kernel_rfl) (by kernel_rfl) (Eq.mp (by kernel_rfl) h)

/-- slices.IndexFunc[[]dunnage/api.Extent,dunnage/api.Extent] -/
theorem slices_IndexFunc_api_Extent_api_Extent.vc (s0 : SV) (v1 : Value) (w : World) (R : Int → World → Prop)
  (h : ∃ (I : Nat → Int → World → Prop),
      (∃ (n : Nat), I n (0 : Int) w) ∧
        ∀ (n : Nat) (x : Int) (j : Nat → Value) (w' : World),
          I n x w' →
            cnd (decide (x < (↑s0.len : Int)))
              ((0 : Int) ≤ x ∧
                x < (↑s0.len : Int) ∧
                  onP s0.a fun (A : Addr) =>
                    ∃ (x_1 : Int × Int × Int),
                      cellsAt w' (A.add (x.toNat * (3 : Nat)))
                          [Value.int IntKind.u64 x_1.fst, Value.int IntKind.i64 x_1.snd.fst,
                            Value.int IntKind.i64 x_1.snd.snd] ∧
                        callVal [Ty.one Sh.bool] Try.prog v1
                          [Value.agg
                              #[Value.int IntKind.u64 x_1.fst, Value.int IntKind.i64 x_1.snd.fst,
                                Value.int IntKind.i64 x_1.snd.snd]]
                          w' fun (x_2 : Bool) (w' : World) =>
                          cnd x_2 (R x w') (∃ (m : Nat), m < n ∧ I m (IntKind.i64.wrap (x + (1 : Int))) w'))
              (R (-1 : Int) w'))
  : CallT [Ty.one (Sh.int IntKind.i64)] Try.prog 181 [Value.slice s0.a s0.len s0.cap, v1] w R :=
  fnV_sound (h := HT.z.sq ((HT.z.sq (HT.lp [((8 : Nat), Ty.one (Sh.int IntKind.i64))] HT.z).bl).sq HT.z)) Try.func181 (by kernel_rfl) (by kernel_rfl) (Eq.mp (by kernel_rfl) h)

/-- dunnage/dunnagehelp.Same[dunnage/api.Extent] -/
theorem dunnagehelp_Same_api_Extent.vc (s0 : SV) (s1 : SV) (v2 : Value) (w : World) (R : Bool → World → Prop)
  (h : cnd ((↑s0.len : Int) != (↑s1.len : Int)) (R false w)
      (∃ (I : Nat → Int → World → Prop),
        (∃ (n : Nat), I n (0 : Int) w) ∧
          ∀ (n : Nat) (x : Int) (j : Nat → Value) (w' : World),
            I n x w' →
              cnd (decide (x < (↑s0.len : Int)))
                ((0 : Int) ≤ x ∧
                  x < (↑s0.len : Int) ∧
                    onP s0.a fun (A : Addr) =>
                      ∃ (x_1 : Int × Int × Int),
                        cellsAt w'.drew (A.add (x.toNat * (3 : Nat)))
                            [Value.int IntKind.u64 x_1.fst, Value.int IntKind.i64 x_1.snd.fst,
                              Value.int IntKind.i64 x_1.snd.snd] ∧
                          (0 : Int) ≤ x ∧
                            x < (↑s1.len : Int) ∧
                              onP s1.a fun (A : Addr) =>
                                ∃ (x_2 : Int × Int × Int),
                                  cellsAt w'.drew (A.add (x.toNat * (3 : Nat)))
                                      [Value.int IntKind.u64 x_2.fst, Value.int IntKind.i64 x_2.snd.fst,
                                        Value.int IntKind.i64 x_2.snd.snd] ∧
                                    callVal [Ty.one Sh.bool] Try.prog v2
                                      [Value.agg
                                          #[Value.int IntKind.u64 x_1.fst, Value.int IntKind.i64 x_1.snd.fst,
                                            Value.int IntKind.i64 x_1.snd.snd],
                                        Value.agg
                                          #[Value.int IntKind.u64 x_2.fst, Value.int IntKind.i64 x_2.snd.fst,
                                            Value.int IntKind.i64 x_2.snd.snd]]
                                      w'.drew fun (x_3 : Bool) (w' : World) =>
                                      cnd (!x_3) (R false w')
                                        (∃ (m : Nat), m < n ∧ I m (IntKind.i64.wrap (x + (1 : Int))) w'))
                (R true w')))
  : CallT [Ty.one Sh.bool] Try.prog 182 [Value.slice s0.a s0.len s0.cap, Value.slice s1.a s1.len s1.cap, v2] w R :=
  fnV_sound (h := HT.z.sq
  (HT.z.sq
    ((HT.z.sq
          (HT.lp [((7 : Nat), Ty.one (Sh.int IntKind.i64))] (HT.z.sq (((HT.rg (9 : Nat)).sq HT.z).bl.sq HT.z))).bl).sq
      HT.z))) Try.func182 (by kernel_rfl) (by kernel_rfl) (Eq.mp (by kernel_rfl) h)

/-- dunnage/dunnagehelp.Plain[dunnage/api.Extent]$1 -/
theorem dunnagehelp_Plain_api_Extent_1.vc (x0 : Int × Int × Int) (x1 : Int × Int × Int) (w : World) (R : Bool → World → Prop)
  (h : let w1 :=
      w.alloc
        (Obj.cells #[Value.int IntKind.u64 x0.fst, Value.int IntKind.i64 x0.snd.fst, Value.int IntKind.i64 x0.snd.snd]
          (121 : Nat));
    let w1_1 :=
      w1.alloc
        (Obj.cells #[Value.int IntKind.u64 x1.fst, Value.int IntKind.i64 x1.snd.fst, Value.int IntKind.i64 x1.snd.snd]
          (121 : Nat));
    ∃ (x : Int × Int × Int),
      cellsAt w1_1 (Addr.mk w.heap.size (0 : Nat) none)
          [Value.int IntKind.u64 x.fst, Value.int IntKind.i64 x.snd.fst, Value.int IntKind.i64 x.snd.snd] ∧
        ∃ (x_1 : Int × Int × Int),
          cellsAt w1_1 (Addr.mk w1.heap.size (0 : Nat) none)
              [Value.int IntKind.u64 x_1.fst, Value.int IntKind.i64 x_1.snd.fst, Value.int IntKind.i64 x_1.snd.snd] ∧
            R (x.fst == x_1.fst && (x.snd.fst == x_1.snd.fst && (x.snd.snd == x_1.snd.snd && true))) w1_1)
  : CallT [Ty.one Sh.bool] Try.prog 183 [Value.agg #[Value.int IntKind.u64 x0.fst, Value.int IntKind.i64 x0.snd.fst, Value.int IntKind.i64 x0.snd.snd],
  Value.agg #[Value.int IntKind.u64 x1.fst, Value.int IntKind.i64 x1.snd.fst, Value.int IntKind.i64 x1.snd.snd]] w R :=
  fnV_sound (h := HT.z) Try.func183 (by kernel_rfl) (by kernel_rfl) (Eq.mp (by kernel_rfl) h)

/-- (*dunnage/wal.Log).look -/
theorem wal_Log_look.vc (p0 : Option Addr) (n1 : Int) (w : World) (R : (Int × Int × Int × SV) × Bool × Int → World → Prop)
  (h : let w1 :=
      w.alloc
        (Obj.cells
          #[Value.int IntKind.u64 (0 : Int), Value.int IntKind.u64 (0 : Int), Value.int IntKind.i64 (0 : Int),
            Value.slice none (0 : Nat) (0 : Nat)]
          (51 : Nat));
    ∃ (S : World → Prop),
      S w1.drew ∧
        onP p0 fun (a : Addr) =>
          ∃ (x : Option Addr),
            (∀ (w : World), S w → w.cell? (a.add (0 : Nat)) = some (Value.pointer x)) ∧
              onP p0 fun (a : Addr) =>
                ∃ (x_1 : Int × Int × Int × Int × Int × Int × Int × Int × Int),
                  (∀ (w : World),
                      S w →
                        cellsAt w (a.add (1 : Nat))
                          [Value.int IntKind.i64 x_1.fst, Value.int IntKind.i64 x_1.snd.fst,
                            Value.int IntKind.i64 x_1.snd.snd.fst, Value.int IntKind.i64 x_1.snd.snd.snd.fst,
                            Value.int IntKind.i64 x_1.snd.snd.snd.snd.fst,
                            Value.int IntKind.i64 x_1.snd.snd.snd.snd.snd.fst,
                            Value.int IntKind.i64 x_1.snd.snd.snd.snd.snd.snd.fst,
                            Value.int IntKind.i64 x_1.snd.snd.snd.snd.snd.snd.snd.fst,
                            Value.int IntKind.i64 x_1.snd.snd.snd.snd.snd.snd.snd.snd]) ∧
                    CallT [Ty.one (Sh.int IntKind.i64)] Try.prog (185 : Nat)
                      [Value.agg
                          #[Value.int IntKind.i64 x_1.fst, Value.int IntKind.i64 x_1.snd.fst,
                            Value.int IntKind.i64 x_1.snd.snd.fst, Value.int IntKind.i64 x_1.snd.snd.snd.fst,
                            Value.int IntKind.i64 x_1.snd.snd.snd.snd.fst,
                            Value.int IntKind.i64 x_1.snd.snd.snd.snd.snd.fst,
                            Value.int IntKind.i64 x_1.snd.snd.snd.snd.snd.snd.fst,
                            Value.int IntKind.i64 x_1.snd.snd.snd.snd.snd.snd.snd.fst,
                            Value.int IntKind.i64 x_1.snd.snd.snd.snd.snd.snd.snd.snd],
                        Value.int IntKind.u64 n1]
                      w1.drew fun (x_2 : Int) (w' : World) =>
                      S w' ∧
                        CallT [Ty.one Sh.slice, Ty.one (Sh.int IntKind.i64)] Try.prog (44 : Nat)
                          [Value.pointer x, Value.int IntKind.i64 x_2] w' fun (x : SV × Int) (w' : World) =>
                          S w' ∧
                            cnd (x.snd != (0 : Int))
                              (canSt w' (Addr.mk w.heap.size (0 : Nat) none) (4 : Nat) ∧
                                let w1 :=
                                  setCells w' (Addr.mk w.heap.size (0 : Nat) none) (0 : Nat)
                                    [Value.int IntKind.u64 (0 : Int), Value.int IntKind.u64 (0 : Int),
                                      Value.int IntKind.i64 (0 : Int), Value.slice none (0 : Nat) (0 : Nat)];
                                ∃ (x_3 : Int × Int × Int × SV),
                                  cellsAt w1 (Addr.mk w.heap.size (0 : Nat) none)
                                      [Value.int IntKind.u64 x_3.fst, Value.int IntKind.u64 x_3.snd.fst,
                                        Value.int IntKind.i64 x_3.snd.snd.fst,
                                        Value.slice x_3.snd.snd.snd.a x_3.snd.snd.snd.len x_3.snd.snd.snd.cap] ∧
                                    R ((x_3.fst, x_3.snd.fst, x_3.snd.snd.fst, x_3.snd.snd.snd), false, x.snd) w1)
                              (CallT [Ty.agg [Sh.int IntKind.u8, Sh.int IntKind.u64, Sh.slice], Ty.one (Sh.int IntKind.i64)]
                                Try.prog (138 : Nat) [Value.slice x.fst.a x.fst.len x.fst.cap] w'
                                fun (x : (Int × Int × SV) × Int) (w' : World) =>
                                let w1 :=
                                  w'.alloc
                                    (Obj.cells
                                      #[Value.int IntKind.u8 (0 : Int), Value.int IntKind.u64 (0 : Int),
                                        Value.slice none (0 : Nat) (0 : Nat)]
                                      (184 : Nat));
                                canSt w1 (Addr.mk w'.heap.size (0 : Nat) none) (3 : Nat) ∧
                                  let w1 :=
                                    setCells w1 (Addr.mk w'.heap.size (0 : Nat) none) (0 : Nat)
                                      [Value.int IntKind.u8 x.fst.fst, Value.int IntKind.u64 x.fst.snd.fst,
                                        Value.slice x.fst.snd.snd.a x.fst.snd.snd.len x.fst.snd.snd.cap];
                                  cnd (x.snd != (0 : Int))
                                    (canSt w1 (Addr.mk w.heap.size (0 : Nat) none) (4 : Nat) ∧
                                      let w1 :=
                                        setCells w1 (Addr.mk w.heap.size (0 : Nat) none) (0 : Nat)
                                          [Value.int IntKind.u64 (0 : Int), Value.int IntKind.u64 (0 : Int),
                                            Value.int IntKind.i64 (0 : Int), Value.slice none (0 : Nat) (0 : Nat)];
                                      ∃ (x : Int × Int × Int × SV),
                                        cellsAt w1 (Addr.mk w.heap.size (0 : Nat) none)
                                            [Value.int IntKind.u64 x.fst, Value.int IntKind.u64 x.snd.fst,
                                              Value.int IntKind.i64 x.snd.snd.fst,
                                              Value.slice x.snd.snd.snd.a x.snd.snd.snd.len x.snd.snd.snd.cap] ∧
                                          R ((x.fst, x.snd.fst, x.snd.snd.fst, x.snd.snd.snd), false, (5 : Int)) w1)
                                    (∃ (R_1 : PUnit → World → Prop),
                                      (∃ (R_2 : Bool → World → Prop),
                                          (∃ (x : Int),
                                              w1.cell? ((Addr.mk w'.heap.size (0 : Nat) none).add (0 : Nat)) =
                                                  some (Value.int IntKind.u8 x) ∧
                                                cnd (x != (77 : Int)) (R_2 true w1)
                                                  (∃ (x : Int),
                                                    w1.cell? ((Addr.mk w'.heap.size (0 : Nat) none).add (1 : Nat)) =
                                                        some (Value.int IntKind.u64 x) ∧
                                                      R_2 (x != n1) w1)) ∧
                                            ∀ (x : Bool) (j : Nat → Value) (w' : World),
                                              R_2 x w' →
                                                cnd x
                                                  (canSt w' (Addr.mk w.heap.size (0 : Nat) none) (4 : Nat) ∧
                                                    let w1 :=
                                                      setCells w' (Addr.mk w.heap.size (0 : Nat) none) (0 : Nat)
                                                        [Value.int IntKind.u64 (0 : Int), Value.int IntKind.u64 (0 : Int),
                                                          Value.int IntKind.i64 (0 : Int),
                                                          Value.slice none (0 : Nat) (0 : Nat)];
                                                    ∃ (x : Int × Int × Int × SV),
                                                      cellsAt w1 (Addr.mk w.heap.size (0 : Nat) none)
                                                          [Value.int IntKind.u64 x.fst, Value.int IntKind.u64 x.snd.fst,
                                                            Value.int IntKind.i64 x.snd.snd.fst,
                                                            Value.slice x.snd.snd.snd.a x.snd.snd.snd.len
                                                              x.snd.snd.snd.cap] ∧
                                                        R
                                                          ((x.fst, x.snd.fst, x.snd.snd.fst, x.snd.snd.snd), false,
                                                            (0 : Int))
                                                          w1)
                                                  (R_1 () w')) ∧
                                        ∀ (x : PUnit) (j : Nat → Value) (w'_1 : World),
                                          R_1 x w'_1 →
                                            ∃ (x : SV),
                                              w'_1.cell? ((Addr.mk w'.heap.size (0 : Nat) none).add (2 : Nat)) =
                                                  some (Value.slice x.a x.len x.cap) ∧
                                                CallT
                                                  [Ty.agg
                                                      [Sh.int IntKind.u64, Sh.int IntKind.u64, Sh.int IntKind.i64,
                                                        Sh.slice],
                                                    Ty.one (Sh.int IntKind.i64)]
                                                  Try.prog (48 : Nat) [Value.slice x.a x.len x.cap] w'_1
                                                  fun (x : (Int × Int × Int × SV) × Int) (w' : World) =>
                                                  let w1 :=
                                                    w'.alloc
                                                      (Obj.cells
                                                        #[Value.int IntKind.u64 (0 : Int), Value.int IntKind.u64 (0 : Int),
                                                          Value.int IntKind.i64 (0 : Int),
                                                          Value.slice none (0 : Nat) (0 : Nat)]
                                                        (51 : Nat));
                                                  canSt w1 (Addr.mk w'.heap.size (0 : Nat) none) (4 : Nat) ∧
                                                    let w1 :=
                                                      setCells w1 (Addr.mk w'.heap.size (0 : Nat) none) (0 : Nat)
                                                        [Value.int IntKind.u64 x.fst.fst,
                                                          Value.int IntKind.u64 x.fst.snd.fst,
                                                          Value.int IntKind.i64 x.fst.snd.snd.fst,
                                                          Value.slice x.fst.snd.snd.snd.a x.fst.snd.snd.snd.len
                                                            x.fst.snd.snd.snd.cap];
                                                    ∃ (x_3 : Int × Int × Int × SV),
                                                      cellsAt w1 (Addr.mk w'.heap.size (0 : Nat) none)
                                                          [Value.int IntKind.u64 x_3.fst, Value.int IntKind.u64 x_3.snd.fst,
                                                            Value.int IntKind.i64 x_3.snd.snd.fst,
                                                            Value.slice x_3.snd.snd.snd.a x_3.snd.snd.snd.len
                                                              x_3.snd.snd.snd.cap] ∧
                                                        canSt w1 (Addr.mk w.heap.size (0 : Nat) none) (4 : Nat) ∧
                                                          let w1 :=
                                                            setCells w1 (Addr.mk w.heap.size (0 : Nat) none) (0 : Nat)
                                                              [Value.int IntKind.u64 x_3.fst,
                                                                Value.int IntKind.u64 x_3.snd.fst,
                                                                Value.int IntKind.i64 x_3.snd.snd.fst,
                                                                Value.slice x_3.snd.snd.snd.a x_3.snd.snd.snd.len
                                                                  x_3.snd.snd.snd.cap];
                                                          ∃ (x_4 : Int × Int × Int × SV),
                                                            cellsAt w1 (Addr.mk w.heap.size (0 : Nat) none)
                                                                [Value.int IntKind.u64 x_4.fst,
                                                                  Value.int IntKind.u64 x_4.snd.fst,
                                                                  Value.int IntKind.i64 x_4.snd.snd.fst,
                                                                  Value.slice x_4.snd.snd.snd.a x_4.snd.snd.snd.len
                                                                    x_4.snd.snd.snd.cap] ∧
                                                              R
                                                                ((x_4.fst, x_4.snd.fst, x_4.snd.snd.fst, x_4.snd.snd.snd),
                                                                  x.snd == (0 : Int), (0 : Int))
                                                                w1)))
  : CallT [Ty.agg [Sh.int IntKind.u64, Sh.int IntKind.u64, Sh.int IntKind.i64, Sh.slice], Ty.one Sh.bool,
  Ty.one (Sh.int IntKind.i64)] Try.prog 184 [Value.pointer p0, Value.int IntKind.u64 n1] w R :=
  fnV_sound (h := HT.z.sq
  ((HT.dr
        (DT.take (0 : Nat)
          (DT.take (1 : Nat)
            (DT.take (2 : Nat)
              (DT.take (3 : Nat)
                (DT.take (4 : Nat)
                  (DT.take (5 : Nat)
                    (DT.take (6 : Nat)
                      (DT.take (7 : Nat)
                        (DT.take (8 : Nat)
                          (DT.alt (9 : Nat)
                            (DT.alt (10 : Nat)
                              (DT.take (11 : Nat)
                                (DT.take (12 : Nat)
                                  (DT.take (13 : Nat) (DT.take (14 : Nat) (DT.take (15 : Nat) DT.fin)))))
                              DT.fin)
                            DT.fin))))))))))).sq
    (HT.z.sq (HT.z.sq (HT.z.sq (HT.jn [] (HT.jn [((45 : Nat), Ty.one Sh.bool)] HT.z HT.z) HT.z)))))) Try.func184 (by kernel_rfl) (by kernel_rfl) (Eq.mp (by kernel_rfl) h)

/-- dunnage/layout.LogAt -/
theorem layout_LogAt.vc (x0 : Int × Int × Int × Int × Int × Int × Int × Int × Int) (n1 : Int) (w : World) (R : Int → World → Prop)
  (h : let w1 :=
      w.alloc
        (Obj.cells
          #[Value.int IntKind.i64 x0.fst, Value.int IntKind.i64 x0.snd.fst, Value.int IntKind.i64 x0.snd.snd.fst,
            Value.int IntKind.i64 x0.snd.snd.snd.fst, Value.int IntKind.i64 x0.snd.snd.snd.snd.fst,
            Value.int IntKind.i64 x0.snd.snd.snd.snd.snd.fst, Value.int IntKind.i64 x0.snd.snd.snd.snd.snd.snd.fst,
            Value.int IntKind.i64 x0.snd.snd.snd.snd.snd.snd.snd.fst,
            Value.int IntKind.i64 x0.snd.snd.snd.snd.snd.snd.snd.snd]
          (83 : Nat));
    ∃ (x : Int),
      w1.cell? ((Addr.mk w.heap.size (0 : Nat) none).add (3 : Nat)) = some (Value.int IntKind.i64 x) ∧
        cnd (decide (x ≤ (0 : Int))) (R (0 : Int) w1)
          (∃ (x : Int),
            w1.drew.cell? ((Addr.mk w.heap.size (0 : Nat) none).add (2 : Nat)) = some (Value.int IntKind.i64 x) ∧
              ∃ (x_1 : Int),
                w1.drew.cell? ((Addr.mk w.heap.size (0 : Nat) none).add (3 : Nat)) = some (Value.int IntKind.i64 x_1) ∧
                  IntKind.u64.wrap x_1 ≠ (0 : Int) ∧
                    R (IntKind.i64.wrap (x + IntKind.i64.wrap (n1.tmod (IntKind.u64.wrap x_1)))) w1.drew))
  : CallT [Ty.one (Sh.int IntKind.i64)] Try.prog 185 [Value.agg
    #[Value.int IntKind.i64 x0.fst, Value.int IntKind.i64 x0.snd.fst, Value.int IntKind.i64 x0.snd.snd.fst,
      Value.int IntKind.i64 x0.snd.snd.snd.fst, Value.int IntKind.i64 x0.snd.snd.snd.snd.fst,
      Value.int IntKind.i64 x0.snd.snd.snd.snd.snd.fst, Value.int IntKind.i64 x0.snd.snd.snd.snd.snd.snd.fst,
      Value.int IntKind.i64 x0.snd.snd.snd.snd.snd.snd.snd.fst,
      Value.int IntKind.i64 x0.snd.snd.snd.snd.snd.snd.snd.snd],
  Value.int IntKind.u64 n1] w R :=
  fnV_sound (h := HT.z.sq (HT.z.sq ((HT.rg (10 : Nat)).sq HT.z))) Try.func185 (by kernel_rfl) (by kernel_rfl) (Eq.mp (by kernel_rfl) h)

/-- dunnage/dunnagehelp.Same[bool] -/
theorem dunnagehelp_Same_bool.vc (s0 : SV) (s1 : SV) (v2 : Value) (w : World) (R : Bool → World → Prop)
  (h : cnd ((↑s0.len : Int) != (↑s1.len : Int)) (R false w)
      (∃ (I : Nat → Int → World → Prop),
        (∃ (n : Nat), I n (0 : Int) w) ∧
          ∀ (n : Nat) (x : Int) (j : Nat → Value) (w' : World),
            I n x w' →
              cnd (decide (x < (↑s0.len : Int)))
                ((0 : Int) ≤ x ∧
                  x < (↑s0.len : Int) ∧
                    onP s0.a fun (A : Addr) =>
                      ∃ (x_1 : Bool),
                        w'.drew.cell? (A.add (x.toNat * (1 : Nat))) = some (Value.bool x_1) ∧
                          (0 : Int) ≤ x ∧
                            x < (↑s1.len : Int) ∧
                              onP s1.a fun (A : Addr) =>
                                ∃ (x_2 : Bool),
                                  w'.drew.cell? (A.add (x.toNat * (1 : Nat))) = some (Value.bool x_2) ∧
                                    callVal [Ty.one Sh.bool] Try.prog v2 [Value.bool x_1, Value.bool x_2] w'.drew
                                      fun (x_3 : Bool) (w' : World) =>
                                      cnd (!x_3) (R false w')
                                        (∃ (m : Nat), m < n ∧ I m (IntKind.i64.wrap (x + (1 : Int))) w'))
                (R true w')))
  : CallT [Ty.one Sh.bool] Try.prog 186 [Value.slice s0.a s0.len s0.cap, Value.slice s1.a s1.len s1.cap, v2] w R :=
  fnV_sound (h := HT.z.sq
  (HT.z.sq
    ((HT.z.sq
          (HT.lp [((7 : Nat), Ty.one (Sh.int IntKind.i64))] (HT.z.sq (((HT.rg (9 : Nat)).sq HT.z).bl.sq HT.z))).bl).sq
      HT.z))) Try.func186 (by kernel_rfl) (by kernel_rfl) (Eq.mp (by kernel_rfl) h)

/-- dunnage/dunnagehelp.Plain[bool]$1 -/
theorem dunnagehelp_Plain_bool_1.vc (b0 : Bool) (b1 : Bool) (w : World) (R : Bool → World → Prop)
  (h : R (b0 == b1) w)
  : CallT [Ty.one Sh.bool] Try.prog 187 [Value.bool b0, Value.bool b1] w R :=
  fnV_sound (h := HT.z) Try.func187 (by kernel_rfl) (by kernel_rfl) (Eq.mp (by kernel_rfl) h)

/-- dunnage/word.Put -/
theorem word_Put.vc (s0 : SV) (n1 : Int) (n2 : Int) (w : World) (R : SV × Int → World → Prop)
  (h : ∃ (R_1 : PUnit → World → Prop),
      cnd (decide (n2 < (1 : Int))) (R (SV.mk none (0 : Nat) (0 : Nat), (1 : Int)) w)
          (cnd (decide (n2 > (8 : Int))) (R (SV.mk none (0 : Nat) (0 : Nat), (1 : Int)) w) (R_1 () w)) ∧
        ∀ (x : PUnit) (j : Nat → Value) (w' : World),
          R_1 x w' →
            ∃ (R_2 : PUnit → World → Prop),
              cnd (decide (n2 < (8 : Int)))
                  ((0 : Int) ≤ IntKind.i64.wrap ((8 : Int) * n2) ∧
                    cnd (shr IntKind.u64 n1 (IntKind.i64.wrap ((8 : Int) * n2)) != (0 : Int))
                      (R (SV.mk none (0 : Nat) (0 : Nat), (12 : Int)) w') (R_2 () w'))
                  (R_2 () w') ∧
                ∀ (x : PUnit) (j : Nat → Value) (w' : World),
                  R_2 x w' →
                    CallT [Ty.one Sh.slice] Try.prog (111 : Nat) [Value.slice s0.a s0.len s0.cap] w'
                      fun (x : SV) (w' : World) =>
                      ∃ (I : Nat → Int × SV × Int → World → Prop),
                        (∃ (n : Nat), I n (n1, x, (0 : Int)) w') ∧
                          ∀ (n : Nat) (x : Int × SV × Int) (j : Nat → Value) (w' : World),
                            I n x w' →
                              cnd (decide (x.snd.snd < n2))
                                (appV Try.prog [(23 : Nat), (23 : Nat)] (23 : Nat)
                                  [Value.slice x.snd.fst.a x.snd.fst.len x.snd.fst.cap,
                                    Value.slice (some (Addr.mk w'.heap.size (0 : Nat) none)) (1 : Nat) (1 : Nat)]
                                  (w'.alloc (Obj.cells #[Value.int IntKind.u8 (IntKind.u8.wrap x.fst)] (5 : Nat)))
                                  fun (s : SV) (w' : World) =>
                                  ∃ (m : Nat),
                                    m < n ∧
                                      I m (shr IntKind.u64 x.fst (8 : Int), s, IntKind.i64.wrap (x.snd.snd + (1 : Int))) w')
                                (R (x.snd.fst, (0 : Int)) w'))
  : CallT [Ty.one Sh.slice, Ty.one (Sh.int IntKind.i64)] Try.prog 188 [Value.slice s0.a s0.len s0.cap, Value.int IntKind.u64 n1, Value.int IntKind.i64 n2] w R :=
  fnV_sound (h := HT.z.sq
  (HT.jn [] HT.z
    (HT.jn [] HT.z
      (HT.z.sq
        ((HT.z.sq
              (HT.lp
                  [((1 : Nat), Ty.one (Sh.int IntKind.u64)), ((8 : Nat), Ty.one Sh.slice),
                    ((27 : Nat), Ty.one (Sh.int IntKind.i64))]
                  HT.z).bl).sq
          HT.z))))) Try.func188 (by kernel_rfl) (by kernel_rfl) (Eq.mp (by kernel_rfl) h)

/-- dunnage/crc.More -/
theorem crc_More.vc (n0 : Int) (s1 : SV) (w : World) (R : Int → World → Prop)
  (h : ∃ (I : Nat → Int → World → Prop),
      (∃ (n : Nat),
          I n (0 : Int)
            (w.alloc
              (Obj.cells
                #[Value.int IntKind.u32 (0 : Int), Value.int IntKind.u32 (0 : Int), Value.int IntKind.u32 (0 : Int),
                  Value.int IntKind.u32 (0 : Int), Value.int IntKind.u32 (0 : Int), Value.int IntKind.u32 (0 : Int),
                  Value.int IntKind.u32 (0 : Int), Value.int IntKind.u32 (0 : Int), Value.int IntKind.u32 (0 : Int),
                  Value.int IntKind.u32 (0 : Int), Value.int IntKind.u32 (0 : Int), Value.int IntKind.u32 (0 : Int),
                  Value.int IntKind.u32 (0 : Int), Value.int IntKind.u32 (0 : Int), Value.int IntKind.u32 (0 : Int),
                  Value.int IntKind.u32 (0 : Int)]
                (239 : Nat)))) ∧
        ∀ (n : Nat) (x : Int) (j : Nat → Value) (w' : World),
          I n x w' →
            cnd (decide (x < (16 : Int)))
              (∃ (I_1 : Nat → Int × Int → World → Prop),
                (∃ (n : Nat), I_1 n (IntKind.u32.wrap x, (0 : Int)) w') ∧
                  ∀ (n_1 : Nat) (x_1 : Int × Int) (j : Nat → Value) (w' : World),
                    I_1 n_1 x_1 w' →
                      cnd (decide (x_1.snd < (4 : Int)))
                        (CallT [Ty.one (Sh.int IntKind.u32)] Try.prog (193 : Nat) [Value.int IntKind.u32 x_1.fst] w'
                          fun (x : Int) (w' : World) =>
                          ∃ (m : Nat), m < n_1 ∧ I_1 m (x, IntKind.i64.wrap (x_1.snd + (1 : Int))) w')
                        ((0 : Int) ≤ x ∧
                          x < (↑(16 : Nat) : Int) ∧
                            (w'.cell? ((Addr.mk w.heap.size (0 : Nat) none).add (x.toNat * (1 : Nat)))).isSome = true ∧
                              w'.frozen? ((Addr.mk w.heap.size (0 : Nat) none).add (x.toNat * (1 : Nat))) = false ∧
                                ∃ (m : Nat),
                                  m < n ∧
                                    I m (IntKind.i64.wrap (x + (1 : Int)))
                                      (w'.setCell ((Addr.mk w.heap.size (0 : Nat) none).add (x.toNat * (1 : Nat)))
                                        (Value.int IntKind.u32 x_1.fst))))
              (∃ (I : Nat → Int × Int → World → Prop),
                (∃ (n : Nat),
                    I n (bxor IntKind.u32 (if IntKind.u32.signed = true then (-1 : Int) else IntKind.u32.max) n0, (0 : Int))
                      w') ∧
                  ∀ (n : Nat) (x : Int × Int) (j : Nat → Value) (w' : World),
                    I n x w' →
                      cnd (decide (x.snd < (↑s1.len : Int)))
                        ((0 : Int) ≤ x.snd ∧
                          x.snd < (↑s1.len : Int) ∧
                            onP s1.a fun (A : Addr) =>
                              ∃ (x_1 : Int),
                                w'.cell? (A.add (Int.toNat x.snd * (1 : Nat))) = some (Value.int IntKind.u8 x_1) ∧
                                  let e1 := x.fst;
                                  (0 : Int) ≤ band IntKind.u32 (bxor IntKind.u32 e1 (IntKind.u32.wrap x_1)) (15 : Int) ∧
                                    band IntKind.u32 (bxor IntKind.u32 e1 (IntKind.u32.wrap x_1)) (15 : Int) <
                                        (↑(16 : Nat) : Int) ∧
                                      ∃ (x_2 : Int),
                                        w'.cell?
                                              ((Addr.mk w.heap.size (0 : Nat) none).add
                                                ((band IntKind.u32 (bxor IntKind.u32 e1 (IntKind.u32.wrap x_1))
                                                      (15 : Int)).toNat *
                                                  (1 : Nat))) =
                                            some (Value.int IntKind.u32 x_2) ∧
                                          (0 : Int) ≤
                                              band IntKind.u32
                                                (bxor IntKind.u32
                                                  (shr IntKind.u32 (bxor IntKind.u32 e1 (IntKind.u32.wrap x_1)) (4 : Int))
                                                  x_2)
                                                (15 : Int) ∧
                                            band IntKind.u32
                                                  (bxor IntKind.u32
                                                    (shr IntKind.u32 (bxor IntKind.u32 e1 (IntKind.u32.wrap x_1)) (4 : Int))
                                                    x_2)
                                                  (15 : Int) <
                                                (↑(16 : Nat) : Int) ∧
                                              ∃ (x_3 : Int),
                                                w'.cell?
                                                      ((Addr.mk w.heap.size (0 : Nat) none).add
                                                        ((band IntKind.u32
                                                              (bxor IntKind.u32
                                                                (shr IntKind.u32
                                                                  (bxor IntKind.u32 e1 (IntKind.u32.wrap x_1)) (4 : Int))
                                                                x_2)
                                                              (15 : Int)).toNat *
                                                          (1 : Nat))) =
                                                    some (Value.int IntKind.u32 x_3) ∧
                                                  ∃ (m : Nat),
                                                    m < n ∧
                                                      I m
                                                        (bxor IntKind.u32
                                                            (shr IntKind.u32
                                                              (bxor IntKind.u32
                                                                (shr IntKind.u32
                                                                  (bxor IntKind.u32 e1 (IntKind.u32.wrap x_1)) (4 : Int))
                                                                x_2)
                                                              (4 : Int))
                                                            x_3,
                                                          IntKind.i64.wrap (x.snd + (1 : Int)))
                                                        w')
                        (R (bxor IntKind.u32 (if IntKind.u32.signed = true then (-1 : Int) else IntKind.u32.max) x.fst) w')))
  : CallT [Ty.one (Sh.int IntKind.u32)] Try.prog 189 [Value.int IntKind.u32 n0, Value.slice s1.a s1.len s1.cap] w R :=
  fnV_sound (h := HT.z.sq
  (HT.z.sq
    ((HT.z.sq
          (HT.lp [((10 : Nat), Ty.one (Sh.int IntKind.i64))]
              (HT.z.sq
                (HT.z.sq
                  ((HT.z.sq
                          (HT.z.sq
                            ((HT.z.sq
                                  (HT.lp
                                      [((7 : Nat), Ty.one (Sh.int IntKind.u32)),
                                        ((15 : Nat), Ty.one (Sh.int IntKind.i64))]
                                      HT.z).bl).sq
                              HT.z))).bl.sq
                    HT.z)))).bl).sq
      (HT.z.sq
        ((HT.z.sq
              (HT.lp [((0 : Nat), Ty.one (Sh.int IntKind.u32)), ((28 : Nat), Ty.one (Sh.int IntKind.i64))] HT.z).bl).sq
          HT.z))))) Try.func189 (by kernel_rfl) (by kernel_rfl) (Eq.mp (by kernel_rfl) h)

/-- dunnage/word.Zero$1 -/
theorem word_Zero_1.vc (n0 : Int) (w : World) (R : Bool → World → Prop)
  (h : R (n0 == (0 : Int)) w)
  : CallT [Ty.one Sh.bool] Try.prog 190 [Value.int IntKind.u8 n0] w R :=
  fnV_sound (h := HT.z) Try.func190 (by kernel_rfl) (by kernel_rfl) (Eq.mp (by kernel_rfl) h)

/-- dunnage/word.Get$1 -/
theorem word_Get_1.vc (n0 : Int) (p1 : Option Addr) (p2 : Option Addr) (w : World) (R : Bool → World → Prop)
  (h : onP p1 fun (A : Addr) =>
      ∃ (x : Int),
        w.drew.cell? A = some (Value.int IntKind.u64 x) ∧
          onP p2 fun (A : Addr) =>
            ∃ (x_1 : Int),
              w.drew.cell? A = some (Value.int IntKind.i64 x_1) ∧
                (0 : Int) ≤ x_1 ∧
                  onP p1 fun (A : Addr) =>
                    (w.drew.cell? A).isSome = true ∧
                      w.drew.frozen? A = false ∧
                        let w1 :=
                          w.drew.setCell A
                            (Value.int IntKind.u64 (bor IntKind.u64 x (shl IntKind.u64 (IntKind.u64.wrap n0) x_1)));
                        onP p2 fun (A : Addr) =>
                          ∃ (x : Int),
                            w1.cell? A = some (Value.int IntKind.i64 x) ∧
                              onP p2 fun (A : Addr) =>
                                (w1.cell? A).isSome = true ∧
                                  w1.frozen? A = false ∧
                                    R true (w1.setCell A (Value.int IntKind.i64 (IntKind.i64.wrap (x + (8 : Int))))))
  : CallT [Ty.one Sh.bool] Try.prog 191 [Value.int IntKind.u8 n0, Value.pointer p1, Value.pointer p2] w R :=
  fnV_sound (h := HT.z.sq ((HT.rg (6 : Nat)).sq HT.z)) Try.func191 (by kernel_rfl) (by kernel_rfl) (Eq.mp (by kernel_rfl) h)

/-- dunnage/dunnageref02.More -/
theorem dunnageref02_More.vc (n0 : Int) (s1 : SV) (w : World) (R : Int → World → Prop)
  (h : ∃ (I : Nat → Int × Int → World → Prop),
      (∃ (n : Nat), I n (bxor IntKind.u32 n0 (4294967295 : Int), (0 : Int)) w) ∧
        ∀ (n : Nat) (x : Int × Int) (j : Nat → Value) (w' : World),
          I n x w' →
            let e1 := x.snd;
            cnd (decide (e1 < (↑s1.len : Int)))
              (let e1 := x.snd;
              (0 : Int) ≤ e1 ∧
                e1 < (↑s1.len : Int) ∧
                  onP s1.a fun (A : Addr) =>
                    ∃ (x_1 : Int),
                      w'.cell? (A.add (e1.toNat * (1 : Nat))) = some (Value.int IntKind.u8 x_1) ∧
                        ∃ (I_1 : Nat → Int × Int → World → Prop),
                          (∃ (n : Nat), I_1 n (bxor IntKind.u32 x.fst (IntKind.u32.wrap x_1), (0 : Int)) w') ∧
                            ∀ (n_1 : Nat) (x_2 : Int × Int) (j : Nat → Value) (w' : World),
                              I_1 n_1 x_2 w' →
                                let e1 := x_2.snd;
                                cnd (decide (e1 < (8 : Int)))
                                  (CallT [Ty.one (Sh.int IntKind.u32)] Try.prog (194 : Nat) [Value.int IntKind.u32 x_2.fst]
                                    w' fun (x : Int) (w' : World) =>
                                    ∃ (m : Nat), m < n_1 ∧ I_1 m (x, IntKind.i64.wrap (x_2.snd + (1 : Int))) w')
                                  (∃ (m : Nat), m < n ∧ I m (x_2.fst, IntKind.i64.wrap (x.snd + (1 : Int))) w'))
              (R (bxor IntKind.u32 x.fst (4294967295 : Int)) w'))
  : CallT [Ty.one (Sh.int IntKind.u32)] Try.prog 192 [Value.int IntKind.u32 n0, Value.slice s1.a s1.len s1.cap] w R :=
  fnV_sound (h := HT.z.sq
  (HT.z.sq
    ((HT.z.sq
          (HT.lp [((5 : Nat), Ty.one (Sh.int IntKind.u32)), ((6 : Nat), Ty.one (Sh.int IntKind.i64))]
              (HT.z.sq
                ((HT.z.sq
                        (HT.z.sq
                          (HT.lp [((5 : Nat), Ty.one (Sh.int IntKind.u32)), ((7 : Nat), Ty.one (Sh.int IntKind.i64))]
                              HT.z).bl)).bl.sq
                  HT.z))).bl).sq
      HT.z))) Try.func192 (by kernel_rfl) (by kernel_rfl) (Eq.mp (by kernel_rfl) h)

/-- dunnage/crc.half -/
theorem crc_half.vc (n0 : Int) (w : World) (R : Int → World → Prop)
  (h : cnd (band IntKind.u32 n0 (1 : Int) != (0 : Int))
      (R (bxor IntKind.u32 (shr IntKind.u32 n0 (1 : Int)) (2197175160 : Int)) w) (R (shr IntKind.u32 n0 (1 : Int)) w))
  : CallT [Ty.one (Sh.int IntKind.u32)] Try.prog 193 [Value.int IntKind.u32 n0] w R :=
  fnV_sound (h := HT.z) Try.func193 (by kernel_rfl) (by kernel_rfl) (Eq.mp (by kernel_rfl) h)

/-- dunnage/dunnageref02.step -/
theorem dunnageref02_step.vc (n0 : Int) (w : World) (R : Int → World → Prop)
  (h : cnd (band IntKind.u32 n0 (1 : Int) == (1 : Int))
      (R (bxor IntKind.u32 (shr IntKind.u32 n0 (1 : Int)) (2197175160 : Int)) w) (R (shr IntKind.u32 n0 (1 : Int)) w))
  : CallT [Ty.one (Sh.int IntKind.u32)] Try.prog 194 [Value.int IntKind.u32 n0] w R :=
  fnV_sound (h := HT.z) Try.func194 (by kernel_rfl) (by kernel_rfl) (Eq.mp (by kernel_rfl) h)

end Go.Proofs
