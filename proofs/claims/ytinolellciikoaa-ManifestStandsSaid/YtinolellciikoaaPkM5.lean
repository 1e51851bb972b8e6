/- Texts that the claim leans on, one behind the other: each begins with a sentence of its own. Conditions: those that each names. -/
import Derived.Below
import Derived.ChangeOld
import Derived.Deep.Quiet
import Derived.KernelRfl
import Derived.Laws.Cells
import Derived.Laws.Entries
import Derived.Laws.Sem
import Derived.Laws.Strings
import Derived.Laws.World
import Derived.Lib.SlBytesConst
import Derived.OpenShut
import Derived.Orders
import Derived.OrdersHeld
import Derived.ProofKit
import Derived.ShutString
import Derived.SizedLaws
import Derived.StillTail
import Derived.Tactics
import Derived.Test.YtinolellciikoaaProg
import Derived.Test.YtinolellciikoaaRows
import Derived.Test.YtinolellciikoaaPkM4
/- The conditions of the seat's functions, written by a program (VcTool, genvc.py) off 'vc' reduced; each is tied to 'vc' by the kernel. Conditions: none. -/
set_option linter.unusedVariables false
set_option maxRecDepth 100000
namespace Go.Proofs
open Go Go.Vc
/-- dunnage/dunnagehelp.Plain[byte] -/
theorem dunnagehelp_Plain_byte.vc (s0 : SV) (s1 : SV) (w : World) (R : Bool → World → Prop)
  (h : CallT [Ty.one Sh.bool] Try.prog (160 : Nat)
      [Value.slice s0.a s0.len s0.cap, Value.slice s1.a s1.len s1.cap, Value.func (Fn.func (161 : Nat)) #[] #[]] w
      fun (x : Bool) (w' : World) => R x w')
  : CallT [Ty.one Sh.bool] Try.prog 105 [Value.slice s0.a s0.len s0.cap, Value.slice s1.a s1.len s1.cap] w R :=
  fnV_sound (h := HT.z) Try.func105 (by kernel_rfl) (by kernel_rfl) (Eq.mp (by kernel_rfl) h)

/-- (*dunnage/disk.Disk).ready -/
theorem disk_Disk_ready.vc (p0 : Option Addr) (w : World) (R : Int → World → Prop)
  (h : cnd p0.isNone (R (2 : Int) w)
      (onP p0 fun (a : Addr) =>
        ∃ (x : Bool), w.cell? (a.add (2 : Nat)) = some (Value.bool x) ∧ cnd x (R (40 : Int) w) (R (0 : Int) w)))
  : CallT [Ty.one (Sh.int IntKind.i64)] Try.prog 107 [Value.pointer p0] w R :=
  fnV_sound (h := HT.z) Try.func107 (by kernel_rfl) (by kernel_rfl) (Eq.mp (by kernel_rfl) h)

/-- (*dunnage/disk.Disk).counted -/
theorem disk_Disk_counted.vc (p0 : Option Addr) (v1 : Value) (w : World) (R : Int → World → Prop)
  (h : callVal [Ty.one Sh.bool] Try.prog v1 [] w fun (x : Bool) (w' : World) =>
      cnd (!x) (R (0 : Int) w')
        (onP p0 fun (a : Addr) =>
          (w'.cell? (a.add (2 : Nat))).isSome = true ∧
            w'.frozen? (a.add (2 : Nat)) = false ∧ R (40 : Int) (w'.setCell (a.add (2 : Nat)) (Value.bool true))))
  : CallT [Ty.one (Sh.int IntKind.i64)] Try.prog 108 [Value.pointer p0, v1] w R :=
  fnV_sound (h := HT.z) Try.func108 (by kernel_rfl) (by kernel_rfl) (Eq.mp (by kernel_rfl) h)

/-- (*dunnage/disk.Disk).hit -/
theorem disk_Disk_hit.vc (p0 : Option Addr) (w : World) (R : Bool → World → Prop)
  (h : onP p0 fun (a : Addr) =>
      ∃ (x : Int),
        w.cell? (a.add (3 : Nat)) = some (Value.int IntKind.i64 x) ∧
          cnd (x == (0 : Int)) (R false w)
            (onP p0 fun (a : Addr) =>
              ∃ (x : Int),
                w.cell? (a.add (3 : Nat)) = some (Value.int IntKind.i64 x) ∧
                  onP p0 fun (a : Addr) =>
                    (w.cell? (a.add (3 : Nat))).isSome = true ∧
                      w.frozen? (a.add (3 : Nat)) = false ∧
                        let w1 := w.setCell (a.add (3 : Nat)) (Value.int IntKind.i64 (IntKind.i64.wrap (x - (1 : Int))));
                        onP p0 fun (a : Addr) =>
                          ∃ (x : Int), w1.cell? (a.add (3 : Nat)) = some (Value.int IntKind.i64 x) ∧ R (x == (0 : Int)) w1))
  : CallT [Ty.one Sh.bool] Try.prog 109 [Value.pointer p0] w R :=
  fnV_sound (h := HT.z) Try.func109 (by kernel_rfl) (by kernel_rfl) (Eq.mp (by kernel_rfl) h)

/-- (*dunnage/disk.Disk).has -/
theorem disk_Disk_has.vc (p0 : Option Addr) (n1 : Int) (w : World) (R : Bool → World → Prop)
  (h : cnd (decide (n1 ≥ (0 : Int)))
      (onP p0 fun (a : Addr) =>
        ∃ (x : SV), w.cell? (a.add (0 : Nat)) = some (Value.slice x.a x.len x.cap) ∧ R (decide (n1 < (↑x.len : Int))) w)
      (R false w))
  : CallT [Ty.one Sh.bool] Try.prog 110 [Value.pointer p0, Value.int IntKind.i64 n1] w R :=
  fnV_sound (h := HT.z) Try.func110 (by kernel_rfl) (by kernel_rfl) (Eq.mp (by kernel_rfl) h)

/-- slices.Clone[[]byte,byte] -/
theorem slices_Clone_byte_byte.vc (s0 : SV) (w : World) (R : SV → World → Prop)
  (h : cnd s0.a.isNone (R (SV.mk none (0 : Nat) (0 : Nat)) w)
      (appV Try.prog [(23 : Nat), (23 : Nat)] (23 : Nat)
        [Value.slice (some (Addr.mk w.heap.size (0 : Nat) none)) (0 : Nat) (0 : Nat), Value.slice s0.a s0.len s0.cap]
        (w.alloc (Obj.cells #[] (5 : Nat))) fun (s : SV) (w' : World) => R s w'))
  : CallT [Ty.one Sh.slice] Try.prog 111 [Value.slice s0.a s0.len s0.cap] w R :=
  fnV_sound (h := HT.z) Try.func111 (by kernel_rfl) (by kernel_rfl) (Eq.mp (by kernel_rfl) h)

/-- dunnage/word.Var -/
theorem word_Var.vc (n0 : Int) (w : World) (R : SV → World → Prop)
  (h : ∃ (I : Nat → Int × SV → World → Prop),
      (∃ (n : Nat), I n (n0, SV.mk none (0 : Nat) (0 : Nat)) w) ∧
        ∀ (n : Nat) (x : Int × SV) (j : Nat → Value) (w' : World),
          I n x w' →
            let e1 := x.fst;
            cnd (decide (e1 ≥ (128 : Int)))
              (appV Try.prog [(23 : Nat), (23 : Nat)] (23 : Nat)
                [Value.slice x.snd.a x.snd.len x.snd.cap,
                  Value.slice (some (Addr.mk w'.heap.size (0 : Nat) none)) (1 : Nat) (1 : Nat)]
                (w'.alloc
                  (Obj.cells #[Value.int IntKind.u8 (bor IntKind.u8 (IntKind.u8.wrap x.fst) (128 : Int))] (5 : Nat)))
                fun (s : SV) (w' : World) => ∃ (m : Nat), m < n ∧ I m (shr IntKind.u64 x.fst (7 : Int), s) w')
              (appV Try.prog [(23 : Nat), (23 : Nat)] (23 : Nat)
                [Value.slice x.snd.a x.snd.len x.snd.cap,
                  Value.slice (some (Addr.mk w'.heap.size (0 : Nat) none)) (1 : Nat) (1 : Nat)]
                (w'.alloc (Obj.cells #[Value.int IntKind.u8 (IntKind.u8.wrap x.fst)] (5 : Nat)))
                fun (s : SV) (w' : World) => R s w'))
  : CallT [Ty.one Sh.slice] Try.prog 114 [Value.int IntKind.u64 n0] w R :=
  fnV_sound (h := HT.z.sq (HT.z.sq ((HT.lp [((0 : Nat), Ty.one (Sh.int IntKind.u64)), ((3 : Nat), Ty.one Sh.slice)] HT.z).bl.sq HT.z))) Try.func114 (by kernel_rfl) (by kernel_rfl) (Eq.mp (by kernel_rfl) h)

/-- dunnage/dunnageref01.Var -/
theorem dunnageref01_Var.vc (n0 : Int) (w : World) (R : SV → World → Prop)
  (h : ∃ (I : Nat → Int × SV → World → Prop),
      (∃ (n : Nat), I n (n0, SV.mk none (0 : Nat) (0 : Nat)) w) ∧
        ∀ (n : Nat) (x : Int × SV) (j : Nat → Value) (w' : World),
          I n x w' →
            let e1 := x.fst;
            cnd (decide (e1 ≥ (128 : Int)))
              (appV Try.prog [(23 : Nat), (23 : Nat)] (23 : Nat)
                [Value.slice x.snd.a x.snd.len x.snd.cap,
                  Value.slice (some (Addr.mk w'.heap.size (0 : Nat) none)) (1 : Nat) (1 : Nat)]
                (w'.alloc
                  (Obj.cells #[Value.int IntKind.u8 (bor IntKind.u8 (IntKind.u8.wrap x.fst) (128 : Int))] (5 : Nat)))
                fun (s : SV) (w' : World) => ∃ (m : Nat), m < n ∧ I m (shr IntKind.u64 x.fst (7 : Int), s) w')
              (appV Try.prog [(23 : Nat), (23 : Nat)] (23 : Nat)
                [Value.slice x.snd.a x.snd.len x.snd.cap,
                  Value.slice (some (Addr.mk w'.heap.size (0 : Nat) none)) (1 : Nat) (1 : Nat)]
                (w'.alloc (Obj.cells #[Value.int IntKind.u8 (IntKind.u8.wrap x.fst)] (5 : Nat)))
                fun (s : SV) (w' : World) => R s w'))
  : CallT [Ty.one Sh.slice] Try.prog 116 [Value.int IntKind.u64 n0] w R :=
  fnV_sound (h := HT.z.sq (HT.z.sq ((HT.lp [((0 : Nat), Ty.one (Sh.int IntKind.u64)), ((3 : Nat), Ty.one Sh.slice)] HT.z).bl.sq HT.z))) Try.func116 (by kernel_rfl) (by kernel_rfl) (Eq.mp (by kernel_rfl) h)

/-- dunnage/word.ReadVar -/
theorem word_ReadVar.vc (s0 : SV) (n1 : Int) (w : World) (R : Int × Int × Int → World → Prop)
  (h : cnd (decide (n1 < (0 : Int))) (R ((0 : Int), (0 : Int), (1 : Int)) w)
      (let w1 := w.alloc (Obj.cells #[Value.int IntKind.u64 (0 : Int)] (22 : Nat));
      let w1_1 := w1.alloc (Obj.cells #[Value.int IntKind.i64 (0 : Int)] (3 : Nat));
      let w1_2 := w1_1.alloc (Obj.cells #[Value.bool false] (4 : Nat));
      (w1_2.cell? (Addr.mk w.heap.size (0 : Nat) none)).isSome = true ∧
        w1_2.frozen? (Addr.mk w.heap.size (0 : Nat) none) = false ∧
          let w1_3 := w1_2.setCell (Addr.mk w.heap.size (0 : Nat) none) (Value.int IntKind.u64 (0 : Int));
          (w1_3.cell? (Addr.mk w1.heap.size (0 : Nat) none)).isSome = true ∧
            w1_3.frozen? (Addr.mk w1.heap.size (0 : Nat) none) = false ∧
              let w1_4 := w1_3.setCell (Addr.mk w1.heap.size (0 : Nat) none) (Value.int IntKind.i64 (0 : Int));
              (w1_4.cell? (Addr.mk w1_1.heap.size (0 : Nat) none)).isSome = true ∧
                w1_4.frozen? (Addr.mk w1_1.heap.size (0 : Nat) none) = false ∧
                  let w1_5 := w1_4.setCell (Addr.mk w1_1.heap.size (0 : Nat) none) (Value.bool true);
                  let w1_6 := w1_5.alloc (Obj.cells #[Value.nilFunc] (211 : Nat));
                  canSt w1_6 (Addr.mk w1_5.heap.size (0 : Nat) none) (1 : Nat) ∧
                    let w1 :=
                      setCells w1_6 (Addr.mk w1_5.heap.size (0 : Nat) none) (0 : Nat)
                        [Value.func (Fn.func (163 : Nat)) #[]
                            #[Value.pointer (some (Addr.mk w1.heap.size (0 : Nat) none)),
                              Value.pointer (some (Addr.mk w1_1.heap.size (0 : Nat) none)),
                              Value.pointer (some (Addr.mk w.heap.size (0 : Nat) none))]];
                    ∃ (x : Value),
                      cellsAt w1 (Addr.mk w1_5.heap.size (0 : Nat) none) [x] ∧
                        CallT [Ty.one (Sh.int IntKind.i64), Ty.one Sh.bool] Try.prog (164 : Nat)
                          [Value.agg #[x], Value.slice s0.a s0.len s0.cap, Value.int IntKind.i64 n1] w1
                          fun (x : Int × Bool) (w' : World) =>
                          ∃ (x_1 : Bool),
                            w'.cell? (Addr.mk w1_1.heap.size (0 : Nat) none) = some (Value.bool x_1) ∧
                              cnd (!x_1) (R ((0 : Int), (0 : Int), (11 : Int)) w')
                                (cnd x.snd (R ((0 : Int), (0 : Int), (10 : Int)) w')
                                  (∃ (x_2 : Int),
                                    w'.cell? (Addr.mk w.heap.size (0 : Nat) none) = some (Value.int IntKind.u64 x_2) ∧
                                      R (x_2, x.fst, (0 : Int)) w'))))
  : CallT [Ty.one (Sh.int IntKind.u64), Ty.one (Sh.int IntKind.i64), Ty.one (Sh.int IntKind.i64)] Try.prog 117 [Value.slice s0.a s0.len s0.cap, Value.int IntKind.i64 n1] w R :=
  fnV_sound (h := HT.z) Try.func117 (by kernel_rfl) (by kernel_rfl) (Eq.mp (by kernel_rfl) h)

/-- (*dunnage/dunnageref01.Reader).Num -/
theorem dunnageref01_Reader_Num.vc (p0 : Option Addr) (w : World) (R : Int → World → Prop)
  (h : onP p0 fun (a : Addr) =>
      ∃ (x : Int),
        w.cell? (a.add (2 : Nat)) = some (Value.int IntKind.i64 x) ∧
          cnd (x != (0 : Int)) (R (0 : Int) w)
            (∃ (S : World → Prop),
              S w.drew ∧
                onP p0 fun (a : Addr) =>
                  ∃ (x : SV),
                    (∀ (w : World), S w → w.cell? (a.add (0 : Nat)) = some (Value.slice x.a x.len x.cap)) ∧
                      onP p0 fun (a : Addr) =>
                        ∃ (x_1 : Int),
                          (∀ (w : World), S w → w.cell? (a.add (1 : Nat)) = some (Value.int IntKind.i64 x_1)) ∧
                            CallT [Ty.one (Sh.int IntKind.u64), Ty.one (Sh.int IntKind.i64), Ty.one (Sh.int IntKind.i64)]
                              Try.prog (165 : Nat) [Value.slice x.a x.len x.cap, Value.int IntKind.i64 x_1] w.drew
                              fun (x : Int × Int × Int) (w' : World) =>
                              let e1 := x.snd.snd;
                              cnd (e1 != (0 : Int))
                                (onP p0 fun (a : Addr) =>
                                  (w'.cell? (a.add (2 : Nat))).isSome = true ∧
                                    w'.frozen? (a.add (2 : Nat)) = false ∧
                                      R (0 : Int) (w'.setCell (a.add (2 : Nat)) (Value.int IntKind.i64 e1)))
                                (onP p0 fun (a : Addr) =>
                                  (w'.cell? (a.add (1 : Nat))).isSome = true ∧
                                    w'.frozen? (a.add (1 : Nat)) = false ∧
                                      R x.fst (w'.setCell (a.add (1 : Nat)) (Value.int IntKind.i64 x.snd.fst)))))
  : CallT [Ty.one (Sh.int IntKind.u64)] Try.prog 118 [Value.pointer p0] w R :=
  fnV_sound (h := HT.z.sq
  (HT.z.sq
    ((HT.dr
          (DT.take (0 : Nat)
            (DT.take (1 : Nat)
              (DT.take (2 : Nat)
                (DT.take (3 : Nat)
                  (DT.take (4 : Nat)
                    (DT.take (5 : Nat)
                      (DT.take (6 : Nat)
                        (DT.take (7 : Nat)
                          (DT.alt (8 : Nat)
                            (DT.take (9 : Nat)
                              (DT.take (10 : Nat)
                                (DT.take (11 : Nat)
                                  (DT.take (12 : Nat)
                                    (DT.take (13 : Nat) (DT.take (14 : Nat) (DT.take (15 : Nat) DT.fin)))))))
                            DT.fin)))))))))).sq
      HT.z))) Try.func118 (by kernel_rfl) (by kernel_rfl) (Eq.mp (by kernel_rfl) h)

/-- (*dunnage/dunnageref01.Reader).Most -/
theorem dunnageref01_Reader_Most.vc (p0 : Option Addr) (n1 : Int) (w : World) (R : Int → World → Prop)
  (h : CallT [Ty.one (Sh.int IntKind.u64)] Try.prog (118 : Nat) [Value.pointer p0] w fun (x : Int) (w' : World) =>
      ∃ (R_1 : PUnit → World → Prop),
        (∃ (R : Bool → World → Prop),
            (onP p0 fun (a : Addr) =>
                ∃ (x_1 : Int),
                  w'.cell? (a.add (2 : Nat)) = some (Value.int IntKind.i64 x_1) ∧
                    cnd (x_1 == (0 : Int)) (R (decide (x > n1)) w') (R false w')) ∧
              ∀ (x : Bool) (j : Nat → Value) (w' : World),
                R x w' →
                  cnd x
                    (onP p0 fun (a : Addr) =>
                      (w'.cell? (a.add (2 : Nat))).isSome = true ∧
                        w'.frozen? (a.add (2 : Nat)) = false ∧
                          R_1 () (w'.setCell (a.add (2 : Nat)) (Value.int IntKind.i64 (11 : Int))))
                    (R_1 () w')) ∧
          ∀ (x_1 : PUnit) (j : Nat → Value) (w' : World),
            R_1 x_1 w' →
              onP p0 fun (a : Addr) =>
                ∃ (x_2 : Int),
                  w'.cell? (a.add (2 : Nat)) = some (Value.int IntKind.i64 x_2) ∧
                    cnd (x_2 != (0 : Int)) (R (0 : Int) w') (R (IntKind.i64.wrap x) w'))
  : CallT [Ty.one (Sh.int IntKind.i64)] Try.prog 119 [Value.pointer p0, Value.int IntKind.u64 n1] w R :=
  fnV_sound (h := HT.z.sq (HT.z.sq (HT.jn [] (HT.jn [((17 : Nat), Ty.one Sh.bool)] HT.z HT.z) HT.z))) Try.func119 (by kernel_rfl) (by kernel_rfl) (Eq.mp (by kernel_rfl) h)

end Go.Proofs
/- The conditions of the seat's functions, written by a program (VcTool, genvc.py) off 'vc' reduced; each is tied to 'vc' by the kernel. Conditions: none. -/
set_option linter.unusedVariables false
set_option maxRecDepth 100000
namespace Go.Proofs
open Go Go.Vc
/-- dunnage/sector.put -/
theorem sector_put.vc (s0 : SV) (n1 : Int) (n2 : Int) (n3 : Int) (w : World) (R : PUnit → World → Prop)
  (h : CallT [Ty.one Sh.slice, Ty.one (Sh.int IntKind.i64)] Try.prog (188 : Nat)
      [Value.slice none (0 : Nat) (0 : Nat), Value.int IntKind.u64 n3, Value.int IntKind.i64 n2] w
      fun (x : SV × Int) (w' : World) =>
      (0 : Int) ≤ IntKind.i64.wrap (n1 + n2) ∧
        IntKind.i64.wrap (n1 + n2) ≤ (↑s0.cap : Int) ∧
          (0 : Int) ≤ IntKind.i64.wrap (n1 + n2) ∧
            IntKind.i64.wrap (n1 + n2) ≤ (↑(IntKind.i64.wrap (n1 + n2)).toNat : Int) ∧
              (0 : Int) ≤ n1 ∧
                n1 ≤ (↑(IntKind.i64.wrap (n1 + n2)).toNat : Int) ∧
                  cpyV Try.prog [(23 : Nat), (23 : Nat)] (3 : Nat)
                    [Value.slice (subA s0.a n1.toNat (1 : Nat) (IntKind.i64.wrap (n1 + n2)).toNat)
                        ((IntKind.i64.wrap (n1 + n2)).toNat - n1.toNat) ((IntKind.i64.wrap (n1 + n2)).toNat - n1.toNat),
                      Value.slice x.fst.a x.fst.len x.fst.cap]
                    w' fun (n : Int) (w' : World) => R () w')
  : CallT [] Try.prog 171 [Value.slice s0.a s0.len s0.cap, Value.int IntKind.i64 n1, Value.int IntKind.i64 n2, Value.int IntKind.u64 n3] w R :=
  fnV_sound (h := HT.z) Try.func171 (by kernel_rfl) (by kernel_rfl) (Eq.mp (by kernel_rfl) h)

/-- dunnage/crc.Sum -/
theorem crc_Sum.vc (s0 : SV) (w : World) (R : Int → World → Prop)
  (h : CallT [Ty.one (Sh.int IntKind.u32)] Try.prog (189 : Nat)
      [Value.int IntKind.u32 (0 : Int), Value.slice s0.a s0.len s0.cap] w fun (x : Int) (w' : World) => R x w')
  : CallT [Ty.one (Sh.int IntKind.u32)] Try.prog 172 [Value.slice s0.a s0.len s0.cap] w R :=
  fnV_sound (h := HT.z) Try.func172 (by kernel_rfl) (by kernel_rfl) (Eq.mp (by kernel_rfl) h)

/-- dunnage/word.Zero -/
theorem word_Zero.vc (s0 : SV) (w : World) (R : Bool → World → Prop)
  (h : let w1 := w.alloc (Obj.cells #[Value.nilFunc] (211 : Nat));
    canSt w1 (Addr.mk w.heap.size (0 : Nat) none) (1 : Nat) ∧
      let w1 := setCells w1 (Addr.mk w.heap.size (0 : Nat) none) (0 : Nat) [Value.func (Fn.func (190 : Nat)) #[] #[]];
      ∃ (x : Value),
        cellsAt w1 (Addr.mk w.heap.size (0 : Nat) none) [x] ∧
          CallT [Ty.one (Sh.int IntKind.i64), Ty.one Sh.bool] Try.prog (164 : Nat)
            [Value.agg #[x], Value.slice s0.a s0.len s0.cap, Value.int IntKind.i64 (0 : Int)] w1
            fun (x : Int × Bool) (w' : World) => R x.snd w')
  : CallT [Ty.one Sh.bool] Try.prog 173 [Value.slice s0.a s0.len s0.cap] w R :=
  fnV_sound (h := HT.z) Try.func173 (by kernel_rfl) (by kernel_rfl) (Eq.mp (by kernel_rfl) h)

/-- dunnage/word.Get -/
theorem word_Get.vc (s0 : SV) (n1 : Int) (n2 : Int) (w : World) (R : Int × Int → World → Prop)
  (h : ∃ (R_1 : PUnit → World → Prop),
      cnd (decide (n2 < (1 : Int))) (R ((0 : Int), (1 : Int)) w)
          (cnd (decide (n2 > (8 : Int))) (R ((0 : Int), (1 : Int)) w)
            (cnd (decide (n1 < (0 : Int))) (R ((0 : Int), (1 : Int)) w) (R_1 () w))) ∧
        ∀ (x : PUnit) (j : Nat → Value) (w' : World),
          R_1 x w' →
            ∃ (R_2 : PUnit → World → Prop),
              cnd (decide (n1 > (↑s0.len : Int))) (R ((0 : Int), (10 : Int)) w')
                  (cnd (decide (IntKind.i64.wrap ((↑s0.len : Int) - n1) < n2)) (R ((0 : Int), (10 : Int)) w') (R_2 () w')) ∧
                ∀ (x : PUnit) (j : Nat → Value) (w' : World),
                  R_2 x w' →
                    let w1 := w'.alloc (Obj.cells #[Value.int IntKind.u64 (0 : Int)] (22 : Nat));
                    let w1_1 := w1.alloc (Obj.cells #[Value.int IntKind.i64 (0 : Int)] (3 : Nat));
                    (w1_1.cell? (Addr.mk w'.heap.size (0 : Nat) none)).isSome = true ∧
                      w1_1.frozen? (Addr.mk w'.heap.size (0 : Nat) none) = false ∧
                        let w1_2 := w1_1.setCell (Addr.mk w'.heap.size (0 : Nat) none) (Value.int IntKind.u64 (0 : Int));
                        (w1_2.cell? (Addr.mk w1.heap.size (0 : Nat) none)).isSome = true ∧
                          w1_2.frozen? (Addr.mk w1.heap.size (0 : Nat) none) = false ∧
                            let w1_3 :=
                              w1_2.setCell (Addr.mk w1.heap.size (0 : Nat) none) (Value.int IntKind.i64 (0 : Int));
                            let w1_4 := w1_3.alloc (Obj.cells #[Value.nilFunc] (211 : Nat));
                            canSt w1_4 (Addr.mk w1_3.heap.size (0 : Nat) none) (1 : Nat) ∧
                              let w1 :=
                                setCells w1_4 (Addr.mk w1_3.heap.size (0 : Nat) none) (0 : Nat)
                                  [Value.func (Fn.func (191 : Nat)) #[]
                                      #[Value.pointer (some (Addr.mk w'.heap.size (0 : Nat) none)),
                                        Value.pointer (some (Addr.mk w1.heap.size (0 : Nat) none))]];
                              ∃ (x : Value),
                                cellsAt w1.drew (Addr.mk w1_3.heap.size (0 : Nat) none) [x] ∧
                                  (0 : Int) ≤ IntKind.i64.wrap (n1 + n2) ∧
                                    IntKind.i64.wrap (n1 + n2) ≤ (↑s0.cap : Int) ∧
                                      (0 : Int) ≤ n1 ∧
                                        n1 ≤ (↑(IntKind.i64.wrap (n1 + n2)).toNat : Int) ∧
                                          CallT [Ty.one (Sh.int IntKind.i64), Ty.one Sh.bool] Try.prog (164 : Nat)
                                            [Value.agg #[x],
                                              Value.slice (subA s0.a n1.toNat (1 : Nat) s0.cap)
                                                ((IntKind.i64.wrap (n1 + n2)).toNat - n1.toNat) (s0.cap - n1.toNat),
                                              Value.int IntKind.i64 (0 : Int)]
                                            w1.drew fun (x : Int × Bool) (w'_1 : World) =>
                                            ∃ (x : Int),
                                              w'_1.cell? (Addr.mk w'.heap.size (0 : Nat) none) =
                                                  some (Value.int IntKind.u64 x) ∧
                                                R (x, (0 : Int)) w'_1)
  : CallT [Ty.one (Sh.int IntKind.u64), Ty.one (Sh.int IntKind.i64)] Try.prog 174 [Value.slice s0.a s0.len s0.cap, Value.int IntKind.i64 n1, Value.int IntKind.i64 n2] w R :=
  fnV_sound (h := HT.z.sq (HT.jn [] HT.z (HT.jn [] HT.z (HT.z.sq (HT.z.sq ((HT.rg (7 : Nat)).sq HT.z)))))) Try.func174 (by kernel_rfl) (by kernel_rfl) (Eq.mp (by kernel_rfl) h)

/-- dunnage/dunnageref03.Known -/
theorem dunnageref03_Known.vc (n0 : Int) (w : World) (R : Bool → World → Prop)
  (h : cnd (n0 == (23 : Int)) (cnd (n0 == (23 : Int)) (R true w) (R false w))
      (cnd (n0 == (43 : Int)) (cnd (n0 == (43 : Int)) (R true w) (R false w))
        (cnd (n0 == (77 : Int)) (cnd (n0 == (77 : Int)) (R true w) (R false w))
          (cnd (n0 == (142 : Int)) (cnd (n0 == (142 : Int)) (R true w) (R false w))
            (cnd (n0 == (113 : Int)) (cnd (n0 == (113 : Int)) (R true w) (R false w))
              (cnd (n0 == (178 : Int)) (R true w) (R false w)))))))
  : CallT [Ty.one Sh.bool] Try.prog 175 [Value.int IntKind.u8 n0] w R :=
  fnV_sound (h := HT.z) Try.func175 (by kernel_rfl) (by kernel_rfl) (Eq.mp (by kernel_rfl) h)

/-- dunnage/dunnageref03.number -/
theorem dunnageref03_number.vc (s0 : SV) (n1 : Int) (n2 : Int) (w : World) (R : SV → World → Prop)
  (h : ∃ (I : Nat → SV × Int → World → Prop),
      (∃ (n : Nat), I n (s0, (0 : Int)) w) ∧
        ∀ (n : Nat) (x : SV × Int) (j : Nat → Value) (w' : World),
          I n x w' →
            let e1 := x.snd;
            cnd (decide (e1 < n2))
              (let e1 := x.snd;
              (0 : Int) ≤ IntKind.u64.wrap ((8 : Int) * IntKind.u64.wrap e1) ∧
                appV Try.prog [(23 : Nat), (23 : Nat)] (23 : Nat)
                  [Value.slice x.fst.a x.fst.len x.fst.cap,
                    Value.slice (some (Addr.mk w'.heap.size (0 : Nat) none)) (1 : Nat) (1 : Nat)]
                  (w'.alloc
                    (Obj.cells
                      #[Value.int IntKind.u8
                          (IntKind.u8.wrap (shr IntKind.u64 n1 (IntKind.u64.wrap ((8 : Int) * IntKind.u64.wrap e1))))]
                      (5 : Nat)))
                  fun (s : SV) (w' : World) => ∃ (m : Nat), m < n ∧ I m (s, IntKind.i64.wrap (x.snd + (1 : Int))) w')
              (R x.fst w'))
  : CallT [Ty.one Sh.slice] Try.prog 176 [Value.slice s0.a s0.len s0.cap, Value.int IntKind.u64 n1, Value.int IntKind.i64 n2] w R :=
  fnV_sound (h := HT.z.sq ((HT.z.sq (HT.lp [((0 : Nat), Ty.one Sh.slice), ((7 : Nat), Ty.one (Sh.int IntKind.i64))] HT.z).bl).sq HT.z)) Try.func176 (by kernel_rfl) (by kernel_rfl) (Eq.mp (by kernel_rfl) h)

/-- dunnage/dunnageref02.Sum -/
theorem dunnageref02_Sum.vc (s0 : SV) (w : World) (R : Int → World → Prop)
  (h : CallT [Ty.one (Sh.int IntKind.u32)] Try.prog (192 : Nat)
      [Value.int IntKind.u32 (0 : Int), Value.slice s0.a s0.len s0.cap] w fun (x : Int) (w' : World) => R x w')
  : CallT [Ty.one (Sh.int IntKind.u32)] Try.prog 177 [Value.slice s0.a s0.len s0.cap] w R :=
  fnV_sound (h := HT.z) Try.func177 (by kernel_rfl) (by kernel_rfl) (Eq.mp (by kernel_rfl) h)

/-- dunnage/dunnageref01.Zero -/
theorem dunnageref01_Zero.vc (s0 : SV) (w : World) (R : Bool → World → Prop)
  (h : ∃ (I : Nat → Int → World → Prop),
      (∃ (n : Nat), I n (0 : Int) w) ∧
        ∀ (n : Nat) (x : Int) (j : Nat → Value) (w' : World),
          I n x w' →
            cnd (decide (x < (↑s0.len : Int)))
              ((0 : Int) ≤ x ∧
                x < (↑s0.len : Int) ∧
                  onP s0.a fun (A : Addr) =>
                    ∃ (x_1 : Int),
                      w'.cell? (A.add (x.toNat * (1 : Nat))) = some (Value.int IntKind.u8 x_1) ∧
                        cnd (x_1 != (0 : Int)) (R false w')
                          (∃ (m : Nat), m < n ∧ I m (IntKind.i64.wrap (x + (1 : Int))) w'))
              (R true w'))
  : CallT [Ty.one Sh.bool] Try.prog 178 [Value.slice s0.a s0.len s0.cap] w R :=
  fnV_sound (h := HT.z.sq ((HT.z.sq (HT.lp [((3 : Nat), Ty.one (Sh.int IntKind.i64))] HT.z).bl).sq HT.z)) Try.func178 (by kernel_rfl) (by kernel_rfl) (Eq.mp (by kernel_rfl) h)

/-- dunnage/dunnageref01.Get -/
theorem dunnageref01_Get.vc (s0 : SV) (n1 : Int) (n2 : Int) (w : World) (R : Int × Int → World → Prop)
  (h : ∃ (R_1 : PUnit → World → Prop),
      cnd (decide (n2 < (1 : Int))) (R ((0 : Int), (1 : Int)) w)
          (cnd (decide (n2 > (8 : Int))) (R ((0 : Int), (1 : Int)) w)
            (cnd (decide (n1 < (0 : Int))) (R ((0 : Int), (1 : Int)) w) (R_1 () w))) ∧
        ∀ (x : PUnit) (j : Nat → Value) (w' : World),
          R_1 x w' →
            ∃ (R_2 : PUnit → World → Prop),
              cnd (decide (n1 > (↑s0.len : Int))) (R ((0 : Int), (10 : Int)) w')
                  (cnd (decide (IntKind.i64.wrap ((↑s0.len : Int) - n1) < n2)) (R ((0 : Int), (10 : Int)) w') (R_2 () w')) ∧
                ∀ (x : PUnit) (j : Nat → Value) (w' : World),
                  R_2 x w' →
                    ∃ (I : Nat → Int × Int → World → Prop),
                      (∃ (n : Nat), I n ((0 : Int), IntKind.i64.wrap (n2 - (1 : Int))) w') ∧
                        ∀ (n : Nat) (x : Int × Int) (j : Nat → Value) (w' : World),
                          I n x w' →
                            let e1 := x.snd;
                            cnd (decide (e1 ≥ (0 : Int)))
                              (let e1 := x.snd;
                              (0 : Int) ≤ IntKind.i64.wrap (n1 + e1) ∧
                                IntKind.i64.wrap (n1 + e1) < (↑s0.len : Int) ∧
                                  onP s0.a fun (A : Addr) =>
                                    ∃ (x_1 : Int),
                                      w'.cell? (A.add ((IntKind.i64.wrap (n1 + e1)).toNat * (1 : Nat))) =
                                          some (Value.int IntKind.u8 x_1) ∧
                                        ∃ (m : Nat),
                                          m < n ∧
                                            I m
                                              (bor IntKind.u64 (shl IntKind.u64 x.fst (8 : Int)) (IntKind.u64.wrap x_1),
                                                IntKind.i64.wrap (x.snd - (1 : Int)))
                                              w')
                              (R (x.fst, (0 : Int)) w'))
  : CallT [Ty.one (Sh.int IntKind.u64), Ty.one (Sh.int IntKind.i64)] Try.prog 179 [Value.slice s0.a s0.len s0.cap, Value.int IntKind.i64 n1, Value.int IntKind.i64 n2] w R :=
  fnV_sound (h := HT.z.sq
  (HT.jn [] HT.z
    (HT.jn [] HT.z
      (HT.z.sq
        ((HT.z.sq
              (HT.lp [((8 : Nat), Ty.one (Sh.int IntKind.u64)), ((9 : Nat), Ty.one (Sh.int IntKind.i64))] HT.z).bl).sq
          HT.z))))) Try.func179 (by kernel_rfl) (by kernel_rfl) (Eq.mp (by kernel_rfl) h)

/-- dunnage/word.Put -/
theorem word_Put.vc (s0 : SV) (n1 : Int) (n2 : Int) (w : World) (R : SV × Int → World → Prop)
  (h : ∃ (R_1 : PUnit → World → Prop),
      cnd (decide (n2 < (1 : Int))) (R (SV.mk none (0 : Nat) (0 : Nat), (1 : Int)) w)
          (cnd (decide (n2 > (8 : Int))) (R (SV.mk none (0 : Nat) (0 : Nat), (1 : Int)) w) (R_1 () w)) ∧
        ∀ (x : PUnit) (j : Nat → Value) (w' : World),
          R_1 x w' →
            ∃ (R_2 : PUnit → World → Prop),
              cnd (decide (n2 < (8 : Int)))
                  ((0 : Int) ≤ IntKind.i64.wrap ((8 : Int) * n2) ∧
                    cnd (shr IntKind.u64 n1 (IntKind.i64.wrap ((8 : Int) * n2)) != (0 : Int))
                      (R (SV.mk none (0 : Nat) (0 : Nat), (12 : Int)) w') (R_2 () w'))
                  (R_2 () w') ∧
                ∀ (x : PUnit) (j : Nat → Value) (w' : World),
                  R_2 x w' →
                    CallT [Ty.one Sh.slice] Try.prog (111 : Nat) [Value.slice s0.a s0.len s0.cap] w'
                      fun (x : SV) (w' : World) =>
                      ∃ (I : Nat → Int × SV × Int → World → Prop),
                        (∃ (n : Nat), I n (n1, x, (0 : Int)) w') ∧
                          ∀ (n : Nat) (x : Int × SV × Int) (j : Nat → Value) (w' : World),
                            I n x w' →
                              cnd (decide (x.snd.snd < n2))
                                (appV Try.prog [(23 : Nat), (23 : Nat)] (23 : Nat)
                                  [Value.slice x.snd.fst.a x.snd.fst.len x.snd.fst.cap,
                                    Value.slice (some (Addr.mk w'.heap.size (0 : Nat) none)) (1 : Nat) (1 : Nat)]
                                  (w'.alloc (Obj.cells #[Value.int IntKind.u8 (IntKind.u8.wrap x.fst)] (5 : Nat)))
                                  fun (s : SV) (w' : World) =>
                                  ∃ (m : Nat),
                                    m < n ∧
                                      I m (shr IntKind.u64 x.fst (8 : Int), s, IntKind.i64.wrap (x.snd.snd + (1 : Int))) w')
                                (R (x.snd.fst, (0 : Int)) w'))
  : CallT [Ty.one Sh.slice, Ty.one (Sh.int IntKind.i64)] Try.prog 188 [Value.slice s0.a s0.len s0.cap, Value.int IntKind.u64 n1, Value.int IntKind.i64 n2] w R :=
  fnV_sound (h := HT.z.sq
  (HT.jn [] HT.z
    (HT.jn [] HT.z
      (HT.z.sq
        ((HT.z.sq
              (HT.lp
                  [((1 : Nat), Ty.one (Sh.int IntKind.u64)), ((8 : Nat), Ty.one Sh.slice),
                    ((27 : Nat), Ty.one (Sh.int IntKind.i64))]
                  HT.z).bl).sq
          HT.z))))) Try.func188 (by kernel_rfl) (by kernel_rfl) (Eq.mp (by kernel_rfl) h)

/-- dunnage/crc.More -/
theorem crc_More.vc (n0 : Int) (s1 : SV) (w : World) (R : Int → World → Prop)
  (h : ∃ (I : Nat → Int → World → Prop),
      (∃ (n : Nat),
          I n (0 : Int)
            (w.alloc
              (Obj.cells
                #[Value.int IntKind.u32 (0 : Int), Value.int IntKind.u32 (0 : Int), Value.int IntKind.u32 (0 : Int),
                  Value.int IntKind.u32 (0 : Int), Value.int IntKind.u32 (0 : Int), Value.int IntKind.u32 (0 : Int),
                  Value.int IntKind.u32 (0 : Int), Value.int IntKind.u32 (0 : Int), Value.int IntKind.u32 (0 : Int),
                  Value.int IntKind.u32 (0 : Int), Value.int IntKind.u32 (0 : Int), Value.int IntKind.u32 (0 : Int),
                  Value.int IntKind.u32 (0 : Int), Value.int IntKind.u32 (0 : Int), Value.int IntKind.u32 (0 : Int),
                  Value.int IntKind.u32 (0 : Int)]
                (239 : Nat)))) ∧
        ∀ (n : Nat) (x : Int) (j : Nat → Value) (w' : World),
          I n x w' →
            cnd (decide (x < (16 : Int)))
              (∃ (I_1 : Nat → Int × Int → World → Prop),
                (∃ (n : Nat), I_1 n (IntKind.u32.wrap x, (0 : Int)) w') ∧
                  ∀ (n_1 : Nat) (x_1 : Int × Int) (j : Nat → Value) (w' : World),
                    I_1 n_1 x_1 w' →
                      cnd (decide (x_1.snd < (4 : Int)))
                        (CallT [Ty.one (Sh.int IntKind.u32)] Try.prog (193 : Nat) [Value.int IntKind.u32 x_1.fst] w'
                          fun (x : Int) (w' : World) =>
                          ∃ (m : Nat), m < n_1 ∧ I_1 m (x, IntKind.i64.wrap (x_1.snd + (1 : Int))) w')
                        ((0 : Int) ≤ x ∧
                          x < (↑(16 : Nat) : Int) ∧
                            (w'.cell? ((Addr.mk w.heap.size (0 : Nat) none).add (x.toNat * (1 : Nat)))).isSome = true ∧
                              w'.frozen? ((Addr.mk w.heap.size (0 : Nat) none).add (x.toNat * (1 : Nat))) = false ∧
                                ∃ (m : Nat),
                                  m < n ∧
                                    I m (IntKind.i64.wrap (x + (1 : Int)))
                                      (w'.setCell ((Addr.mk w.heap.size (0 : Nat) none).add (x.toNat * (1 : Nat)))
                                        (Value.int IntKind.u32 x_1.fst))))
              (∃ (I : Nat → Int × Int → World → Prop),
                (∃ (n : Nat),
                    I n (bxor IntKind.u32 (if IntKind.u32.signed = true then (-1 : Int) else IntKind.u32.max) n0, (0 : Int))
                      w') ∧
                  ∀ (n : Nat) (x : Int × Int) (j : Nat → Value) (w' : World),
                    I n x w' →
                      cnd (decide (x.snd < (↑s1.len : Int)))
                        ((0 : Int) ≤ x.snd ∧
                          x.snd < (↑s1.len : Int) ∧
                            onP s1.a fun (A : Addr) =>
                              ∃ (x_1 : Int),
                                w'.cell? (A.add (Int.toNat x.snd * (1 : Nat))) = some (Value.int IntKind.u8 x_1) ∧
                                  let e1 := x.fst;
                                  (0 : Int) ≤ band IntKind.u32 (bxor IntKind.u32 e1 (IntKind.u32.wrap x_1)) (15 : Int) ∧
                                    band IntKind.u32 (bxor IntKind.u32 e1 (IntKind.u32.wrap x_1)) (15 : Int) <
                                        (↑(16 : Nat) : Int) ∧
                                      ∃ (x_2 : Int),
                                        w'.cell?
                                              ((Addr.mk w.heap.size (0 : Nat) none).add
                                                ((band IntKind.u32 (bxor IntKind.u32 e1 (IntKind.u32.wrap x_1))
                                                      (15 : Int)).toNat *
                                                  (1 : Nat))) =
                                            some (Value.int IntKind.u32 x_2) ∧
                                          (0 : Int) ≤
                                              band IntKind.u32
                                                (bxor IntKind.u32
                                                  (shr IntKind.u32 (bxor IntKind.u32 e1 (IntKind.u32.wrap x_1)) (4 : Int))
                                                  x_2)
                                                (15 : Int) ∧
                                            band IntKind.u32
                                                  (bxor IntKind.u32
                                                    (shr IntKind.u32 (bxor IntKind.u32 e1 (IntKind.u32.wrap x_1)) (4 : Int))
                                                    x_2)
                                                  (15 : Int) <
                                                (↑(16 : Nat) : Int) ∧
                                              ∃ (x_3 : Int),
                                                w'.cell?
                                                      ((Addr.mk w.heap.size (0 : Nat) none).add
                                                        ((band IntKind.u32
                                                              (bxor IntKind.u32
                                                                (shr IntKind.u32
                                                                  (bxor IntKind.u32 e1 (IntKind.u32.wrap x_1)) (4 : Int))
                                                                x_2)
                                                              (15 : Int)).toNat *
                                                          (1 : Nat))) =
                                                    some (Value.int IntKind.u32 x_3) ∧
                                                  ∃ (m : Nat),
                                                    m < n ∧
                                                      I m
                                                        (bxor IntKind.u32
                                                            (shr IntKind.u32
                                                              (bxor IntKind.u32
                                                                (shr IntKind.u32
                                                                  (bxor IntKind.u32 e1 (IntKind.u32.wrap x_1)) (4 : Int))
                                                                x_2)
                                                              (4 : Int))
                                                            x_3,
                                                          IntKind.i64.wrap (x.snd + (1 : Int)))
                                                        w')
                        (R (bxor IntKind.u32 (if IntKind.u32.signed = true then (-1 : Int) else IntKind.u32.max) x.fst) w')))
  : CallT [Ty.one (Sh.int IntKind.u32)] Try.prog 189 [Value.int IntKind.u32 n0, Value.slice s1.a s1.len s1.cap] w R :=
  fnV_sound (h := HT.z.sq
  (HT.z.sq
    ((HT.z.sq
          (HT.lp [((10 : Nat), Ty.one (Sh.int IntKind.i64))]
              (HT.z.sq
                (HT.z.sq
                  ((HT.z.sq
                          (HT.z.sq
                            ((HT.z.sq
                                  (HT.lp
                                      [((7 : Nat), Ty.one (Sh.int IntKind.u32)),
                                        ((15 : Nat), Ty.one (Sh.int IntKind.i64))]
                                      HT.z).bl).sq
                              HT.z))).bl.sq
                    HT.z)))).bl).sq
      (HT.z.sq
        ((HT.z.sq
              (HT.lp [((0 : Nat), Ty.one (Sh.int IntKind.u32)), ((28 : Nat), Ty.one (Sh.int IntKind.i64))] HT.z).bl).sq
          HT.z))))) Try.func189 (by kernel_rfl) (by kernel_rfl) (Eq.mp (by kernel_rfl) h)

/-- dunnage/word.Zero$1 -/
theorem word_Zero_1.vc (n0 : Int) (w : World) (R : Bool → World → Prop)
  (h : R (n0 == (0 : Int)) w)
  : CallT [Ty.one Sh.bool] Try.prog 190 [Value.int IntKind.u8 n0] w R :=
  fnV_sound (h := HT.z) Try.func190 (by kernel_rfl) (by kernel_rfl) (Eq.mp (by kernel_rfl) h)

/-- dunnage/word.Get$1 -/
theorem word_Get_1.vc (n0 : Int) (p1 : Option Addr) (p2 : Option Addr) (w : World) (R : Bool → World → Prop)
  (h : onP p1 fun (A : Addr) =>
      ∃ (x : Int),
        w.drew.cell? A = some (Value.int IntKind.u64 x) ∧
          onP p2 fun (A : Addr) =>
            ∃ (x_1 : Int),
              w.drew.cell? A = some (Value.int IntKind.i64 x_1) ∧
                (0 : Int) ≤ x_1 ∧
                  onP p1 fun (A : Addr) =>
                    (w.drew.cell? A).isSome = true ∧
                      w.drew.frozen? A = false ∧
                        let w1 :=
                          w.drew.setCell A
                            (Value.int IntKind.u64 (bor IntKind.u64 x (shl IntKind.u64 (IntKind.u64.wrap n0) x_1)));
                        onP p2 fun (A : Addr) =>
                          ∃ (x : Int),
                            w1.cell? A = some (Value.int IntKind.i64 x) ∧
                              onP p2 fun (A : Addr) =>
                                (w1.cell? A).isSome = true ∧
                                  w1.frozen? A = false ∧
                                    R true (w1.setCell A (Value.int IntKind.i64 (IntKind.i64.wrap (x + (8 : Int))))))
  : CallT [Ty.one Sh.bool] Try.prog 191 [Value.int IntKind.u8 n0, Value.pointer p1, Value.pointer p2] w R :=
  fnV_sound (h := HT.z.sq ((HT.rg (6 : Nat)).sq HT.z)) Try.func191 (by kernel_rfl) (by kernel_rfl) (Eq.mp (by kernel_rfl) h)

/-- dunnage/dunnageref02.More -/
theorem dunnageref02_More.vc (n0 : Int) (s1 : SV) (w : World) (R : Int → World → Prop)
  (h : ∃ (I : Nat → Int × Int → World → Prop),
      (∃ (n : Nat), I n (bxor IntKind.u32 n0 (4294967295 : Int), (0 : Int)) w) ∧
        ∀ (n : Nat) (x : Int × Int) (j : Nat → Value) (w' : World),
          I n x w' →
            let e1 := x.snd;
            cnd (decide (e1 < (↑s1.len : Int)))
              (let e1 := x.snd;
              (0 : Int) ≤ e1 ∧
                e1 < (↑s1.len : Int) ∧
                  onP s1.a fun (A : Addr) =>
                    ∃ (x_1 : Int),
                      w'.cell? (A.add (e1.toNat * (1 : Nat))) = some (Value.int IntKind.u8 x_1) ∧
                        ∃ (I_1 : Nat → Int × Int → World → Prop),
                          (∃ (n : Nat), I_1 n (bxor IntKind.u32 x.fst (IntKind.u32.wrap x_1), (0 : Int)) w') ∧
                            ∀ (n_1 : Nat) (x_2 : Int × Int) (j : Nat → Value) (w' : World),
                              I_1 n_1 x_2 w' →
                                let e1 := x_2.snd;
                                cnd (decide (e1 < (8 : Int)))
                                  (CallT [Ty.one (Sh.int IntKind.u32)] Try.prog (194 : Nat) [Value.int IntKind.u32 x_2.fst]
                                    w' fun (x : Int) (w' : World) =>
                                    ∃ (m : Nat), m < n_1 ∧ I_1 m (x, IntKind.i64.wrap (x_2.snd + (1 : Int))) w')
                                  (∃ (m : Nat), m < n ∧ I m (x_2.fst, IntKind.i64.wrap (x.snd + (1 : Int))) w'))
              (R (bxor IntKind.u32 x.fst (4294967295 : Int)) w'))
  : CallT [Ty.one (Sh.int IntKind.u32)] Try.prog 192 [Value.int IntKind.u32 n0, Value.slice s1.a s1.len s1.cap] w R :=
  fnV_sound (h := HT.z.sq
  (HT.z.sq
    ((HT.z.sq
          (HT.lp [((5 : Nat), Ty.one (Sh.int IntKind.u32)), ((6 : Nat), Ty.one (Sh.int IntKind.i64))]
              (HT.z.sq
                ((HT.z.sq
                        (HT.z.sq
                          (HT.lp [((5 : Nat), Ty.one (Sh.int IntKind.u32)), ((7 : Nat), Ty.one (Sh.int IntKind.i64))]
                              HT.z).bl)).bl.sq
                  HT.z))).bl).sq
      HT.z))) Try.func192 (by kernel_rfl) (by kernel_rfl) (Eq.mp (by kernel_rfl) h)

/-- dunnage/crc.half -/
theorem crc_half.vc (n0 : Int) (w : World) (R : Int → World → Prop)
  (h : cnd (band IntKind.u32 n0 (1 : Int) != (0 : Int))
      (R (bxor IntKind.u32 (shr IntKind.u32 n0 (1 : Int)) (2197175160 : Int)) w) (R (shr IntKind.u32 n0 (1 : Int)) w))
  : CallT [Ty.one (Sh.int IntKind.u32)] Try.prog 193 [Value.int IntKind.u32 n0] w R :=
  fnV_sound (h := HT.z) Try.func193 (by kernel_rfl) (by kernel_rfl) (Eq.mp (by kernel_rfl) h)

/-- dunnage/dunnageref02.step -/
theorem dunnageref02_step.vc (n0 : Int) (w : World) (R : Int → World → Prop)
  (h : cnd (band IntKind.u32 n0 (1 : Int) == (1 : Int))
      (R (bxor IntKind.u32 (shr IntKind.u32 n0 (1 : Int)) (2197175160 : Int)) w) (R (shr IntKind.u32 n0 (1 : Int)) w))
  : CallT [Ty.one (Sh.int IntKind.u32)] Try.prog 194 [Value.int IntKind.u32 n0] w R :=
  fnV_sound (h := HT.z) Try.func194 (by kernel_rfl) (by kernel_rfl) (Eq.mp (by kernel_rfl) h)

end Go.Proofs
/- The conditions of the seat's functions, written by a program (VcTool, genvc.py) off 'vc' reduced; each is tied to 'vc' by the kernel. Conditions: none. -/
set_option linter.unusedVariables false
set_option maxRecDepth 100000
namespace Go.Proofs
open Go Go.Vc
/-- dunnage/dunnagehelp.Own[byte] -/
theorem dunnagehelp_Own_byte.vc (s0 : SV) (n1 : Int) (w : World) (R : SV → World → Prop)
  (h : mkSV Try.prog (23 : Nat) (Value.int IntKind.i64 (0 : Int))
      (Value.int IntKind.i64 (IntKind.i64.wrap ((↑s0.len : Int) + (3 : Int)))) w fun (s : SV) (w' : World) =>
      appV Try.prog [(23 : Nat), (23 : Nat)] (23 : Nat) [Value.slice s.a s.len s.cap, Value.slice s0.a s0.len s0.cap] w'
        fun (s : SV) (w' : World) =>
        (0 : Int) ≤ IntKind.i64.wrap ((↑s0.len : Int) + (3 : Int)) ∧
          IntKind.i64.wrap ((↑s0.len : Int) + (3 : Int)) ≤ (↑s.cap : Int) ∧
            ∃ (I : Nat → Int → World → Prop),
              (∃ (n : Nat), I n (↑s0.len : Int) w') ∧
                ∀ (n : Nat) (x : Int) (j : Nat → Value) (w' : World),
                  I n x w' →
                    let e1 := (↑((IntKind.i64.wrap ((↑s0.len : Int) + (3 : Int))).toNat - (0 : Nat)) : Int);
                    cnd (decide (x < e1))
                      ((0 : Int) ≤ x ∧
                        x < (↑((IntKind.i64.wrap ((↑s0.len : Int) + (3 : Int))).toNat - (0 : Nat)) : Int) ∧
                          onP (subA s.a (0 : Nat) (1 : Nat) s.cap) fun (A : Addr) =>
                            (w'.cell? (A.add (x.toNat * (1 : Nat)))).isSome = true ∧
                              w'.frozen? (A.add (x.toNat * (1 : Nat))) = false ∧
                                ∃ (m : Nat),
                                  m < n ∧
                                    I m (IntKind.i64.wrap (x + (1 : Int)))
                                      (w'.setCell (A.add (x.toNat * (1 : Nat))) (Value.int IntKind.u8 n1)))
                      (R s w'))
  : CallT [Ty.one Sh.slice] Try.prog 27 [Value.slice s0.a s0.len s0.cap, Value.int IntKind.u8 n1] w R :=
  fnV_sound (h := HT.z.sq (HT.z.sq (HT.z.sq (HT.z.sq ((HT.z.sq (HT.lp [((7 : Nat), Ty.one (Sh.int IntKind.i64))] HT.z).bl).sq HT.z))))) Try.func27 (by kernel_rfl) (by kernel_rfl) (Eq.mp (by kernel_rfl) h)

/-- dunnage/dunnagehelp.Bytes -/
theorem dunnagehelp_Bytes.vc (s0 : SV) (s1 : SV) (w : World) (R : Bool → World → Prop)
  (h : ∃ (bs : List UInt8),
      bs.length = s0.len ∧
        (∀ (A : Addr),
            s0.a = some A →
              ∀ (i : Nat),
                i < s0.len → w.cell? (A.add i) = some (Value.int IntKind.u8 (↑(bs.getD i (0 : UInt8)).toNat : Int))) ∧
          (s0.a = none → bs = []) ∧
            ∃ (bs_1 : List UInt8),
              bs_1.length = s1.len ∧
                (∀ (A : Addr),
                    s1.a = some A →
                      ∀ (i : Nat),
                        i < s1.len →
                          w.cell? (A.add i) = some (Value.int IntKind.u8 (↑(bs_1.getD i (0 : UInt8)).toNat : Int))) ∧
                  (s1.a = none → bs_1 = []) ∧ R ((ByteArray.mk bs.toArray).toList == (ByteArray.mk bs_1.toArray).toList) w)
  : CallT [Ty.one Sh.bool] Try.prog 33 [Value.slice s0.a s0.len s0.cap, Value.slice s1.a s1.len s1.cap] w R :=
  fnV_sound (h := HT.z) Try.func33 (by kernel_rfl) (by kernel_rfl) (Eq.mp (by kernel_rfl) h)

/-- dunnage/dunnagehelp.Kept[byte] -/
theorem dunnagehelp_Kept_byte.vc (s0 : SV) (s1 : SV) (n2 : Int) (w : World) (R : Bool → World → Prop)
  (h : ∃ (R_1 : PUnit → World → Prop),
      (CallT [Ty.one Sh.bool] Try.prog (105 : Nat) [Value.slice s0.a s0.len s0.cap, Value.slice s1.a s1.len s1.cap] w
          fun (x : Bool) (w' : World) =>
          cnd (!x) (R false w')
            (cnd (decide ((↑s0.cap : Int) < IntKind.i64.wrap ((↑s1.len : Int) + (3 : Int)))) (R false w') (R_1 () w'))) ∧
        ∀ (x : PUnit) (j : Nat → Value) (w' : World),
          R_1 x w' →
            (0 : Int) ≤ IntKind.i64.wrap ((↑s1.len : Int) + (3 : Int)) ∧
              IntKind.i64.wrap ((↑s1.len : Int) + (3 : Int)) ≤ (↑s0.cap : Int) ∧
                ∃ (I : Nat → Int → World → Prop),
                  (∃ (n : Nat), I n (↑s1.len : Int) w') ∧
                    ∀ (n : Nat) (x : Int) (j : Nat → Value) (w' : World),
                      I n x w' →
                        let e1 := (↑((IntKind.i64.wrap ((↑s1.len : Int) + (3 : Int))).toNat - (0 : Nat)) : Int);
                        cnd (decide (x < e1))
                          ((0 : Int) ≤ x ∧
                            x < (↑((IntKind.i64.wrap ((↑s1.len : Int) + (3 : Int))).toNat - (0 : Nat)) : Int) ∧
                              onP (subA s0.a (0 : Nat) (1 : Nat) s0.cap) fun (A : Addr) =>
                                ∃ (x_1 : Int),
                                  w'.cell? (A.add (x.toNat * (1 : Nat))) = some (Value.int IntKind.u8 x_1) ∧
                                    cnd (x_1 != n2) (R false w')
                                      (∃ (m : Nat), m < n ∧ I m (IntKind.i64.wrap (x + (1 : Int))) w'))
                          (R true w'))
  : CallT [Ty.one Sh.bool] Try.prog 34 [Value.slice s0.a s0.len s0.cap, Value.slice s1.a s1.len s1.cap, Value.int IntKind.u8 n2] w R :=
  fnV_sound (h := HT.z.sq (HT.jn [] HT.z (HT.z.sq ((HT.z.sq (HT.lp [((8 : Nat), Ty.one (Sh.int IntKind.i64))] HT.z).bl).sq HT.z)))) Try.func34 (by kernel_rfl) (by kernel_rfl) (Eq.mp (by kernel_rfl) h)

/-- dunnage/disk.New -/
theorem disk_New.vc (n0 : Int) (w : World) (R : Option Addr × Int → World → Prop)
  (h : cnd (decide (n0 < (1 : Int))) (R (none, (1 : Int)) w)
      (cnd (decide (n0 > (65536 : Int))) (R (none, (1 : Int)) w)
        (mkSV Try.prog (148 : Nat) (Value.int IntKind.i64 n0) (Value.int IntKind.i64 n0) w fun (s : SV) (w' : World) =>
          R (some (Addr.mk w'.heap.size (0 : Nat) none), (0 : Int))
            (w'.alloc
              (Obj.cells
                #[Value.slice s.a s.len s.cap, Value.slice none (0 : Nat) (0 : Nat), Value.bool false,
                  Value.int IntKind.i64 (0 : Int), Value.int IntKind.i64 (0 : Int)]
                (151 : Nat))))))
  : CallT [Ty.one Sh.ptr, Ty.one (Sh.int IntKind.i64)] Try.prog 37 [Value.int IntKind.i64 n0] w R :=
  fnV_sound (h := HT.z) Try.func37 (by kernel_rfl) (by kernel_rfl) (Eq.mp (by kernel_rfl) h)

/-- (*dunnage/disk.Disk).Arm -/
theorem disk_Disk_Arm.vc (p0 : Option Addr) (n1 : Int) (w : World) (R : Int → World → Prop)
  (h : CallT [Ty.one (Sh.int IntKind.i64)] Try.prog (107 : Nat) [Value.pointer p0] w fun (x : Int) (w' : World) =>
      cnd (x != (0 : Int)) (R x w')
        (onP p0 fun (a : Addr) =>
          (w'.cell? (a.add (3 : Nat))).isSome = true ∧
            w'.frozen? (a.add (3 : Nat)) = false ∧
              R (0 : Int) (w'.setCell (a.add (3 : Nat)) (Value.int IntKind.i64 (max n1 (0 : Int))))))
  : CallT [Ty.one (Sh.int IntKind.i64)] Try.prog 39 [Value.pointer p0, Value.int IntKind.i64 n1] w R :=
  fnV_sound (h := HT.z) Try.func39 (by kernel_rfl) (by kernel_rfl) (Eq.mp (by kernel_rfl) h)

/-- (*dunnage/disk.Disk).Flush -/
theorem disk_Disk_Flush.vc (p0 : Option Addr) (w : World) (R : Int → World → Prop)
  (h : CallT [Ty.one (Sh.int IntKind.i64)] Try.prog (107 : Nat) [Value.pointer p0] w fun (x : Int) (w' : World) =>
      cnd (x != (0 : Int)) (R x w')
        (CallT [Ty.one (Sh.int IntKind.i64)] Try.prog (108 : Nat)
          [Value.pointer p0, Value.func (Fn.func (109 : Nat)) #[Value.pointer p0] #[]] w' fun (x : Int) (w' : World) =>
          cnd (x != (0 : Int)) (R x w')
            (onP p0 fun (a : Addr) =>
              ∃ (x : SV),
                w'.cell? (a.add (1 : Nat)) = some (Value.slice x.a x.len x.cap) ∧
                  ∃ (I : Nat → Int → World → Prop),
                    (∃ (n : Nat), I n (0 : Int) w') ∧
                      ∀ (n : Nat) (x_1 : Int) (j : Nat → Value) (w' : World),
                        I n x_1 w' →
                          cnd (decide (x_1 < (↑x.len : Int)))
                            ((0 : Int) ≤ x_1 ∧
                              x_1 < (↑x.len : Int) ∧
                                onP x.a fun (A : Addr) =>
                                  ∃ (cs : Array Value),
                                    cs.size = (513 : Nat) ∧
                                      (∀ (i : Nat),
                                          i < (513 : Nat) → w'.cell? ((A.add (x_1.toNat * (513 : Nat))).add i) = cs[i]?) ∧
                                        let w1 := w'.alloc (Obj.cells (zc Try.prog (156 : Nat)).toArray (156 : Nat));
                                        cs.toList.length = (513 : Nat) ∧
                                          (∀ (v : Value), v ∈ cs.toList → oneV v True) ∧
                                            canSt w1 (Addr.mk w'.heap.size (0 : Nat) none) cs.toList.length ∧
                                              let w1 :=
                                                setCells w1 (Addr.mk w'.heap.size (0 : Nat) none) (0 : Nat) cs.toList;
                                              onP p0 fun (a : Addr) =>
                                                ∃ (x : SV),
                                                  w1.drew.cell? (a.add (0 : Nat)) = some (Value.slice x.a x.len x.cap) ∧
                                                    ∃ (x_2 : Int),
                                                      w1.drew.cell? ((Addr.mk w'.heap.size (0 : Nat) none).add (0 : Nat)) =
                                                          some (Value.int IntKind.i64 x_2) ∧
                                                        ∃ (cs : Array Value),
                                                          cs.size = (512 : Nat) ∧
                                                            (∀ (i : Nat),
                                                                i < (512 : Nat) →
                                                                  w1.drew.cell?
                                                                      (((Addr.mk w'.heap.size (0 : Nat) none).add
                                                                            (1 : Nat)).add
                                                                        i) =
                                                                    cs[i]?) ∧
                                                              (0 : Int) ≤ x_2 ∧
                                                                x_2 < (↑x.len : Int) ∧
                                                                  onP x.a fun (A : Addr) =>
                                                                    cs.toList.length = (512 : Nat) ∧
                                                                      (∀ (v : Value), v ∈ cs.toList → oneV v True) ∧
                                                                        canSt w1.drew (A.add (x_2.toNat * (512 : Nat)))
                                                                            cs.toList.length ∧
                                                                          ∃ (m : Nat),
                                                                            m < n ∧
                                                                              I m (IntKind.i64.wrap (x_1 + (1 : Int)))
                                                                                (setCells w1.drew
                                                                                  (A.add (x_2.toNat * (512 : Nat)))
                                                                                  (0 : Nat) cs.toList))
                            (onP p0 fun (a : Addr) =>
                              (w'.cell? (a.add (1 : Nat))).isSome = true ∧
                                w'.frozen? (a.add (1 : Nat)) = false ∧
                                  R (0 : Int) (w'.setCell (a.add (1 : Nat)) (Value.slice none (0 : Nat) (0 : Nat)))))))
  : CallT [Ty.one (Sh.int IntKind.i64)] Try.prog 40 [Value.pointer p0] w R :=
  fnV_sound (h := HT.z.sq
  (HT.z.sq
    (HT.z.sq
      ((HT.z.sq
            (HT.lp [((24 : Nat), Ty.one (Sh.int IntKind.i64))]
                (HT.z.sq (HT.z.sq ((HT.z.sq (HT.rg (9 : Nat))).bl.sq HT.z)))).bl).sq
        HT.z)))) Try.func40 (by kernel_rfl) (by kernel_rfl) (Eq.mp (by kernel_rfl) h)

/-- (*dunnage/disk.Disk).Write -/
theorem disk_Disk_Write.vc (p0 : Option Addr) (n1 : Int) (s2 : SV) (w : World) (R : Int → World → Prop)
  (h : CallT [Ty.one (Sh.int IntKind.i64)] Try.prog (107 : Nat) [Value.pointer p0] w fun (x : Int) (w' : World) =>
      cnd (x != (0 : Int)) (R x w')
        (∃ (R_1 : PUnit → World → Prop),
          (CallT [Ty.one Sh.bool] Try.prog (110 : Nat) [Value.pointer p0, Value.int IntKind.i64 n1] w'
              fun (x : Bool) (w' : World) =>
              cnd (!x) (R (1 : Int) w') (cnd ((↑s2.len : Int) != (512 : Int)) (R (1 : Int) w') (R_1 () w'))) ∧
            ∀ (x : PUnit) (j : Nat → Value) (w' : World),
              R_1 x w' →
                ∃ (S : World → Prop),
                  S w'.drew ∧
                    onP p0 fun (a : Addr) =>
                      ∃ (x : SV),
                        (∀ (w : World), S w → w.cell? (a.add (1 : Nat)) = some (Value.slice x.a x.len x.cap)) ∧
                          (512 : Nat) ≤ s2.len ∧
                            onP s2.a fun (A : Addr) =>
                              ∃ (cs : Array Value),
                                cs.size = (512 : Nat) ∧
                                  (∀ (w : World), S w → ∀ (i : Nat), i < (512 : Nat) → w.cell? (A.add i) = cs[i]?) ∧
                                    (1 : Nat) = (1 : Nat) ∧
                                      (1 : Nat) ≤ (zc Try.prog (156 : Nat)).length ∧
                                        cs.toList.length = (512 : Nat) ∧
                                          (513 : Nat) ≤
                                              (splL (zc Try.prog (156 : Nat)) (0 : Nat) [Value.int IntKind.i64 n1]).length ∧
                                            (splL (splL (zc Try.prog (156 : Nat)) (0 : Nat) [Value.int IntKind.i64 n1])
                                                    (1 : Nat) cs.toList).length =
                                                (513 : Nat) ∧
                                              (513 : Nat) ≤ (repz (1 : Nat) (zc Try.prog (156 : Nat))).length ∧
                                                let w1 :=
                                                  w'.drew.alloc
                                                    (Obj.cells
                                                      (splL (repz (1 : Nat) (zc Try.prog (156 : Nat)))
                                                          ((0 : Nat) * (513 : Nat))
                                                          (splL
                                                            (splL (zc Try.prog (156 : Nat)) (0 : Nat)
                                                              [Value.int IntKind.i64 n1])
                                                            (1 : Nat) cs.toList)).toArray
                                                      (156 : Nat));
                                                S w1 ∧
                                                  appV Try.prog [(149 : Nat), (149 : Nat)] (149 : Nat)
                                                    [Value.slice x.a x.len x.cap,
                                                      Value.slice (some (Addr.mk w'.drew.heap.size (0 : Nat) none))
                                                        (1 : Nat) (1 : Nat)]
                                                    w1 fun (s : SV) (w' : World) =>
                                                    S w' ∧
                                                      onP p0 fun (a : Addr) =>
                                                        (w'.cell? (a.add (1 : Nat))).isSome = true ∧
                                                          w'.frozen? (a.add (1 : Nat)) = false ∧
                                                            CallT [Ty.one (Sh.int IntKind.i64)] Try.prog (108 : Nat)
                                                              [Value.pointer p0,
                                                                Value.func (Fn.func (109 : Nat)) #[Value.pointer p0] #[]]
                                                              (w'.setCell (a.add (1 : Nat)) (Value.slice s.a s.len s.cap))
                                                              fun (x : Int) (w' : World) => R x w'))
  : CallT [Ty.one (Sh.int IntKind.i64)] Try.prog 41 [Value.pointer p0, Value.int IntKind.i64 n1, Value.slice s2.a s2.len s2.cap] w R :=
  fnV_sound (h := HT.z.sq
  (HT.z.sq
    (HT.jn [] HT.z
      ((HT.dr
            (DT.take (0 : Nat)
              (DT.take (1 : Nat)
                (DT.take (2 : Nat)
                  (DT.take (3 : Nat)
                    (DT.take (4 : Nat)
                      (DT.take (5 : Nat)
                        (DT.take (6 : Nat)
                          (DT.take (7 : Nat)
                            (DT.take (8 : Nat)
                              (DT.take (9 : Nat)
                                (DT.alt (10 : Nat)
                                  (DT.alt (11 : Nat)
                                    (DT.take (12 : Nat) (DT.take (13 : Nat) (DT.alt (14 : Nat) DT.fin DT.fin))) DT.fin)
                                  DT.fin)))))))))))).sq
        HT.z)))) Try.func41 (by kernel_rfl) (by kernel_rfl) (Eq.mp (by kernel_rfl) h)

/-- (*dunnage/disk.Disk).Read -/
theorem disk_Disk_Read.vc (p0 : Option Addr) (n1 : Int) (w : World) (R : SV × Int → World → Prop)
  (h : CallT [Ty.one (Sh.int IntKind.i64)] Try.prog (107 : Nat) [Value.pointer p0] w fun (x : Int) (w' : World) =>
      cnd (x != (0 : Int)) (R (SV.mk none (0 : Nat) (0 : Nat), x) w')
        (CallT [Ty.one Sh.bool] Try.prog (110 : Nat) [Value.pointer p0, Value.int IntKind.i64 n1] w'
          fun (x : Bool) (w' : World) =>
          cnd (!x) (R (SV.mk none (0 : Nat) (0 : Nat), (1 : Int)) w')
            (onP p0 fun (a : Addr) =>
              ∃ (x : SV),
                w'.cell? (a.add (1 : Nat)) = some (Value.slice x.a x.len x.cap) ∧
                  ∃ (I : Nat → Int → World → Prop),
                    (∃ (n : Nat), I n (IntKind.i64.wrap ((↑x.len : Int) - (1 : Int))) w') ∧
                      ∀ (n : Nat) (x : Int) (j : Nat → Value) (w' : World),
                        I n x w' →
                          cnd (decide (x ≥ (0 : Int)))
                            (onP p0 fun (a : Addr) =>
                              ∃ (x_1 : SV),
                                w'.cell? (a.add (1 : Nat)) = some (Value.slice x_1.a x_1.len x_1.cap) ∧
                                  (0 : Int) ≤ x ∧
                                    x < (↑x_1.len : Int) ∧
                                      onP x_1.a fun (A : Addr) =>
                                        ∃ (x_2 : Int),
                                          w'.cell? ((A.add (x.toNat * (513 : Nat))).add (0 : Nat)) =
                                              some (Value.int IntKind.i64 x_2) ∧
                                            cnd (x_2 == n1)
                                              (onP p0 fun (a : Addr) =>
                                                ∃ (x_3 : SV),
                                                  w'.cell? (a.add (1 : Nat)) = some (Value.slice x_3.a x_3.len x_3.cap) ∧
                                                    (0 : Int) ≤ x ∧
                                                      x < (↑x_3.len : Int) ∧
                                                        onP x_3.a fun (A : Addr) =>
                                                          CallT [Ty.one Sh.slice] Try.prog (111 : Nat)
                                                            [Value.slice
                                                                (subA (some ((A.add (x.toNat * (513 : Nat))).add (1 : Nat)))
                                                                  (0 : Nat) (1 : Nat) (512 : Nat))
                                                                ((512 : Nat) - (0 : Nat)) ((512 : Nat) - (0 : Nat))]
                                                            w' fun (x : SV) (w' : World) => R (x, (0 : Int)) w')
                                              (∃ (m : Nat), m < n ∧ I m (IntKind.i64.wrap (x - (1 : Int))) w'))
                            (onP p0 fun (a : Addr) =>
                              ∃ (x : SV),
                                w'.cell? (a.add (0 : Nat)) = some (Value.slice x.a x.len x.cap) ∧
                                  (0 : Int) ≤ n1 ∧
                                    n1 < (↑x.len : Int) ∧
                                      onP x.a fun (A : Addr) =>
                                        CallT [Ty.one Sh.slice] Try.prog (111 : Nat)
                                          [Value.slice
                                              (subA (some (A.add (n1.toNat * (512 : Nat)))) (0 : Nat) (1 : Nat) (512 : Nat))
                                              ((512 : Nat) - (0 : Nat)) ((512 : Nat) - (0 : Nat))]
                                          w' fun (x : SV) (w' : World) => R (x, (0 : Int)) w'))))
  : CallT [Ty.one Sh.slice, Ty.one (Sh.int IntKind.i64)] Try.prog 44 [Value.pointer p0, Value.int IntKind.i64 n1] w R :=
  fnV_sound (h := HT.z.sq (HT.z.sq (HT.z.sq ((HT.z.sq (HT.lp [((7 : Nat), Ty.one (Sh.int IntKind.i64))] HT.z).bl).sq HT.z)))) Try.func44 (by kernel_rfl) (by kernel_rfl) (Eq.mp (by kernel_rfl) h)

/-- (*dunnage/disk.Disk).Start -/
theorem disk_Disk_Start.vc (p0 : Option Addr) (w : World) (R : Int → World → Prop)
  (h : cnd p0.isNone (R (2 : Int) w)
      (onP p0 fun (a : Addr) =>
        ∃ (x : Bool),
          w.cell? (a.add (2 : Nat)) = some (Value.bool x) ∧
            cnd x
              (onP p0 fun (a : Addr) =>
                (w.cell? (a.add (1 : Nat))).isSome = true ∧
                  w.frozen? (a.add (1 : Nat)) = false ∧
                    let w1 := w.setCell (a.add (1 : Nat)) (Value.slice none (0 : Nat) (0 : Nat));
                    onP p0 fun (a : Addr) =>
                      (w1.cell? (a.add (3 : Nat))).isSome = true ∧
                        w1.frozen? (a.add (3 : Nat)) = false ∧
                          let w1 := w1.setCell (a.add (3 : Nat)) (Value.int IntKind.i64 (0 : Int));
                          onP p0 fun (a : Addr) =>
                            (w1.cell? (a.add (2 : Nat))).isSome = true ∧
                              w1.frozen? (a.add (2 : Nat)) = false ∧
                                R (0 : Int) (w1.setCell (a.add (2 : Nat)) (Value.bool false)))
              (onP p0 fun (a : Addr) =>
                (w.cell? (a.add (2 : Nat))).isSome = true ∧
                  w.frozen? (a.add (2 : Nat)) = false ∧ R (0 : Int) (w.setCell (a.add (2 : Nat)) (Value.bool false)))))
  : CallT [Ty.one (Sh.int IntKind.i64)] Try.prog 45 [Value.pointer p0] w R :=
  fnV_sound (h := HT.z) Try.func45 (by kernel_rfl) (by kernel_rfl) (Eq.mp (by kernel_rfl) h)

end Go.Proofs
/- Whole numbers' bits as Go has them, over the natural numbers. Conditions: that the numbers fit their kinds. -/
namespace Go.Vc
open Go
def IntKind.uns : IntKind → Bool | .u8 | .u16 | .u32 | .u64 => true | _ => false
theorem wrap_nat {k : IntKind} (hk : IntKind.uns k = true) {n : Nat} (h : n < 2 ^ k.bits) : k.wrap (n : Int) = n := by
  cases k <;> simp [IntKind.uns] at hk <;> simp only [IntKind.bits] at h <;> simp [IntKind.wrap, IntKind.signed, IntKind.bits] <;> omega
theorem wrap_mod {k : IntKind} (hk : IntKind.uns k = true) (n : Nat) : k.wrap (n : Int) = ((n % 2 ^ k.bits : Nat) : Int) := by
  cases k <;> simp [IntKind.uns] at hk <;> simp [IntKind.wrap, IntKind.signed, IntKind.bits]
theorem ofInt_nat (b n : Nat) : BitVec.ofInt b (n : Int) = BitVec.ofNat b n := BitVec.ofInt_natCast b n
theorem band_nat {k : IntKind} (hk : IntKind.uns k = true) {a b : Nat} (ha : a < 2 ^ k.bits) (hb : b < 2 ^ k.bits) : band k a b = ((a &&& b : Nat) : Int) := by
  unfold band
  rw [ofInt_nat, ofInt_nat, BitVec.toNat_and, BitVec.toNat_ofNat, BitVec.toNat_ofNat, Nat.mod_eq_of_lt ha, Nat.mod_eq_of_lt hb]
  exact wrap_nat hk (Nat.and_lt_two_pow _ hb)
theorem bor_nat {k : IntKind} (hk : IntKind.uns k = true) {a b : Nat} (ha : a < 2 ^ k.bits) (hb : b < 2 ^ k.bits) : bor k a b = ((a ||| b : Nat) : Int) := by
  unfold bor
  rw [ofInt_nat, ofInt_nat, BitVec.toNat_or, BitVec.toNat_ofNat, BitVec.toNat_ofNat, Nat.mod_eq_of_lt ha, Nat.mod_eq_of_lt hb]
  exact wrap_nat hk (Nat.or_lt_two_pow ha hb)
theorem bxor_nat {k : IntKind} (hk : IntKind.uns k = true) {a b : Nat} (ha : a < 2 ^ k.bits) (hb : b < 2 ^ k.bits) : bxor k a b = ((a ^^^ b : Nat) : Int) := by
  unfold bxor
  rw [ofInt_nat, ofInt_nat, BitVec.toNat_xor, BitVec.toNat_ofNat, BitVec.toNat_ofNat, Nat.mod_eq_of_lt ha, Nat.mod_eq_of_lt hb]
  exact wrap_nat hk (Nat.xor_lt_two_pow ha hb)
theorem shr_nat {k : IntKind} {a b : Nat} (hb : b ≤ k.bits) : shr k a b = ((a / 2 ^ b : Nat) : Int) := by
  unfold shr
  rw [Int.toNat_natCast, Nat.min_eq_left hb, Int.fdiv_eq_ediv_of_nonneg _ (by have := Nat.two_pow_pos b; exact_mod_cast Nat.zero_le _)]
  norm_cast
theorem shl_nat {k : IntKind} (hk : IntKind.uns k = true) {a b : Nat} (hb : b ≤ k.bits) : shl k a b = ((a * 2 ^ b % 2 ^ k.bits : Nat) : Int) := by
  unfold shl
  rw [Int.toNat_natCast, Nat.min_eq_left hb]
  have : ((a : Int) * 2 ^ b) = ((a * 2 ^ b : Nat) : Int) := by norm_cast
  rw [this, wrap_mod hk]
end Go.Vc
/- The numbers of the seat's functions. Conditions: none. -/
namespace Go.Proofs.F
open Go
abbrev dunnagelaw27_ManifestBack : FuncId := 16
abbrev dunnagelaw27_ManifestTells : FuncId := 17
abbrev dunnagelaw27_ManifestTurns : FuncId := 18
abbrev dunnagelaw27_ManifestStands : FuncId := 22
abbrev dunnagehelp_Own_byte : FuncId := 27
abbrev dunnagehelp_Bytes : FuncId := 33
abbrev dunnagehelp_Kept_byte : FuncId := 34
abbrev disk_New : FuncId := 37
abbrev disk_Disk_Arm : FuncId := 39
abbrev disk_Disk_Flush : FuncId := 40
abbrev disk_Disk_Write : FuncId := 41
abbrev disk_Disk_Read : FuncId := 44
abbrev disk_Disk_Start : FuncId := 45
abbrev disk_Disk_Crash : FuncId := 54
abbrev manifest_Write : FuncId := 68
abbrev dunnagelaw27_awake : FuncId := 69
abbrev manifest_May : FuncId := 70
abbrev manifest_Read : FuncId := 71
abbrev dunnageref02_Turn : FuncId := 72
abbrev manifest_Choose : FuncId := 73
abbrev dunnageref27_Write : FuncId := 74
abbrev dunnageref27_Read : FuncId := 75
abbrev dunnageref27_Choose : FuncId := 76
abbrev manifest_Next : FuncId := 77
abbrev dunnageref27_Next : FuncId := 78
abbrev dunnageref27_May : FuncId := 79
abbrev dunnagehelp_Plain_byte : FuncId := 105
abbrev disk_Disk_ready : FuncId := 107
abbrev disk_Disk_counted : FuncId := 108
abbrev disk_Disk_hit : FuncId := 109
abbrev disk_Disk_has : FuncId := 110
abbrev slices_Clone_byte_byte : FuncId := 111
abbrev word_Var : FuncId := 114
abbrev dunnageref01_Var : FuncId := 116
abbrev word_ReadVar : FuncId := 117
abbrev dunnageref01_Reader_Num : FuncId := 118
abbrev dunnageref01_Reader_Most : FuncId := 119
abbrev manifest_fields : FuncId := 135
abbrev manifest_writer_num : FuncId := 136
abbrev sector_Seal : FuncId := 137
abbrev sector_Open : FuncId := 138
abbrev bytes_Equal : FuncId := 139
abbrev dunnageref03_Seal : FuncId := 140
abbrev dunnageref03_Open : FuncId := 141
abbrev dunnagehelp_Same_byte : FuncId := 160
abbrev dunnagehelp_Plain_byte_1 : FuncId := 161
abbrev word_ReadVar_1 : FuncId := 163
abbrev word_walk_over : FuncId := 164
abbrev dunnageref01_ReadVar : FuncId := 165
abbrev sector_Known : FuncId := 170
abbrev sector_put : FuncId := 171
abbrev crc_Sum : FuncId := 172
abbrev word_Zero : FuncId := 173
abbrev word_Get : FuncId := 174
abbrev dunnageref03_Known : FuncId := 175
abbrev dunnageref03_number : FuncId := 176
abbrev dunnageref02_Sum : FuncId := 177
abbrev dunnageref01_Zero : FuncId := 178
abbrev dunnageref01_Get : FuncId := 179
abbrev word_Put : FuncId := 188
abbrev crc_More : FuncId := 189
abbrev word_Zero_1 : FuncId := 190
abbrev word_Get_1 : FuncId := 191
abbrev dunnageref02_More : FuncId := 192
abbrev crc_half : FuncId := 193
abbrev dunnageref02_step : FuncId := 194
end Go.Proofs.F
namespace Go.Proofs.T
abbrev int : TypeId := 3
abbrev bool : TypeId := 4
abbrev uint8 : TypeId := 5
abbrev string : TypeId := 9
abbrev uint64 : TypeId := 22
abbrev sl_uint8 : TypeId := 23
abbrev api_Manifest : TypeId := 92
abbrev sl_disk_content : TypeId := 148
abbrev sl_disk_write : TypeId := 149
abbrev disk_Disk : TypeId := 151
abbrev a512_uint8 : TypeId := 153
abbrev disk_content : TypeId := 154
abbrev disk_write : TypeId := 156
abbrev dunnageref01_Reader : TypeId := 166
abbrev manifest_writer : TypeId := 179
abbrev api_Sector : TypeId := 184
abbrev a8_uint64 : TypeId := 187
abbrev word_walk : TypeId := 211
abbrev a16_uint32 : TypeId := 239
end Go.Proofs.T
/- Bytes: the seat's closed facts; word.Var, word.Zero, dunnagehelp.Bytes. Conditions: those of each contract. -/
namespace Go.Proofs
open Go Go.Vc

abbrev OwnB (w : World) (B : Nat) (s : SV) (l : List UInt8) : Prop := Own w B T.uint8 1 s (B8 l)
theorem _root_.Go.Vc.Own.lenB {w : World} {B : Nat} {s : SV} {l : List UInt8} (h : OwnB w B s l) : s.len = l.length := by have := h.len; rw [B8_length, Nat.mul_one] at this; exact this.symm

theorem appB : AppT Try.prog [T.sl_uint8, T.sl_uint8] T.uint8 1 1 [.int .u8 0] :=
  ⟨⟨T.sl_uint8, rfl, by kernel_rfl⟩, ⟨T.sl_uint8, _, rfl, by kernel_rfl, .inr ⟨T.uint8, rfl⟩⟩, by kernel_rfl, by kernel_rfl, by decide, by kernel_rfl, rfl, by decide⟩

/-! ### word.Var -/
def varB (v : Nat) : List UInt8 := if _h : v < 128 then [UInt8.ofNat v] else UInt8.ofNat (v % 128 + 128) :: varB (v / 128)
termination_by v
decreasing_by omega
theorem varB_lt {v : Nat} (h : v < 128) : varB v = [UInt8.ofNat v] := by rw [varB, dif_pos h]
theorem varB_ge {v : Nat} (h : ¬ v < 128) : varB v = UInt8.ofNat (v % 128 + 128) :: varB (v / 128) := by rw [varB, dif_neg h]
theorem varB_len : ∀ (k v : Nat), v < 128 ^ k → (varB v).length ≤ max 1 k
  | 0, v, h => by simp at h; subst h; rw [varB_lt (by omega)]; simp
  | k + 1, v, h => by
    by_cases hv : v < 128
    · rw [varB_lt hv]; simp
    · rw [varB_ge hv]
      have := varB_len k (v / 128) (Nat.div_lt_of_lt_mul (by rw [Nat.pow_succ, Nat.mul_comm] at h; exact h))
      have hk : k ≠ 0 := by rintro rfl; simp at h; omega
      simp; omega
theorem varB_10 {v : Nat} (h : v < 2 ^ 64) : (varB v).length ≤ 10 := by
  have := varB_len 10 v (by omega)
  simpa using this
theorem bor128' : ∀ n : Fin 256, n.val ||| 128 = n.val % 128 + 128 := by decide +kernel
theorem bor128 : ∀ n : Nat, n < 256 → bor .u8 (n : Int) 128 = ((UInt8.ofNat (n % 128 + 128)).toNat : Int) := by
  intro n hn
  have h1 : bor .u8 (n : Int) ((128 : Nat) : Int) = ((n ||| 128 : Nat) : Int) := bor_nat rfl (by simpa [IntKind.bits] using hn) (by decide)
  have h2 : n ||| 128 = n % 128 + 128 := by
    have := bor128' ⟨n, hn⟩
    simpa using this
  have h3 : (UInt8.ofNat (n % 128 + 128)).toNat = n % 128 + 128 := by simp; omega
  rw [h3, ← h2]; exact h1
theorem u8_of (n : Nat) : IntKind.u8.wrap (n : Int) = ((UInt8.ofNat n).toNat : Int) := by
  rw [wrap_mod rfl]; simp [IntKind.bits]

theorem word_Var.spec (v : Nat) (hv : v < 2 ^ 64) (w : World) :
    CallT [.one .slice] Try.prog F.word_Var [.int .u64 v] w fun s w' => OwnB w' w.heap.size s (varB v) ∧ Ext w w' ∧ s.a ≠ none := by
  refine word_Var.vc v w _ ?_
  refine ⟨fun n x w' => ∃ (u : Nat) (d : List UInt8), x.1 = u ∧ u < 2 ^ 64 ∧ OwnB w' w.heap.size x.2 d ∧ Ext w w' ∧ d ++ varB u = varB v ∧ n = u,
    ⟨v, v, [], rfl, hv, Own.nil _ _ _ _, Upd.refl _ _, rfl, rfl⟩, ?_⟩
  rintro n ⟨x, out⟩ j w' ⟨u, d, hx, hle, ho, he, hd, rfl⟩
  dsimp only at hx ho ⊢
  subst hx
  have hlen : d.length ≤ 10 := by
    have := varB_10 hv
    rw [← hd] at this
    simp at this; omega
  have hol := ho.lenB
  refine cnd_dec (fun hge => ?_) (fun hlt => ?_)
  · have hge' : ¬ n < 128 := by omega
    have hb := bor128 (n % 256) (by omega)
    have hw : IntKind.u8.wrap (n : Int) = ((n % 256 : Nat) : Int) := by rw [u8_mod]; omega
    rw [hw, hb]
    refine app_new (vs := B8 [UInt8.ofNat (n % 256 % 128 + 128)]) appB he ho rfl (B8_one _) (by omega) ?_
    intro s' w2 ho2 he2 hl2 _
    have hshr : shr .u64 (n : Int) 7 = ((n / 128 : Nat) : Int) := shr_nat (k := .u64) (b := 7) (by decide)
    refine ⟨n / 128, by omega, n / 128, d ++ [UInt8.ofNat (n % 256 % 128 + 128)], hshr, by omega, ?_, he2, ?_, rfl⟩
    · rw [OwnB, B8_append]; exact ho2
    · rw [← hd, varB_ge hge', List.append_assoc]
      congr 2
      rw [show n % 256 % 128 = n % 128 by omega]
      rfl
  · have hlt' : n < 128 := by omega
    have hw : IntKind.u8.wrap (n : Int) = ((UInt8.ofNat n).toNat : Int) := u8_of n
    rw [hw]
    refine app_new (vs := B8 [UInt8.ofNat n]) appB he ho rfl (B8_one _) (by omega) ?_
    intro s' w2 ho2 he2 hl2 ha
    refine ⟨?_, he2, ha (by omega)⟩
    rw [← hd, varB_lt hlt', OwnB, B8_append]
    exact ho2

/-! ### dunnagehelp.Bytes -/
theorem dunnagehelp_Bytes.spec {a b : SV} {x y : List UInt8} {w : World} (ha : RdB w a x) (hb : RdB w b y) :
    CallT [.one .bool] Try.prog F.dunnagehelp_Bytes [.slice a.a a.len a.cap, .slice b.a b.len b.cap] w fun r w' => r = (x == y) ∧ w = w' := by
  refine dunnagehelp_Bytes.vc a b w _ ?_
  have key : ∀ {a : SV} {x : List UInt8}, RdB w a x → x.length = a.len ∧ (∀ A, a.a = some A → ∀ i, i < a.len → w.cell? (A.add i) = some (.int .u8 ((x.getD i 0).toNat : Int))) ∧ (a.a = none → x = []) := by
    intro a x ha
    refine ⟨ha.lenB.symm, fun A hA i hi => ?_, fun hn => ?_⟩
    · have hi' : i < x.length := by rw [← ha.lenB]; exact hi
      have := ha.at_ A hA i (.int .u8 (x[i].toNat)) (by simp [B8, hi'])
      rw [this]; simp [List.getD, hi']
    · have := ha.nil hn; rw [ha.lenB] at this; exact List.eq_nil_of_length_eq_zero this
  obtain ⟨a1, a2, a3⟩ := key ha
  obtain ⟨b1, b2, b3⟩ := key hb
  exact ⟨x, a1, a2, a3, y, b1, b2, b3, by simp, rfl⟩
end Go.Proofs
/- A block of one's own with spare room; an append that has room; parts exchanged. Conditions: those that each lemma names. -/
namespace Go.Vc
open Go
/-- A block of one's own, from B on: the slice's elements, and what stands in its spare room. -/
structure Spare (w : World) (B : Nat) (T : TypeId) (sz : Nat) (s : SV) (b : Nat) (cs rest : List Value) : Prop where
  a : s.a = some ⟨b, 0, none⟩
  ge : B ≤ b
  blk : w.heap[b]? = some (.cells (cs ++ rest).toArray T (0, 0))
  len : cs.length = s.len * sz
  cap : (cs ++ rest).length = s.cap * sz
theorem Spare.own {w : World} {B : Nat} {T : TypeId} {sz : Nat} {s : SV} {b : Nat} {cs rest : List Value} (h : Spare w B T sz s b cs rest) (hle : s.len ≤ s.cap) : Own w B T sz s cs :=
  ⟨h.len, .inr ⟨b, rest, h.a, h.ge, h.blk, h.cap, hle⟩⟩
theorem Spare.rd {w : World} {B : Nat} {T : TypeId} {sz : Nat} {s : SV} {b : Nat} {cs rest : List Value} (h : Spare w B T sz s b cs rest) : Rd w sz s cs :=
  ⟨h.len, fun hn => by rw [h.a] at hn; simp at hn, fun A hA => by
    rw [h.a] at hA
    obtain rfl := Option.some.inj hA
    refine cellsAt_blk h.blk fun j v hv => ?_
    have : j < cs.length := (List.getElem?_eq_some_iff.1 hv).1
    simp [List.getElem?_append_left this, hv]⟩
theorem Spare.upd {M : Nat → Prop} {w w' : World} {B : Nat} {T : TypeId} {sz : Nat} {s : SV} {b : Nat} {cs rest : List Value} (h : Spare w B T sz s b cs rest) (hu : Upd M w w') (hm : ¬ M b) : Spare w' B T sz s b cs rest :=
  ⟨h.a, h.ge, hu.get h.blk hm, h.len, h.cap⟩
theorem Spare.ext {w w' : World} {B : Nat} {T : TypeId} {sz : Nat} {s : SV} {b : Nat} {cs rest : List Value} (h : Spare w B T sz s b cs rest) (hu : Ext w w') : Spare w' B T sz s b cs rest := h.upd hu id
theorem Spare.lt {w : World} {B : Nat} {T : TypeId} {sz : Nat} {s : SV} {b : Nat} {cs rest : List Value} (h : Spare w B T sz s b cs rest) : b < w.heap.size := lt_of_blk h.blk
theorem Spare.mono {w : World} {B B' : Nat} {T : TypeId} {sz : Nat} {s : SV} {b : Nat} {cs rest : List Value} (h : Spare w B T sz s b cs rest) (hB : B' ≤ B) : Spare w B' T sz s b cs rest :=
  ⟨h.a, Nat.le_trans hB h.ge, h.blk, h.len, h.cap⟩

/-- An append that has room. -/
theorem appV_fit {P : Program} {ts : List TypeId} {ty e : TypeId} {sz bt : Nat} {z : List Value} {w : World} {B b : Nat} {s : SV} {x : Value} {m : Nat} {cs rest news : List Value} {K : SV → World → Prop}
    (hT : AppT P ts e sz bt z) (hs : Spare w B e sz s b cs rest) (hx : Src P w sz x m news) (hfit : s.len + m ≤ s.cap)
    (hk : ∀ w', Spare w' B e sz ⟨s.a, s.len + m, s.cap⟩ b (cs ++ news) (rest.drop news.length) → Upd (fun x => x = b) w w' → K ⟨s.a, s.len + m, s.cap⟩ w') :
    appV P ts ty [.slice s.a s.len s.cap, x] w K := by
  obtain ⟨t0, ht0, hu0⟩ := hT.t0
  obtain ⟨t1, d1, ht1, hu1, hd1⟩ := hT.t1
  obtain ⟨ha, hb, hblk, hlen, hcap⟩ := hs
  have hst := storeCells_own (P := P) (o := s.len * sz) (vs := news) hblk (by rw [hcap, hx.size, ← Nat.add_mul]; exact Nat.mul_le_mul_right _ hfit) hx.one
  have hblk' := setCells_blk (o := s.len * sz) news w 0 _ hblk (by rw [Nat.add_zero, hcap, hx.size, ← Nat.add_mul]; exact Nat.mul_le_mul_right _ hfit)
  have hspl : spl (cs ++ rest) (s.len * sz + 0) news = (cs ++ news) ++ rest.drop news.length := by
    rw [Nat.add_zero, ← hlen]
    simp only [spl, List.take_left', List.append_assoc]
    rw [List.drop_append, List.drop_eq_nil_of_le (by omega)]
    simp
  rw [hspl] at hblk'
  unfold appV runV
  refine ⟨⟨s.a, s.len + m, s.cap⟩, setCells w ⟨b, s.len * sz, none⟩ 0 news, ?_, hk _ ⟨ha, hb, hblk', by simp [hlen, hx.size, Nat.add_mul], ?_⟩ ((Upd.refl (fun x => x = b) w).setCells (p := ⟨b, s.len * sz, none⟩) (fun _ => rfl) 0 news)⟩
  · simp only [Builtin.append_]
    rw [ht0]
    rcases hd1 with rfl | ⟨e1, rfl⟩ <;> simp [run_underlying hu0, run_szOf hT.size, ht1, run_underlying hu1, hx.len, hfit, hx.cells, ha, hst]
  · have h1 : news.length ≤ rest.length := by
      have : (cs ++ rest).length = cs.length + rest.length := by simp
      have h2 : (s.len + m) * sz ≤ s.cap * sz := Nat.mul_le_mul_right _ hfit
      rw [Nat.add_mul, ← hx.size, ← hlen] at h2
      omega
    rw [← hcap]; simp; omega

theorem subA_zero (a : Option Addr) (sz m : Nat) : subA a 0 sz m = a := by
  unfold subA
  split
  · rfl
  · cases a <;> simp [add_zero']
theorem set_rep (a : List Value) (x y : Value) (n k : Nat) (h : k < n) :
    (a ++ (List.replicate k x ++ List.replicate (n - k) y)).set (a.length + k) x = a ++ (List.replicate (k + 1) x ++ List.replicate (n - (k + 1)) y) := by
  rw [List.set_append_right _ _ (by omega), show a.length + k - a.length = k by omega, List.set_append_right _ _ (by simp)]
  simp only [List.length_replicate, Nat.sub_self]
  obtain ⟨d, hd⟩ : ∃ d, n - k = d + 1 := ⟨n - k - 1, by omega⟩
  rw [hd, show n - (k + 1) = d by omega, List.replicate_succ (n := d), List.set_cons_zero, List.replicate_succ' (n := k)]
  simp
theorem reps_eq {v : Value} : ∀ n, reps n [v] = List.replicate n v
  | 0 => rfl
  | n + 1 => by rw [reps, reps_eq n]; rfl
end Go.Vc
/- dunnagehelp over bytes: Own, Plain, Kept, Spoil; slices.Clone. Conditions: those of each contract. -/
namespace Go.Proofs
open Go Go.Vc

theorem u8_z : zeroL Try.prog T.uint8 = some [.int .u8 0] := by kernel_rfl
theorem sl_u8 : Try.prog.underlying T.sl_uint8 = some (.slice T.uint8) := by kernel_rfl

/-! ### Own -/
theorem dunnagehelp_Own_byte.spec {w : World} {s : SV} {l : List UInt8} (hs : RdB w s l) (hl : l.length ≤ 140737488351232) (c : Int) :
    CallT [.one .slice] Try.prog F.dunnagehelp_Own_byte [.slice s.a s.len s.cap, .int .u8 c] w fun o w' =>
      o.len = l.length ∧ o.cap = l.length + 3 ∧ Ext w w' ∧ ∃ b, Spare w' w.heap.size T.uint8 1 o b (B8 l) [.int .u8 c, .int .u8 c, .int .u8 c] := by
  have hlen := hs.lenB
  have h3 : IntKind.i64.wrap ((s.len : Int) + 3) = ((l.length + 3 : Nat) : Int) := by rw [i64_id] <;> omega
  refine dunnagehelp_Own_byte.vc s c w _ ?_
  rw [h3]
  refine mkSV_own (bt := 1) (sz := 1) sl_u8 (by kernel_rfl) (by kernel_rfl) u8_z rfl (by omega) (by omega) (by omega) (by omega) ?_
  rw [show (Int.toNat 0) = 0 from rfl, Int.toNat_natCast, reps_eq]
  have h0 : Spare (w.alloc (.cells (List.replicate (l.length + 3) (Value.int .u8 0)).toArray T.uint8)) w.heap.size T.uint8 1 ⟨some ⟨w.heap.size, 0, none⟩, 0, l.length + 3⟩ w.heap.size [] (List.replicate (l.length + 3) (.int .u8 0)) :=
    ⟨rfl, Nat.le_refl _, blk_new _ _, rfl, by simp⟩
  refine appV_fit appB h0 ((hs.ext (ext_alloc _ _)).src (B8_one _)) (by simp only; omega) ?_
  intro w1 h1 hu
  have he1 : Ext w w1 := (ext_alloc w _).trans hu fun x hx e => by omega
  simp only [List.nil_append, Nat.zero_add, List.drop_replicate, B8_length, show l.length + 3 - l.length = 3 by omega] at h1 ⊢
  rw [hlen] at h1 ⊢
  have hw : IntKind.i64.wrap ((l.length : Int) + 3) = ((l.length + 3 : Nat) : Int) := by rw [i64_id] <;> omega
  simp only [Nat.sub_zero]
  refine ⟨by omega, by omega, fun n x w' => ∃ k : Nat, k ≤ 3 ∧ x = ((l.length + k : Nat) : Int) ∧ n = 3 - k ∧ Ext w w' ∧
      w'.heap[w.heap.size]? = some (.cells (B8 l ++ (List.replicate k (Value.int .u8 c) ++ List.replicate (3 - k) (Value.int .u8 0))).toArray T.uint8 (0, 0)), ⟨_, 0, by omega, rfl, rfl, he1, h1.blk⟩, ?_⟩
  rintro n x j w' ⟨k, hk, rfl, rfl, he, hb⟩
  refine cnd_dec (fun hlt => ?_) (fun hge => ?_)
  · have hk3 : k < 3 := by omega
    simp only [subA_zero, onP_some, Int.toNat_natCast, Nat.mul_one, add_mk, Nat.zero_add]
    refine ⟨by omega, by omega, ?_⟩
    rw [cell_blk hb, frozen_blk hb]
    refine ⟨?_, rfl, 3 - (k + 1), by omega, k + 1, by omega, by rw [i64_id] <;> omega, rfl, ?_, ?_⟩
    · simp [B8_length]; omega
    · exact he.set (p := ⟨w.heap.size, l.length + k, none⟩) (fun h => by simp at h) _
    · rw [blk_set hb]
      have := set_rep (B8 l) (Value.int .u8 c) (Value.int .u8 0) 3 k hk3
      rw [B8_length] at this
      simp [this]
  · have hk3 : k = 3 := by omega
    subst hk3
    exact ⟨trivial, trivial, he, _, ⟨rfl, Nat.le_refl _, hb, by simp [B8_length], by simp [B8_length]⟩⟩

/-! ### Plain, Kept -/
theorem dunnagehelp_Plain_byte.spec {a b : SV} {x y : List UInt8} {w : World} (ha : RdB w a x) (hb : RdB w b y) (hx : x.length < 2 ^ 62) :
    CallT [.one .bool] Try.prog F.dunnagehelp_Plain_byte [.slice a.a a.len a.cap, .slice b.a b.len b.cap] w fun r w' => r = (x == y) ∧ Ext w w' := by
  refine dunnagehelp_Plain_byte.vc a b w _ (dunnagehelp_Same_byte.vc a b _ w _ ?_)
  have hal := ha.lenB
  have hbl := hb.lenB
  refine cnd_bne (fun hne => ?_) (fun he => ?_)
  · have : x ≠ y := fun e => hne (by rw [hal, hbl, e])
    exact ⟨by simp [this], Upd.refl _ _⟩
  have hxy : x.length = y.length := by omega
  refine ⟨fun n i w' => ∃ k : Nat, i = k ∧ k ≤ x.length ∧ n = x.length - k ∧ Ext w w' ∧ x.take k = y.take k, ⟨_, 0, rfl, by omega, rfl, Upd.refl _ _, rfl⟩, ?_⟩
  rintro n i j w' ⟨k, rfl, hk, rfl, hu, hq⟩
  refine cnd_dec (fun hlt => ?_) (fun hge => ?_)
  · have hkx : k < x.length := by omega
    have hky : k < y.length := by omega
    have hw : Ext w w'.drew := hu.drew
    refine ⟨by omega, by omega, SV.getB ha hkx fun A hA => ⟨(x[k]).toNat, (ha.ext hw).cellB (List.getElem?_eq_getElem hkx) hA, by omega, by omega,
      SV.getB hb hky fun B hB => ⟨(y[k]).toNat, (hb.ext hw).cellB (List.getElem?_eq_getElem hky) hB, dunnagehelp_Plain_byte_1.vc _ _ _ _ ?_⟩⟩⟩
    refine cnd_not (fun hf => ?_) (fun ht => ?_)
    · refine ⟨?_, hw⟩
      have : x ≠ y := by
        rintro rfl
        simp at hf
      simp [this]
    · have hb : x[k] = y[k] := by rw [← UInt8.toNat_inj]; have := (beq_iff_eq.1 ht); omega
      refine ⟨_, ?_, k + 1, by rw [i64_id] <;> omega, by omega, rfl, hw, ?_⟩
      · omega
      · rw [List.take_add_one, List.take_add_one, hq, List.getElem?_eq_getElem hkx, List.getElem?_eq_getElem hky, hb]
  · have hk2 : k = x.length := by omega
    subst hk2
    rw [List.take_length, List.take_of_length_le (by omega)] at hq
    exact ⟨by simp [hq], hu⟩
theorem dunnagehelp_Kept_byte.spec {o b : SV} {x y : List UInt8} {w : World} {B g : Nat} {c : Nat} (ho : Spare w B T.uint8 1 o g (B8 x) [.int .u8 c, .int .u8 c, .int .u8 c]) (hb : RdB w b y) (hx : x.length < 2 ^ 62) :
    CallT [.one .bool] Try.prog F.dunnagehelp_Kept_byte [.slice o.a o.len o.cap, .slice b.a b.len b.cap, .int .u8 c] w fun r w' => r = (x == y) ∧ Ext w w' := by
  refine dunnagehelp_Kept_byte.vc o b c w _ ?_
  have hol : o.len = x.length := by have := ho.len; rw [B8_length, Nat.mul_one] at this; exact this.symm
  have hoc : o.cap = x.length + 3 := by have := ho.cap; simp [B8_length] at this; omega
  have hbl := hb.lenB
  refine ⟨fun _ w' => x = y ∧ Ext w w', ?_, ?_⟩
  · refine CallT.mono (dunnagehelp_Plain_byte.spec ho.rd hb hx) ?_
    rintro _ w1 ⟨rfl, he⟩
    refine cnd_not (fun hf => ⟨hf.symm, he⟩) (fun ht => ?_)
    have hxy : x = y := by simpa using ht
    subst hxy
    refine cnd_dec (fun hlt => ?_) (fun _ => ⟨rfl, he⟩)
    rw [i64_id] at hlt <;> omega
  · rintro _ j w1 ⟨rfl, he⟩
    have h3 : IntKind.i64.wrap ((b.len : Int) + 3) = ((x.length + 3 : Nat) : Int) := by rw [i64_id] <;> omega
    rw [h3]
    refine ⟨by omega, by omega, fun n i w' => ∃ k : Nat, i = ((x.length + k : Nat) : Int) ∧ n = 3 - k ∧ w' = w1, ⟨_, 0, by rw [hbl]; rfl, rfl, rfl⟩, ?_⟩
    rintro n i j w' ⟨k, rfl, rfl, rfl⟩
    simp only [Int.toNat_natCast, Nat.sub_zero, subA_zero]
    refine cnd_dec (fun hlt => ?_) (fun hge => ⟨by simp, he⟩)
    have hk3 : k < 3 := by omega
    have hbk := (ho.ext he).blk
    rw [ho.a]
    refine ⟨by omega, by omega, c, ?_, ?_⟩
    · rw [add_mk, cell_blk hbk]
      have hl := B8_length x
      simp only [Nat.zero_add, Nat.mul_one, List.getElem?_toArray]
      rw [← hl, List.getElem?_append_right (by omega), show (B8 x).length + k - (B8 x).length = k by omega]
      match k, hk3 with
      | 0, _ => rfl
      | 1, _ => rfl
      | 2, _ => rfl
    · refine cnd_bne (fun h => absurd rfl h) (fun _ => ⟨_, ?_, k + 1, by rw [i64_id] <;> omega, rfl, trivial⟩)
      omega

/-! ### Spoil, Clone -/
theorem slices_Clone_byte_byte.spec {s : SV} {x : List UInt8} {w : World} (hs : RdB w s x) (hx : x.length ≤ 140737488351232) :
    CallT [.one .slice] Try.prog F.slices_Clone_byte_byte [.slice s.a s.len s.cap] w fun o w' => OwnB w' w.heap.size o x ∧ Ext w w' ∧ (s.a ≠ none → o.a ≠ none) := by
  refine slices_Clone_byte_byte.vc s w _ ?_
  have hsl := hs.lenB
  cases ha : s.a with
  | none =>
    have hx0 : x = [] := by have := hs.nil ha; rw [hsl] at this; exact List.eq_nil_of_length_eq_zero this
    subst hx0
    exact ⟨Own.nil _ _ _ _, Upd.refl _ _, fun h => absurd rfl h⟩
  | some A =>
    have h0 : OwnB (w.alloc (.cells #[] T.uint8)) w.heap.size ⟨some ⟨w.heap.size, 0, none⟩, 0, 0⟩ [] := Own.new w T.uint8 1 0 [] rfl
    have := app_rd (ty := T.sl_uint8) (K := fun s' w' => OwnB w' w.heap.size s' x ∧ Ext w w' ∧ (some A ≠ none → s'.a ≠ none)) (t := s) appB (ext_alloc w _) h0 (hs.ext (ext_alloc _ _)) (B8_one x) (fun hlt => ?_) ?_
    · rw [ha] at this; exact this
    · simp only [Nat.zero_add] at hlt ⊢
      rw [nextcap_zero hlt]; omega
    · intro s' w' ho hu _ hn
      exact ⟨ho, hu, fun _ => hn (.inl (by simp))⟩
end Go.Proofs
/- The remainders of chapter 02 over the natural numbers: half a step, its powers, products; what turned bits do. Conditions: that the numbers are below 2^32. -/
namespace Go.Crc
def P : Nat := 2197175160
def M : Nat := 4294967295
def one : Nat := 2147483648
def half (c : Nat) : Nat := c / 2 ^^^ (if c % 2 = 1 then P else 0)
def hn : Nat → Nat → Nat | 0, c => c | n + 1, c => hn n (half c)
def xs : Nat → (Nat → Nat) → Nat | 0, _ => 0 | n + 1, f => xs n f ^^^ f n
structure Lin (f : Nat → Nat) : Prop where
  z : f 0 = 0
  x : ∀ a b, f (a ^^^ b) = f a ^^^ f b
theorem xor4 (a b c d : Nat) : (a ^^^ b) ^^^ (c ^^^ d) = (a ^^^ c) ^^^ (b ^^^ d) := by
  rw [Nat.xor_assoc, Nat.xor_assoc, ← Nat.xor_assoc b c d, Nat.xor_comm b c, Nat.xor_assoc c b d]
theorem xor_div2 (a b : Nat) : (a ^^^ b) / 2 = a / 2 ^^^ b / 2 := by
  have := @Nat.xor_div_two_pow a b 1
  simpa using this
theorem xor_mod2 (a b : Nat) : (a ^^^ b) % 2 = (a % 2 + b % 2) % 2 := by
  have := @Nat.xor_mod_two_pow a b 1
  simp at this
  rw [this]
  rcases Nat.mod_two_eq_zero_or_one a with h | h <;> rcases Nat.mod_two_eq_zero_or_one b with h' | h' <;> rw [h, h'] <;> rfl
theorem half_lin : Lin half := by
  refine ⟨rfl, fun a b => ?_⟩
  unfold half
  rw [xor_div2, xor_mod2]
  rcases Nat.mod_two_eq_zero_or_one a with h | h <;> rcases Nat.mod_two_eq_zero_or_one b with h' | h' <;> rw [h, h'] <;> simp
  · exact Nat.xor_assoc _ _ _
  · rw [Nat.xor_assoc, Nat.xor_assoc, Nat.xor_comm P]
  · rw [xor4, Nat.xor_self, Nat.xor_zero]
theorem Lin.id : Lin (fun c => c) := ⟨rfl, fun _ _ => rfl⟩
theorem Lin.comp {f g : Nat → Nat} (hf : Lin f) (hg : Lin g) : Lin (fun c => f (g c)) := ⟨by rw [hg.z, hf.z], fun a b => by rw [hg.x, hf.x]⟩
theorem Lin.add {f g : Nat → Nat} (hf : Lin f) (hg : Lin g) : Lin (fun c => f c ^^^ g c) := ⟨by simp [hf.z, hg.z], fun a b => by simp only [hf.x, hg.x]; rw [xor4]⟩
theorem hn_lin : ∀ n, Lin (hn n)
  | 0 => Lin.id
  | n + 1 => (hn_lin n).comp half_lin
theorem hn_half : ∀ n c, hn n (half c) = half (hn n c)
  | 0, _ => rfl
  | n + 1, c => hn_half n (half c)
theorem hn_add : ∀ m n c, hn (m + n) c = hn m (hn n c)
  | 0, n, c => by rw [Nat.zero_add]; rfl
  | m + 1, n, c => by rw [show m + 1 + n = (m + n) + 1 by omega, hn, hn_add m n, hn, hn_half n]
theorem half_lt {c : Nat} (h : c < 2 ^ 32) : half c < 2 ^ 32 := by
  unfold half
  refine Nat.xor_lt_two_pow (by omega) ?_
  split <;> decide
theorem hn_lt : ∀ (n : Nat) {c : Nat}, c < 2 ^ 32 → hn n c < 2 ^ 32
  | 0, _, h => h
  | n + 1, _, h => hn_lt n (half_lt h)
theorem lin_ext' {f g : Nat → Nat} (hf : Lin f) (hg : Lin g) : ∀ k, (∀ j, j < k → f (2 ^ j) = g (2 ^ j)) → ∀ c, c < 2 ^ k → f c = g c
  | 0, _, c, hc => by
    have : c = 0 := by simpa using hc
    subst this; rw [hf.z, hg.z]
  | k + 1, h, c, hc => by
    have hpos : 0 < 2 ^ k := Nat.pow_pos (by decide)
    have hlt := Nat.mod_lt c hpos
    by_cases hb : c < 2 ^ k
    · exact lin_ext' hf hg k (fun j hj => h j (by omega)) c hb
    · have hd : c = 2 ^ k * 1 + c % 2 ^ k := by
        rw [Nat.pow_succ] at hc
        have h1 : c / 2 ^ k = 1 := by
          apply Nat.div_eq_of_lt_le <;> omega
        have := Nat.div_add_mod c (2 ^ k)
        rw [h1] at this; exact this.symm
      have hx : c = 2 ^ k ^^^ c % 2 ^ k := by
        apply Nat.eq_of_testBit_eq
        intro i
        rw [Nat.testBit_xor]
        conv => lhs; rw [hd, Nat.two_pow_add_eq_or_of_lt hlt, Nat.mul_one]
        rw [Nat.testBit_or, Nat.testBit_two_pow]
        by_cases hi : k = i
        · subst hi
          have : (c % 2 ^ k).testBit k = false := Nat.testBit_lt_two_pow hlt
          simp [this]
        · simp [hi]
      rw [hx, hf.x, hg.x, h k (by omega), lin_ext' hf hg k (fun j hj => h j (by omega)) _ hlt]
theorem lin_ext {f g : Nat → Nat} (hf : Lin f) (hg : Lin g) (h : ∀ j, j < 32 → f (2 ^ j) = g (2 ^ j)) {c : Nat} (hc : c < 2 ^ 32) : f c = g c := lin_ext' hf hg 32 h c hc
theorem div_lin (k : Nat) : Lin (fun c => c / 2 ^ k) := ⟨Nat.zero_div _, fun _ _ => Nat.xor_div_two_pow⟩
theorem mod_lin (k : Nat) : Lin (fun c => c % 2 ^ k) := ⟨Nat.zero_mod _, fun _ _ => Nat.xor_mod_two_pow⟩
/-- Four steps at once. -/
theorem hn4 {c : Nat} (h : c < 2 ^ 32) : hn 4 c = c / 16 ^^^ hn 4 (c % 16) := by
  refine lin_ext (f := hn 4) (g := fun c => c / 2 ^ 4 ^^^ hn 4 (c % 2 ^ 4)) (hn_lin 4) ((div_lin 4).add ((hn_lin 4).comp (mod_lin 4))) ?_ h
  decide +kernel

/-! ### sums -/
theorem xs_congr {n : Nat} {f g : Nat → Nat} (h : ∀ i, i < n → f i = g i) : xs n f = xs n g := by
  induction n with
  | zero => rfl
  | succ n ih => rw [xs, xs, ih (fun i hi => h i (by omega)), h n (by omega)]
theorem xs_zero {n : Nat} {f : Nat → Nat} (h : ∀ i, i < n → f i = 0) : xs n f = 0 := by
  induction n with
  | zero => rfl
  | succ n ih => rw [xs, ih (fun i hi => h i (by omega)), h n (by omega)]; rfl
theorem xs_xor (n : Nat) (f g : Nat → Nat) : xs n (fun i => f i ^^^ g i) = xs n f ^^^ xs n g := by
  induction n with
  | zero => simp [xs]
  | succ n ih => rw [xs, xs, xs, ih, xor4]
theorem Lin.xs {f : Nat → Nat} (hf : Lin f) (n : Nat) (g : Nat → Nat) : f (xs n g) = Go.Crc.xs n (fun i => f (g i)) := by
  induction n with
  | zero => exact hf.z
  | succ n ih => rw [Go.Crc.xs, Go.Crc.xs, hf.x, ih]
/-! ### products -/
theorem Lin.sum {g : Nat → Nat → Nat} (h : ∀ i, Lin (g i)) (n : Nat) : Lin (fun c => Go.Crc.xs n fun i => g i c) := by
  refine ⟨xs_zero fun i _ => (h i).z, fun a b => ?_⟩
  rw [← xs_xor]
  exact xs_congr fun i _ => (h i).x a b
def X (k : Nat) : Nat := hn k one
theorem pow_X : ∀ j, j < 32 → 2 ^ j = X (31 - j) := by decide +kernel
/-! ### the sum of bytes -/
def raw (s : Nat) : List UInt8 → Nat | [] => s | c :: r => raw (hn 8 (s ^^^ c.toNat)) r
def more (sum : Nat) (l : List UInt8) : Nat := raw (sum ^^^ M) l ^^^ M
theorem raw_lt : ∀ (l : List UInt8) {s : Nat}, s < 2 ^ 32 → raw s l < 2 ^ 32
  | [], _, h => h
  | _ :: r, _, h => raw_lt r (hn_lt 8 (Nat.xor_lt_two_pow h (Nat.lt_of_lt_of_le (UInt8.toNat_lt _) (by decide))))
theorem more_lt {s : Nat} (h : s < 2 ^ 32) (l : List UInt8) : more s l < 2 ^ 32 := Nat.xor_lt_two_pow (raw_lt l (Nat.xor_lt_two_pow h (by decide))) (by decide)
theorem raw_append : ∀ (a b : List UInt8) (s : Nat), raw s (a ++ b) = raw (raw s a) b
  | [], _, _ => rfl
  | c :: r, b, s => raw_append r b _
theorem raw_snoc (a : List UInt8) (c : UInt8) (s : Nat) : raw s (a ++ [c]) = hn 8 (raw s a ^^^ c.toNat) := by rw [raw_append]; rfl
/-- What comes ahead, and the bytes themselves. -/
theorem raw_split : ∀ (l : List UInt8) (s : Nat), raw s l = hn (8 * l.length) s ^^^ raw 0 l
  | [], s => by simp [raw, hn]
  | c :: r, s => by
    rw [raw, raw_split r, raw, raw_split r (hn 8 (0 ^^^ c.toNat)), Nat.zero_xor, (hn_lin 8).x, (hn_lin _).x, List.length_cons, show 8 * (r.length + 1) = 8 * r.length + 8 by omega, hn_add, Nat.xor_assoc]
end Go.Crc
/- crc and the document's sums: their contracts. Conditions: those of each contract. -/
namespace Go.Proofs
open Go Go.Vc Go.Crc
theorem u32lt {n : Nat} (h : n < 2 ^ 32) : n < 2 ^ IntKind.u32.bits := h
theorem half_val {c : Nat} (hc : c < 2 ^ 32) : (c % 2 = 1 → bxor .u32 (shr .u32 (c : Int) 1) 2197175160 = ((half c : Nat) : Int)) ∧ (c % 2 ≠ 1 → shr .u32 (c : Int) 1 = ((half c : Nat) : Int)) ∧ band .u32 (c : Int) 1 = ((c % 2 : Nat) : Int) := by
  have h1 : shr .u32 (c : Int) 1 = ((c / 2 : Nat) : Int) := by
    have := shr_nat (k := .u32) (a := c) (b := 1) (by decide)
    simpa using this
  have h2 : band .u32 (c : Int) ((1 : Nat) : Int) = ((c &&& 1 : Nat) : Int) := band_nat rfl (u32lt hc) (by decide)
  have h3 : c &&& 1 = c % 2 := Nat.and_one_is_mod c
  have h4 : bxor .u32 ((c / 2 : Nat) : Int) ((P : Nat) : Int) = ((c / 2 ^^^ P : Nat) : Int) := bxor_nat rfl (u32lt (by omega)) (by decide)
  refine ⟨fun h => ?_, fun h => ?_, ?_⟩
  · rw [h1, half, if_pos h]; exact h4
  · rw [h1, half, if_neg h, Nat.xor_zero]
  · rw [← h3]; exact h2
theorem crc_half.spec {c : Nat} (hc : c < 2 ^ 32) (w : World) : CallT [.one (.int .u32)] Try.prog F.crc_half [.int .u32 c] w fun r w' => r = half c ∧ w = w' := by
  refine crc_half.vc c w _ ?_
  obtain ⟨h1, h2, h3⟩ := half_val hc
  rw [h3]
  refine cnd_bne (fun h => ⟨h1 (by omega), rfl⟩) (fun h => ⟨h2 (by omega), rfl⟩)
theorem dunnageref02_step.spec {c : Nat} (hc : c < 2 ^ 32) (w : World) : CallT [.one (.int .u32)] Try.prog F.dunnageref02_step [.int .u32 c] w fun r w' => r = half c ∧ w = w' := by
  refine dunnageref02_step.vc c w _ ?_
  obtain ⟨h1, h2, h3⟩ := half_val hc
  rw [h3]
  refine cnd_beq (fun h => ⟨h1 (by omega), rfl⟩) (fun h => ⟨h2 (by omega), rfl⟩)
theorem bx {a b : Nat} (ha : a < 2 ^ 32) (hb : b < 2 ^ 32) : bxor .u32 (a : Int) (b : Int) = ((a ^^^ b : Nat) : Int) := bxor_nat rfl (u32lt ha) (u32lt hb)
theorem dunnageref02_More.spec {w : World} {s : SV} {l : List UInt8} (hs : RdB w s l) (hl : l.length < 2 ^ 62) {n : Nat} (hn0 : n < 2 ^ 32) :
    CallT [.one (.int .u32)] Try.prog F.dunnageref02_More [.int .u32 n, .slice s.a s.len s.cap] w fun r w' => r = more n l ∧ w = w' := by
  refine dunnageref02_More.vc n s w _ ?_
  have hsl := hs.lenB
  have hM : n ^^^ M < 2 ^ 32 := Nat.xor_lt_two_pow hn0 (by decide)
  refine ⟨fun m x w' => ∃ i : Nat, x = (((raw (n ^^^ M) (l.take i) : Nat) : Int), (i : Int)) ∧ i ≤ l.length ∧ m = l.length - i ∧ w = w', ⟨_, 0, by rw [List.take_zero]; exact congrArg (·, (0 : Int)) (bx hn0 (by decide)), by omega, rfl, rfl⟩, ?_⟩
  rintro m _ j _ ⟨i, rfl, hi, rfl, rfl⟩
  dsimp only
  have hr := raw_lt (l.take i) hM
  refine cnd_dec (fun hlt => ?_) (fun hge => ?_)
  · have hil : i < l.length := by omega
    have hb := (l[i]).toNat_lt
    refine ⟨by omega, by omega, SV.getB hs hil fun A hA => ⟨(l[i]).toNat, hs.cellB (List.getElem?_eq_getElem hil) hA, ?_⟩⟩
    rw [u32_id (x := (l[i]).toNat) (by omega) (by omega), bx hr (by omega)]
    have hx : raw (n ^^^ M) (l.take i) ^^^ (l[i]).toNat < 2 ^ 32 := Nat.xor_lt_two_pow hr (by omega)
    refine ⟨fun q x w' => ∃ k : Nat, x = (((Crc.hn k (raw (n ^^^ M) (l.take i) ^^^ (l[i]).toNat) : Nat) : Int), (k : Int)) ∧ k ≤ 8 ∧ q = 8 - k ∧ w = w', ⟨_, 0, rfl, by omega, rfl, rfl⟩, ?_⟩
    rintro q _ j' _ ⟨k, rfl, hk, rfl, rfl⟩
    dsimp only
    refine cnd_dec (fun hlt' => ?_) (fun hge' => ?_)
    · refine CallT.mono (dunnageref02_step.spec (Crc.hn_lt k hx) _) ?_
      rintro _ _ ⟨rfl, rfl⟩
      exact ⟨8 - (k + 1), by omega, k + 1, by rw [i64_id (by omega) (by omega), ← Crc.hn_half, Crc.hn]; rfl, by omega, rfl, rfl⟩
    · have : k = 8 := by omega
      subst this
      exact ⟨_, by omega, i + 1, by rw [i64_id (by omega) (by omega), List.take_add_one, List.getElem?_eq_getElem hil, Option.toList_some, raw_snoc]; rfl, by omega, rfl, rfl⟩
  · have : i = l.length := by omega
    subst this
    rw [List.take_length] at hr ⊢
    exact ⟨bx hr (by decide), rfl⟩

def qrow (i : Nat) : List Value := (List.range 16).map fun k => .int .u32 ((if k < i then Crc.hn 4 k else 0 : Nat) : Int)
theorem qrow_set (i : Nat) (h : i < 16) : (qrow i).set i (.int .u32 ((Crc.hn 4 i : Nat) : Int)) = qrow (i + 1) := by
  unfold qrow
  apply List.ext_getElem?
  intro k
  rw [List.getElem?_set]
  simp only [List.getElem?_map, List.length_map, List.length_range]
  by_cases hk : i = k
  · subst hk
    simp [h]
  · rw [if_neg hk]
    by_cases hk16 : k < 16
    · simp only [List.getElem?_range hk16, Option.map_some]
      congr 3
      by_cases hki : k < i
      · rw [if_pos hki, if_pos (by omega)]
      · rw [if_neg hki, if_neg (by omega)]
    · rw [List.getElem?_eq_none (by simp; omega)]; rfl
theorem qrow_get (i : Nat) (h : i < 16) : (qrow 16)[i]? = some (.int .u32 ((Crc.hn 4 i : Nat) : Int)) := by
  simp [qrow, h]
theorem nib {s : Nat} (hs : s < 2 ^ 32) : band .u32 (s : Int) 15 = ((s % 16 : Nat) : Int) := by
  have h2 : band .u32 (s : Int) ((15 : Nat) : Int) = ((s &&& 15 : Nat) : Int) := band_nat rfl (u32lt hs) (by decide)
  have h3 : s &&& 15 = s % 16 := Nat.and_two_pow_sub_one_eq_mod s 4
  rw [← h3]; exact h2
theorem shr4 {s : Nat} : shr .u32 (s : Int) 4 = ((s / 16 : Nat) : Int) := by
  have := shr_nat (k := .u32) (a := s) (b := 4) (by decide)
  simpa using this
theorem crc_More.spec {w : World} {s : SV} {l : List UInt8} (hs : RdB w s l) (hl : l.length < 2 ^ 62) {n : Nat} (hn0 : n < 2 ^ 32) :
    CallT [.one (.int .u32)] Try.prog F.crc_More [.int .u32 n, .slice s.a s.len s.cap] w fun r w' => r = more n l ∧ Ext w w' := by
  refine crc_More.vc n s w _ ?_
  have hsl := hs.lenB
  have hM : n ^^^ M < 2 ^ 32 := Nat.xor_lt_two_pow hn0 (by decide)
  refine ⟨fun m x w' => ∃ i : Nat, x = (i : Int) ∧ i ≤ 16 ∧ m = 16 - i ∧ Ext w w' ∧ w'.heap[w.heap.size]? = some (.cells (qrow i).toArray T.a16_uint32 (0, 0)), ⟨_, 0, rfl, by omega, rfl, ext_alloc _ _, blk_new _ _⟩, ?_⟩
  rintro m _ j w1 ⟨i, rfl, hi, rfl, he, hb⟩
  refine cnd_dec (fun hlt => ?_) (fun hge => ?_)
  · have hi16 : i < 16 := by omega
    refine ⟨fun q x w' => ∃ k : Nat, x = (((Crc.hn k i : Nat) : Int), (k : Int)) ∧ k ≤ 4 ∧ q = 4 - k ∧ w1 = w', ⟨_, 0, by rw [u32_id (by omega) (by omega)]; rfl, by omega, rfl, rfl⟩, ?_⟩
    rintro q _ j' _ ⟨k, rfl, hk, rfl, rfl⟩
    dsimp only
    refine cnd_dec (fun hlt' => ?_) (fun hge' => ?_)
    · refine CallT.mono (crc_half.spec (Crc.hn_lt k (by omega)) _) ?_
      rintro _ _ ⟨rfl, rfl⟩
      exact ⟨4 - (k + 1), by omega, k + 1, by rw [i64_id (by omega) (by omega), ← Crc.hn_half, Crc.hn]; rfl, by omega, rfl, rfl⟩
    · have : k = 4 := by omega
      subst this
      simp only [Int.toNat_natCast, Nat.mul_one, add_mk, Nat.zero_add]
      refine ⟨by omega, by omega, set_ok hb (by simp [qrow]; omega) ⟨16 - (i + 1), by omega, i + 1, by rw [i64_id (by omega) (by omega)]; rfl, by omega, rfl, ?_, ?_⟩⟩
      · exact he.set (p := ⟨w.heap.size, i, none⟩) (fun h => by simp at h) _
      · rw [blk_set hb, List.setIfInBounds_toArray, qrow_set i hi16]
  · have : i = 16 := by omega
    subst this
    have hmax : (if IntKind.u32.signed = true then (-1 : Int) else IntKind.u32.max) = ((M : Nat) : Int) := rfl
    rw [hmax, bx (a := M) (b := n) (by decide) hn0, Nat.xor_comm]
    have hq : ∀ k, k < 16 → w1.cell? ⟨w.heap.size, k, none⟩ = some (.int .u32 ((Crc.hn 4 k : Nat) : Int)) := fun k hk => by
      rw [cell_blk hb, List.getElem?_toArray, qrow_get k hk]
    refine ⟨fun m x w' => ∃ i : Nat, x = (((raw (n ^^^ M) (l.take i) : Nat) : Int), (i : Int)) ∧ i ≤ l.length ∧ m = l.length - i ∧ w1 = w', ⟨_, 0, rfl, by omega, rfl, rfl⟩, ?_⟩
    rintro m _ j _ ⟨i, rfl, hi, rfl, rfl⟩
    dsimp only
    have hr := raw_lt (l.take i) hM
    refine cnd_dec (fun hlt => ?_) (fun hge => ?_)
    · have hil : i < l.length := by omega
      have hbt := (l[i]).toNat_lt
      refine ⟨by omega, by omega, SV.getB hs hil fun A hA => ⟨(l[i]).toNat, (hs.ext he).cellB (List.getElem?_eq_getElem hil) hA, ?_⟩⟩
      have hx : raw (n ^^^ M) (l.take i) ^^^ (l[i]).toNat < 2 ^ 32 := Nat.xor_lt_two_pow hr (by omega)
      have hsn : raw (n ^^^ M) (l.take (i + 1)) = Crc.hn 8 (raw (n ^^^ M) (l.take i) ^^^ (l[i]).toNat) := by
        rw [List.take_add_one, List.getElem?_eq_getElem hil, Option.toList_some, raw_snoc]
      rw [u32_id (x := (l[i]).toNat) (by omega) (by omega), bx hr (by omega)]
      generalize raw (n ^^^ M) (l.take i) ^^^ (l[i]).toNat = c at hx hsn
      have h16 : ∀ c : Nat, c < 2 ^ 32 → Crc.hn 4 (c % 16) < 2 ^ 32 := fun c _ => Crc.hn_lt 4 (by omega)
      rw [nib hx, shr4]
      simp only [Int.toNat_natCast, Nat.mul_one, add_mk, Nat.zero_add]
      refine ⟨by omega, by omega, _, hq _ (by omega), ?_⟩
      rw [bx (a := c / 16) (by omega) (h16 c hx), ← Crc.hn4 hx]
      have hx2 := Crc.hn_lt 4 hx
      rw [nib hx2, shr4]
      simp only [Int.toNat_natCast]
      refine ⟨by omega, by omega, _, hq _ (by omega), ?_⟩
      rw [bx (a := Crc.hn 4 c / 16) (by omega) (h16 _ hx2), ← Crc.hn4 hx2, ← Crc.hn_add]
      exact ⟨l.length - (i + 1), by omega, i + 1, by rw [i64_id (by omega) (by omega), hsn]; rfl, by omega, rfl, trivial⟩
    · have : i = l.length := by omega
      subst this
      rw [List.take_length] at hr ⊢
      exact ⟨by rw [bx (by decide) hr, Nat.xor_comm]; rfl, he⟩
theorem crc_Sum.spec {w : World} {s : SV} {l : List UInt8} (hs : RdB w s l) (hl : l.length < 2 ^ 62) :
    CallT [.one (.int .u32)] Try.prog F.crc_Sum [.slice s.a s.len s.cap] w fun r w' => r = more 0 l ∧ Ext w w' := by
  refine crc_Sum.vc s w _ ?_
  have c := crc_More.spec hs hl (n := 0) (by decide)
  exact CallT.mono c fun _ _ h => h
theorem dunnageref02_Sum.spec {w : World} {s : SV} {l : List UInt8} (hs : RdB w s l) (hl : l.length < 2 ^ 62) :
    CallT [.one (.int .u32)] Try.prog F.dunnageref02_Sum [.slice s.a s.len s.cap] w fun r w' => r = more 0 l ∧ w = w' := by
  refine dunnageref02_Sum.vc s w _ ?_
  have c := dunnageref02_More.spec hs hl (n := 0) (by decide)
  exact CallT.mono c fun _ _ h => h
end Go.Proofs
/- word: the walk over bytes; word.Zero; ReadVar, and the document's Var and ReadVar (r1's texts Word and WordRead without what this seat lacks). Conditions: those of each contract. -/
namespace Go.Proofs
open Go Go.Vc

/-- The walk: S i holds ahead of the i-th byte, E i behind the last that do was told. -/
theorem word_walk_over.spec {M : Nat → Prop} {w : World} {x0 : Value} {s : SV} {l : List UInt8} (S E : Nat → World → Prop) (i0 : Nat)
    (hs : RdB w s l) (hl : l.length < 2 ^ 62) (hM0 : ¬ M w.heap.size) (hM : l ≠ [] → ∀ b, s.blk b → ¬ M b)
    (h0 : ∀ w', Ext w w' → S i0 w')
    (hstep : ∀ i b w', l[i]? = some b → Upd M w w' → w.heap.size < w'.heap.size → S i w' →
      callVal [.one .bool] Try.prog x0 [.int .u8 b.toNat] w'.drew fun r w2 => Upd M w' w2 ∧ cnd r (S (i + 1) w2) (E (i + 1) w2)) :
    CallT [.one (.int .i64), .one .bool] Try.prog F.word_walk_over [.agg #[x0], .slice s.a s.len s.cap, .int .i64 i0] w fun r w' =>
      Upd M w w' ∧ ∃ i : Nat, r.1 = i ∧ cnd r.2 (i = max i0 l.length ∧ S i w') (i ≤ l.length ∧ E i w') := by
  refine word_walk_over.vc x0 s i0 w _ ?_
  refine ⟨fun n x w' => ∃ i : Nat, x = i ∧ (i = i0 ∨ i ≤ l.length) ∧ i0 ≤ i ∧ n = l.length - i ∧ Upd M (w.alloc (.cells #[x0] T.word_walk)) w' ∧ S i w',
    ⟨_, i0, rfl, .inl rfl, Nat.le_refl _, rfl, Upd.refl _ _, h0 _ (ext_alloc _ _)⟩, ?_⟩
  rintro n x j w' ⟨i, rfl, hi, hle, rfl, hu, hS⟩
  have hlen := hs.lenB
  have hu0 : Upd M w w' := ((ext_alloc w _).to M).trans hu fun _ _ h => h
  refine cnd_dec (fun hlt => ?_) (fun hge => ?_)
  · have hil : i < l.length := by omega
    obtain ⟨b, hb⟩ : ∃ b, l[i]? = some b := ⟨_, List.getElem?_eq_getElem hil⟩
    have hw1 : IntKind.i64.wrap ((i : Int) + 1) = ((i + 1 : Nat) : Int) := by rw [i64_id] <;> omega
    have hw2 : IntKind.i64.wrap (((i + 1 : Nat) : Int) - 1) = (i : Int) := by rw [i64_id] <;> omega
    have hcl : w'.drew.cell? (Addr.add ⟨w.heap.size, 0, none⟩ 0) = some x0 := by
      have := hu.get (blk_new w (.cells #[x0] T.word_walk)) hM0
      rw [add_mk]
      exact cell_blk this
    refine ⟨x0, hcl, ?_⟩
    rw [hw1, hw2]
    refine ⟨by omega, by omega, SV.getB hs hil fun A hA => ⟨b.toNat, ?_, ?_⟩⟩
    · rw [Int.toNat_natCast]
      exact ((hs.upd hu0 (hM (List.ne_nil_of_length_pos (by omega)))).drew).cellB hb hA
    · have hsz : w.heap.size < w'.heap.size := by have := hu.size; simp at this; omega
      refine callVal.mono (hstep i b w' hb hu0 hsz hS) ?_
      rintro r w2 ⟨hu2, hr⟩
      refine cnd_not (fun hf => ?_) (fun ht => ?_)
      · subst hf
        exact ⟨hu0.trans hu2 fun _ _ h => h, i + 1, rfl, by omega, hr⟩
      · subst ht
        exact ⟨l.length - (i + 1), by omega, i + 1, rfl, by omega, by omega, rfl, hu.trans hu2 fun _ _ h => h, hr⟩
  · exact ⟨hu0, i, rfl, by omega, hS⟩

theorem walk_mk {w : World} {T : TypeId} {z f : Value} {K : Value → World → Prop} (hk : ∀ w1, Ext w w1 → w1.heap.size = w.heap.size + 1 → w1.drawn = w.drawn → K f w1) :
    canSt (w.alloc (.cells #[z] T)) ⟨w.heap.size, 0, none⟩ 1 ∧ (let w1 := setCells (w.alloc (.cells #[z] T)) ⟨w.heap.size, 0, none⟩ 0 [f]; ∃ x, cellsAt w1 ⟨w.heap.size, 0, none⟩ [x] ∧ K x w1) := by
  have hb := blk_new w (.cells [z].toArray T)
  refine ⟨canSt_blk hb (by simp), f, ?_, hk _ ?_ ?_ ?_⟩
  · exact cellsAt_blk (setCells_blk (o := 0) [f] _ 0 _ hb (by simp)) (by simp [spl])
  · exact (ext_alloc w _).setCells (p := ⟨w.heap.size, 0, none⟩) (fun h => by simp at h) 0 [f]
  · rw [setCells_size]; simp
  · rfl

theorem walk_mkd {w : World} {T : TypeId} {z f : Value} {K : Value → World → Prop} (hk : ∀ w1, Ext w w1 → w1.heap.size = w.heap.size + 1 → w1.drawn = w.drawn → K f w1) :
    canSt (w.alloc (.cells #[z] T)) ⟨w.heap.size, 0, none⟩ 1 ∧ (let w1 := setCells (w.alloc (.cells #[z] T)) ⟨w.heap.size, 0, none⟩ 0 [f]; ∃ x, cellsAt w1.drew ⟨w.heap.size, 0, none⟩ [x] ∧ K x w1) :=
  walk_mk hk
/-! ### word.Zero -/
theorem word_Zero_1.spec (n : Int) (w : World) : CallT [.one .bool] Try.prog F.word_Zero_1 [.int .u8 n] w fun r w' => r = (n == 0) ∧ w = w' :=
  word_Zero_1.vc n w _ ⟨rfl, rfl⟩
def allZ (l : List UInt8) : Bool := l.all (· == 0)
theorem word_Zero.spec {w : World} {s : SV} {l : List UInt8} (hs : RdB w s l) (hl : l.length < 2 ^ 62) :
    CallT [.one .bool] Try.prog F.word_Zero [.slice s.a s.len s.cap] w fun r w' => r = allZ l ∧ Ext w w' := by
  refine word_Zero.vc s w _ ?_
  refine walk_mk (K := fun x w1 => CallT _ _ _ [.agg #[x], _, _] w1 _) ?_
  intro w1 h1 h1s _
  refine CallT.mono (word_walk_over.spec (M := fun _ => False) (fun i _ => allZ (l.take i) = true) (fun i _ => allZ l = false) 0 (hs.ext h1) hl id (fun _ _ _ => id) (fun _ _ => rfl) ?_) ?_
  · intro i b w' hb hu _ hS
    refine CallT.mono (word_Zero_1.spec b.toNat w'.drew) ?_
    rintro r w2 ⟨rfl, rfl⟩
    refine ⟨(Upd.refl _ _).drew, cnd_beq (fun hz => ?_) (fun hz => ?_)⟩
    · have : b = 0 := by rw [← UInt8.toNat_inj]; simpa using hz
      subst this
      rw [List.take_add_one, hb]
      simp only [allZ, List.all_append] at hS ⊢
      simp [hS]
    · have : b ≠ 0 := by rintro rfl; exact hz rfl
      simp only [allZ, List.all_eq_false]
      exact ⟨b, List.mem_of_getElem? hb, by simpa using this⟩
  · rintro ⟨i, r⟩ w' ⟨hu, k, hk, hr⟩
    refine ⟨?_, h1.trans hu fun _ _ h => h⟩
    cases r with
    | true => obtain ⟨rfl, hr⟩ := hr; simpa using hr.symm
    | false => exact hr.2.symm

/-! ### awake -/

/-- What bytes are as a number, from the n-th on, v being that of those ahead: the number, how many bytes, an error. -/
def rvGo (n v : Nat) : List UInt8 → Nat × Nat × Int
  | [] => (0, 0, 10)
  | c :: r => if n = 9 ∧ 1 < c.toNat ∨ 0 < n ∧ c.toNat = 0 then (0, 0, 11)
    else if c.toNat < 128 then (v + c.toNat % 128 * 128 ^ n, n + 1, 0) else rvGo (n + 1) (v + c.toNat % 128 * 128 ^ n) r
def readVar (l : List UInt8) (at_ : Int) : Int × Int × Int :=
  if at_ < 0 then (0, 0, 1) else (match rvGo 0 0 (l.drop at_.toNat) with | (v, n, e) => if e = 0 then (v, at_ + n, 0) else (0, 0, e))

theorem or_add {v x n : Nat} (h : v < 128 ^ n) : v ||| (x * 128 ^ n) = v + x * 128 ^ n := by
  have e : 128 ^ n = 2 ^ (7 * n) := by rw [Nat.pow_mul]
  rw [e] at h ⊢
  rw [Nat.mul_comm x, Nat.or_comm, ← Nat.two_pow_add_eq_or_of_lt h]; omega
theorem rv_bits {v n c : Nat} (hv : v < 128 ^ n) (hn : n ≤ 9) (hc : c < 256) (hn9 : n = 9 → c ≤ 1) :
    bor .u64 (v : Int) (shl .u64 (IntKind.u64.wrap (band .u8 (c : Int) 127)) (((7 * n : Nat)) : Int)) = ((v + c % 128 * 128 ^ n : Nat) : Int) ∧ v + c % 128 * 128 ^ n < 2 ^ 64 ∧ v + c % 128 * 128 ^ n < 128 ^ (n + 1) := by
  have hb : band .u8 (c : Int) ((127 : Nat) : Int) = ((c &&& 127 : Nat) : Int) := band_nat rfl (by simpa [IntKind.bits] using hc) (by decide)
  have h127 : c &&& 127 = c % 128 := Nat.and_two_pow_sub_one_eq_mod c 7
  have hw : IntKind.u64.wrap (((c % 128 : Nat)) : Int) = ((c % 128 : Nat) : Int) := u64_id (by omega) (by omega)
  have hb' : band .u8 (c : Int) 127 = ((c % 128 : Nat) : Int) := by rw [← h127]; exact hb
  rw [hb', hw, shl_nat (k := .u64) rfl (by simp only [IntKind.bits]; omega)]
  have e : 128 ^ n = 2 ^ (7 * n) := by rw [Nat.pow_mul]
  have hpos : 0 < 128 ^ n := Nat.pow_pos (by decide)
  have hlt : v + c % 128 * 128 ^ n < 128 ^ (n + 1) := by
    rw [Nat.pow_succ]
    have : c % 128 ≤ 127 := by omega
    have := Nat.mul_le_mul_right (128 ^ n) this
    omega
  have h64 : v + c % 128 * 128 ^ n < 2 ^ 64 := by
    by_cases h9 : n = 9
    · subst h9
      have := hn9 rfl
      have : c % 128 ≤ 1 := by omega
      omega
    · have : 128 ^ (n + 1) ≤ 128 ^ 9 := Nat.pow_le_pow_right (by decide) (by omega)
      omega
  have hm : c % 128 * 2 ^ (7 * n) % 2 ^ IntKind.u64.bits = c % 128 * 128 ^ n := by
    rw [← e]
    apply Nat.mod_eq_of_lt
    simp only [IntKind.bits]; omega
  rw [hm, bor_nat (k := .u64) rfl (by simp only [IntKind.bits]; omega) (by simp only [IntKind.bits]; omega), or_add hv]
  exact ⟨rfl, h64, hlt⟩

theorem word_ReadVar.spec {w : World} {s : SV} {l : List UInt8} (hs : RdB w s l) (hl : l.length ≤ 140737488351232) (a : Int) (ha : a ≤ 9223372036854775807) :
    CallT [.one (.int .u64), .one (.int .i64), .one (.int .i64)] Try.prog F.word_ReadVar [.slice s.a s.len s.cap, .int .i64 a] w fun r w' => r = readVar l a ∧ Ext w w' := by
  refine word_ReadVar.vc s a w _ ?_
  refine cnd_dec (fun h => ⟨by rw [readVar, if_pos h], Upd.refl _ _⟩) (fun h0 => ?_)
  obtain ⟨at_, rfl⟩ : ∃ n : Nat, a = n := ⟨a.toNat, by omega⟩
  have hsl := hs.lenB
  intro w1
  obtain ⟨e1, z1, b1⟩ := alloc_facts w (.cells #[.int .u64 0] T.uint64)
  intro w2
  obtain ⟨e2, z2, b2⟩ := alloc_facts w1 (.cells #[.int .i64 0] T.int)
  intro w3
  obtain ⟨e3, z3, b3⟩ := alloc_facts w2 (.cells #[.bool false] T.bool)
  have e123 : Ext w w3 := (e1.trans e2 fun _ _ h => h).trans e3 fun _ _ h => h
  have zz1 : w1.heap.size = w.heap.size + 1 := z1
  have zz2 : w2.heap.size = w.heap.size + 2 := by rw [← Nat.add_assoc (w.heap.size) 1 1, ← zz1]; exact z2
  have zz3 : w3.heap.size = w.heap.size + 3 := by rw [show w.heap.size + 3 = w.heap.size + 2 + 1 from rfl, ← zz2]; exact z3
  have g1 : w3.heap[w.heap.size]? = some (.cells #[.int .u64 0] T.uint64) := e3.get (e2.get b1)
  have g2 : w3.heap[w1.heap.size]? = some (.cells #[.int .i64 0] T.int) := e3.get b2
  have g3 : w3.heap[w2.heap.size]? = some (.cells #[.bool false] T.bool) := b3
  clear b1 b2 b3 e1 e2 e3 z1 z2 z3
  clear_value w3
  clear_value w2
  clear_value w1
  refine set_ok (o := 0) g1 (by simp) ?_
  intro w4
  obtain ⟨u4, z4, h1, k4⟩ := set_facts (o := 0) g1 (.int .u64 0)
  have h2 : w4.heap[w1.heap.size]? = _ := (k4 _ (by omega)).trans g2
  have h3 : w4.heap[w2.heap.size]? = _ := (k4 _ (by omega)).trans g3
  have e4 : Ext w w4 := e123.trans u4 fun x hx e => by omega
  have z4 : w4.heap.size = w.heap.size + 3 := z4.trans zz3
  have h1 : w4.heap[w.heap.size]? = some (.cells #[.int .u64 0] T.uint64) := h1
  clear_value w4
  clear u4 k4 g1 g2 g3
  refine set_ok (o := 0) h2 (by simp) ?_
  intro w5
  obtain ⟨u5, z5, g2, k5⟩ := set_facts (o := 0) h2 (.int .i64 0)
  have g1 : w5.heap[w.heap.size]? = _ := (k5 _ (by omega)).trans h1
  have g3 : w5.heap[w2.heap.size]? = _ := (k5 _ (by omega)).trans h3
  have e5 : Ext w w5 := e4.trans u5 fun x hx e => by omega
  have z5 : w5.heap.size = w.heap.size + 3 := z5.trans z4
  have g2 : w5.heap[w1.heap.size]? = some (.cells #[.int .i64 0] T.int) := g2
  clear_value w5
  clear u5 k5 h1 h2 h3
  refine set_ok (o := 0) g3 (by simp) ?_
  intro w6
  obtain ⟨u6, z6, h3, k6⟩ := set_facts (o := 0) g3 (.bool true)
  have h1 : w6.heap[w.heap.size]? = _ := (k6 _ (by omega)).trans g1
  have h2 : w6.heap[w1.heap.size]? = _ := (k6 _ (by omega)).trans g2
  have e6 : Ext w w6 := e5.trans u6 fun x hx e => by omega
  have z6 : w6.heap.size = w.heap.size + 3 := z6.trans z5
  have h3 : w6.heap[w2.heap.size]? = some (.cells #[.bool true] T.bool) := h3
  clear_value w6
  clear u6 k6 g1 g2 g3
  refine walk_mk (K := fun x w1 => CallT _ _ _ [.agg #[x], _, _] w1 _) ?_
  intro w7 e7 z7 _
  have h1 := e7.get h1
  have h2 := e7.get h2
  have h3 := e7.get h3
  have e7 : Ext w w7 := e6.trans e7 fun _ _ h => h
  clear e123 zz3 e4 z4 e5 z5 e6
  refine CallT.mono (word_walk_over.spec (M := fun b => b = w.heap.size ∨ b = w1.heap.size ∨ b = w2.heap.size)
    (fun i w' => ∃ n v : Nat, n ≤ 9 ∧ v < 128 ^ n ∧ i = at_ + n ∧ rvGo 0 0 (l.drop at_) = rvGo n v (l.drop i) ∧
      w'.heap[w.heap.size]? = some (.cells #[.int .u64 v] T.uint64) ∧ w'.heap[w1.heap.size]? = some (.cells #[.int .i64 n] T.int) ∧ w'.heap[w2.heap.size]? = some (.cells #[.bool true] T.bool))
    (fun i w' => ∃ f : Bool, w'.heap[w2.heap.size]? = some (.cells #[.bool f] T.bool) ∧ cnd f
      (∃ n v : Nat, n ≤ 10 ∧ i = at_ + n ∧ rvGo 0 0 (l.drop at_) = (v, n, 0) ∧ w'.heap[w.heap.size]? = some (.cells #[.int .u64 v] T.uint64))
      (rvGo 0 0 (l.drop at_) = (0, 0, 11))) at_ (hs.ext e7) (by omega) (by omega) ?_ ?_ ?_) ?_
  · intro hne b hb hM
    have := hs.lt (by intro h; exact hne (List.map_eq_nil_iff.1 h)) b hb
    omega
  · intro w' he
    exact ⟨0, 0, by omega, by decide, rfl, rfl, he.get h1, he.get h2, he.get h3⟩
  · rintro i b w' hb hu hsz ⟨n, v, hn, hv, rfl, hrv, c1, c2, c3⟩
    have hdrop : l.drop (at_ + n) = b :: l.drop (at_ + n + 1) := by
      have hlt : at_ + n < l.length := (List.getElem?_eq_some_iff.1 hb).1
      rw [List.drop_eq_getElem_cons hlt, (List.getElem?_eq_some_iff.1 hb).2]
    rw [hdrop, rvGo] at hrv
    refine word_ReadVar_1.vc b.toNat _ _ _ w'.drew _ ?_
    have hl1 : w.heap.size < w'.heap.size := lt_of_blk c1
    have form : Upd (fun b => b = w.heap.size ∨ b = w1.heap.size ∨ b = w2.heap.size) w' (w'.drew.setCell ⟨w2.heap.size, 0, none⟩ (.bool false)) ∧
        (w'.drew.setCell ⟨w2.heap.size, 0, none⟩ (.bool false)).heap[w2.heap.size]? = some (.cells #[.bool false] T.bool) :=
      ⟨((Upd.refl _ w').drew).set (p := ⟨w2.heap.size, 0, none⟩) (fun _ => .inr (.inr rfl)) _, blk_set (w := w'.drew) c3 _⟩
    have bad : ∀ hc : (n = 9 ∧ 1 < b.toNat ∨ 0 < n ∧ b.toNat = 0), rvGo 0 0 (l.drop at_) = (0, 0, 11) := fun hc => by rw [hrv, if_pos hc]
    have hcell : w'.drew.cell? ⟨w1.heap.size, 0, none⟩ = some (.int .i64 n) := cell_blk (w := w'.drew) c2
    refine ⟨fun _ w2' => w2' = w'.drew ∧ ¬ (n = 9 ∧ 1 < b.toNat ∨ 0 < n ∧ b.toNat = 0), ⟨n, hcell, ?_⟩, ?_⟩
    · refine cnd_beq (fun h9 => cnd_dec (fun hg => ?_) (fun hng => ⟨n, hcell, cnd_dec (fun hp => cnd_beq (fun hz => ?_) (fun hz => ?_)) (fun hp => ?_)⟩)) (fun h9 => ⟨n, hcell, cnd_dec (fun hp => cnd_beq (fun hz => ?_) (fun hz => ?_)) (fun hp => ?_)⟩)
      · exact set_ok (o := 0) (w := w'.drew) c3 (by simp) ⟨form.1, false, form.2, bad (.inl ⟨by omega, by omega⟩)⟩
      · exact set_ok (o := 0) (w := w'.drew) c3 (by simp) ⟨form.1, false, form.2, bad (.inr ⟨by omega, by omega⟩)⟩
      · exact ⟨rfl, by omega⟩
      · exact ⟨rfl, by omega⟩
      · exact set_ok (o := 0) (w := w'.drew) c3 (by simp) ⟨form.1, false, form.2, bad (.inr ⟨by omega, by omega⟩)⟩
      · exact ⟨rfl, by omega⟩
      · exact ⟨rfl, by omega⟩
    · rintro _ j' _ ⟨rfl, hc⟩
      rw [if_neg hc] at hrv
      obtain ⟨q1, q2, q3⟩ := rv_bits hv hn b.toNat_lt (by omega)
      have h7 : IntKind.i64.wrap (7 * (n : Int)) = ((7 * n : Nat) : Int) := by rw [i64_id] <;> omega
      have hn1 : IntKind.i64.wrap ((n : Int) + 1) = ((n + 1 : Nat) : Int) := by rw [i64_id] <;> omega
      have d1 : w'.drew.drew.heap[w.heap.size]? = some (.cells #[.int .u64 v] T.uint64) := c1
      have d2 : w'.drew.drew.heap[w1.heap.size]? = some (.cells #[.int .i64 n] T.int) := c2
      refine ⟨v, cell_blk d1, n, cell_blk d2, ?_⟩
      rw [h7]
      refine ⟨by omega, set_ok (o := 0) d1 (by simp) ?_⟩
      rw [q1]
      intro x1
      obtain ⟨u1, _, k1, kk⟩ := set_facts (o := 0) d1 (.int .u64 ((v + b.toNat % 128 * 128 ^ n : Nat) : Int))
      have k2 : x1.heap[w1.heap.size]? = _ := (kk _ (by omega)).trans d2
      have k3 : x1.heap[w2.heap.size]? = some (.cells #[.bool true] T.bool) := (kk _ (by omega)).trans c3
      have k1 : x1.heap[w.heap.size]? = some (.cells #[.int .u64 ((v + b.toNat % 128 * 128 ^ n : Nat) : Int)] T.uint64) := k1
      have u1 : Upd (fun b => b = w.heap.size ∨ b = w1.heap.size ∨ b = w2.heap.size) w' x1 := ((Upd.refl _ w').drew.drew).trans u1 fun _ _ h => .inl h
      clear_value x1
      refine ⟨n, cell_blk k2, set_ok (o := 0) k2 (by simp) ?_⟩
      obtain ⟨u2, _, m2, mm⟩ := set_facts (o := 0) k2 (.int .i64 (IntKind.i64.wrap (n + 1)))
      have m1 := (mm _ (by omega)).trans k1
      have m3 := (mm _ (by omega)).trans k3
      have u2 := u1.trans u2 fun _ _ h => .inr (.inl h)
      refine ⟨u2, cnd_dec (fun hge => ?_) (fun hlt => ?_)⟩
      · rw [if_neg (by omega)] at hrv
        rw [hn1] at m2 m1 m3 ⊢
        refine ⟨n + 1, _, ?_, q3, by omega, hrv, m1, m2, m3⟩
        by_cases h9 : n = 9 <;> omega
      · rw [if_pos (by omega)] at hrv
        refine ⟨true, m3, n + 1, _, by omega, by omega, hrv, m1⟩
  · rintro ⟨i, r⟩ w' ⟨hu, k, hk, hr⟩
    dsimp only at hk hr
    subst hk
    have hext : Ext w w' := e7.trans hu fun x hx hM => by omega
    cases r with
    | true =>
      obtain ⟨rfl, n, v, _, _, _, hrv, _, _, hf⟩ := hr
      refine ⟨true, cell_blk hf, ?_⟩
      have hd : l.drop (max at_ l.length) = [] := List.drop_eq_nil_of_le (by omega)
      rw [hd] at hrv
      refine cnd_false (cnd_true ⟨?_, hext⟩)
      rw [readVar, if_neg h0, Int.toNat_natCast, hrv]
      rfl
    | false =>
      obtain ⟨hil, f, hf, hr⟩ := hr
      refine ⟨f, cell_blk hf, ?_⟩
      cases f with
      | false =>
        refine cnd_true ⟨?_, hext⟩
        have hr : rvGo 0 0 (l.drop at_) = (0, 0, 11) := hr
        rw [readVar, if_neg h0, Int.toNat_natCast, hr]
        rfl
      | true =>
        obtain ⟨n, v, hn, rfl, hrv, hv⟩ := hr
        refine cnd_false (cnd_false ⟨v, cell_blk hv, ?_, hext⟩)
        rw [readVar, if_neg h0, Int.toNat_natCast, hrv]
        simp

set_option maxRecDepth 4000 in
theorem dunnageref01_ReadVar.spec {w : World} {s : SV} {l : List UInt8} (hs : RdB w s l) (hl : l.length ≤ 140737488351232) (a : Int) (ha : a ≤ 9223372036854775807) :
    CallT [.one (.int .u64), .one (.int .i64), .one (.int .i64)] Try.prog F.dunnageref01_ReadVar [.slice s.a s.len s.cap, .int .i64 a] w fun r w' => r = readVar l a ∧ w = w' := by
  refine dunnageref01_ReadVar.vc s a w _ ?_
  refine cnd_dec (fun h => ⟨by rw [readVar, if_pos h], rfl⟩) (fun h0 => ?_)
  obtain ⟨at_, rfl⟩ : ∃ n : Nat, a = n := ⟨a.toNat, by omega⟩
  have hsl := hs.lenB
  have hrd : readVar l at_ = (match rvGo 0 0 (l.drop at_) with | (v, n, e) => if e = 0 then ((v : Int), (at_ : Int) + n, (0 : Int)) else (0, 0, e)) := by
    rw [readVar, if_neg h0, Int.toNat_natCast]
  refine ⟨fun m x w' => ∃ n v : Nat, x = ((v : Int), (n : Int)) ∧ n ≤ 9 ∧ v < 128 ^ n ∧ m = 10 - n ∧ w = w' ∧ rvGo 0 0 (l.drop at_) = rvGo n v (l.drop (at_ + n)), ⟨10, 0, 0, rfl, by omega, by decide, rfl, rfl, rfl⟩, ?_⟩
  rintro m _ j _ ⟨n, v, rfl, hn, hv, rfl, rfl, hrv⟩
  dsimp only
  refine cnd_dec (fun _ => ?_) (fun h => absurd (by omega) h)
  refine ⟨fun _ w' => w = w' ∧ at_ + n < l.length, ?_, ?_⟩
  · have short : l.length ≤ at_ + n → (0, 0, 10) = readVar l at_ ∧ w = w := fun h => by
      rw [List.drop_eq_nil_of_le h] at hrv
      rw [hrd, hrv]; exact ⟨rfl, rfl⟩
    refine cnd_dec (fun h => short (by omega)) (fun h => ?_)
    have h7 : IntKind.i64.wrap ((at_ : Int) + (n : Int)) = ((at_ + n : Nat) : Int) := by rw [i64_id] <;> omega
    rw [h7]
    exact cnd_dec (fun h => short (by omega)) (fun h => ⟨rfl, by omega⟩)
  · rintro _ _ _ ⟨rfl, hlt⟩
    have h7 : IntKind.i64.wrap ((at_ : Int) + (n : Int)) = ((at_ + n : Nat) : Int) := by rw [i64_id] <;> omega
    rw [h7, Int.toNat_natCast]
    refine ⟨by omega, by omega, SV.getB hs hlt fun A hA => ⟨(l[at_ + n]).toNat, hs.cellB (List.getElem?_eq_getElem hlt) hA, ?_⟩⟩
    rw [List.drop_eq_getElem_cons hlt, rvGo] at hrv
    generalize l[at_ + n] = b at hrv ⊢
    have bad : (n = 9 ∧ 1 < b.toNat ∨ 0 < n ∧ b.toNat = 0) → (0, 0, 11) = readVar l at_ ∧ w = w := fun hc => by
      rw [if_pos hc] at hrv
      rw [hrd, hrv]; exact ⟨rfl, rfl⟩
    refine ⟨fun _ w2' => w = w2' ∧ ¬ (n = 9 ∧ 1 < b.toNat ∨ 0 < n ∧ b.toNat = 0), ?_, ?_⟩
    · refine cnd_beq (fun h9 => cnd_dec (fun hg => bad (.inl ⟨by omega, by omega⟩)) (fun hng => cnd_dec (fun hp => cnd_beq (fun hz => bad (.inr ⟨by omega, by omega⟩)) (fun hz => ⟨rfl, by omega⟩)) (fun hp => ⟨rfl, by omega⟩)))
        (fun h9 => cnd_dec (fun hp => cnd_beq (fun hz => bad (.inr ⟨by omega, by omega⟩)) (fun hz => ⟨rfl, by omega⟩)) (fun hp => ⟨rfl, by omega⟩))
    · rintro _ _ _ ⟨rfl, hc⟩
      rw [if_neg hc] at hrv
      obtain ⟨q1, q2, q3⟩ := rv_bits hv hn b.toNat_lt (by omega)
      have h8 : IntKind.u64.wrap (7 * IntKind.u64.wrap (n : Int)) = ((7 * n : Nat) : Int) := by rw [u64_id (x := n) (by omega) (by omega), u64_id] <;> omega
      rw [h8]
      refine And.intro (by omega) ?_
      rw [q1]
      have hlt0 : b.toNat < 128 ∨ ¬ b.toNat < 128 := by omega
      rcases hlt0 with hlt' | hlt'
      · refine cnd_pos (decide_eq_true (by omega)) ?_
        rw [if_pos (by omega)] at hrv
        refine ⟨?_, rfl⟩
        rw [hrd, hrv, i64_id (by omega) (by omega)]
        simp; omega
      · refine cnd_neg (decide_eq_false (by omega)) ?_
        rw [if_neg (by omega)] at hrv
        refine ⟨10 - (n + 1), by omega, n + 1, _, by rw [i64_id (x := (n : Int) + 1) (by omega) (by omega)]; rfl, ?_, q3, rfl, rfl, hrv⟩
        by_cases h9 : n = 9 <;> omega

theorem dunnageref01_Var.spec (v : Nat) (hv : v < 2 ^ 64) (w : World) :
    CallT [.one .slice] Try.prog F.dunnageref01_Var [.int .u64 v] w fun s w' => OwnB w' w.heap.size s (varB v) ∧ Ext w w' ∧ s.a ≠ none := by
  refine dunnageref01_Var.vc v w _ ?_
  refine ⟨fun n x w' => ∃ (u : Nat) (d : List UInt8), x.1 = u ∧ u < 2 ^ 64 ∧ OwnB w' w.heap.size x.2 d ∧ Ext w w' ∧ d ++ varB u = varB v ∧ n = u,
    ⟨v, v, [], rfl, hv, Own.nil _ _ _ _, Upd.refl _ _, rfl, rfl⟩, ?_⟩
  rintro n ⟨x, out⟩ j w' ⟨u, d, hx, hle, ho, he, hd, rfl⟩
  dsimp only at hx ho ⊢
  subst hx
  have hlen : d.length ≤ 10 := by
    have := varB_10 hv
    rw [← hd] at this
    simp at this; omega
  have hol := ho.lenB
  refine cnd_dec (fun hge => ?_) (fun hlt => ?_)
  · have hge' : ¬ n < 128 := by omega
    have hb := bor128 (n % 256) (by omega)
    have hw : IntKind.u8.wrap (n : Int) = ((n % 256 : Nat) : Int) := by rw [u8_mod]; omega
    rw [hw, hb]
    refine app_new (vs := B8 [UInt8.ofNat (n % 256 % 128 + 128)]) appB he ho rfl (B8_one _) (by omega) ?_
    intro s' w2 ho2 he2 hl2 _
    have hshr : shr .u64 (n : Int) 7 = ((n / 128 : Nat) : Int) := shr_nat (k := .u64) (b := 7) (by decide)
    refine ⟨n / 128, by omega, n / 128, d ++ [UInt8.ofNat (n % 256 % 128 + 128)], hshr, by omega, ?_, he2, ?_, rfl⟩
    · rw [OwnB, B8_append]; exact ho2
    · rw [← hd, varB_ge hge', List.append_assoc]
      congr 2
      rw [show n % 256 % 128 = n % 128 by omega]
      rfl
  · have hlt' : n < 128 := by omega
    have hw : IntKind.u8.wrap (n : Int) = ((UInt8.ofNat n).toNat : Int) := u8_of n
    rw [hw]
    refine app_new (vs := B8 [UInt8.ofNat n]) appB he ho rfl (B8_one _) (by omega) ?_
    intro s' w2 ho2 he2 hl2 ha
    refine ⟨?_, he2, ha (by omega)⟩
    rw [← hd, varB_lt hlt', OwnB, B8_append]
    exact ho2


/-! ### Text, ReadText -/
theorem rvGo_ok : ∀ (l : List UInt8) (n v : Nat) {v' n' : Nat}, n ≤ 9 → v < 128 ^ n → rvGo n v l = (v', n', 0) → n < n' ∧ n' ≤ n + l.length ∧ v' < 2 ^ 64
  | [], n, v, v', n', _, _, h => by simp [rvGo] at h
  | c :: r, n, v, v', n', hn, hv, h => by
    rw [rvGo] at h
    split at h
    · simp at h
    · rename_i hc
      obtain ⟨_, q2, q3⟩ := rv_bits hv hn c.toNat_lt (by omega)
      split at h
      · simp only [Prod.mk.injEq, and_true] at h
        obtain ⟨rfl, rfl⟩ := h
        exact ⟨by omega, by simp, q2⟩
      · have := rvGo_ok r (n + 1) _ (by by_cases h9 : n = 9 <;> omega) q3 h
        simp only [List.length_cons]
        omega
theorem readVar_ok {l : List UInt8} {a v n : Int} (h : readVar l a = (v, n, 0)) : ∃ (i j u : Nat), a = i ∧ n = j ∧ v = u ∧ i < j ∧ j ≤ l.length ∧ u < 2 ^ 64 := by
  unfold readVar at h
  split at h
  · simp at h
  · rename_i ha
    revert h
    rcases hq : rvGo 0 0 (l.drop a.toNat) with ⟨v', n', e⟩
    intro h
    dsimp only at h
    split at h
    · rename_i he
      subst he
      obtain ⟨h1, h2, h3⟩ := rvGo_ok _ 0 0 (by omega) (by decide) hq
      simp only [Prod.mk.injEq, and_true] at h
      obtain ⟨rfl, rfl⟩ := h
      rw [List.length_drop] at h2
      exact ⟨a.toNat, a.toNat + n', v', by omega, by omega, rfl, by omega, by omega, h3⟩
    · rename_i he
      simp only [Prod.mk.injEq] at h
      exact absurd h.2.2 he
end Go.Proofs
/- word.Put, word.Get, and the document's. Conditions: those of each contract. -/
namespace Go.Proofs
open Go Go.Vc

def leB (n v : Nat) : List UInt8 := (List.range n).map fun i => UInt8.ofNat (v / 256 ^ i)
theorem leB_succ (n v : Nat) : leB (n + 1) v = leB n v ++ [UInt8.ofNat (v / 256 ^ n)] := by simp [leB, List.range_succ]
theorem leB_len (n v : Nat) : (leB n v).length = n := by simp [leB]
def leV : List UInt8 → Nat | [] => 0 | c :: r => c.toNat + 256 * leV r
theorem leV_snoc (a : List UInt8) (c : UInt8) : leV (a ++ [c]) = leV a + c.toNat * 256 ^ a.length := by
  induction a with
  | nil => simp [leV]
  | cons x r ih => simp only [List.cons_append, leV, ih, List.length_cons, Nat.pow_succ]; rw [Nat.mul_add, ← Nat.add_assoc, Nat.mul_left_comm 256, Nat.mul_comm (256 ^ r.length)]
theorem leV_lt (a : List UInt8) : leV a < 256 ^ a.length := by
  induction a with
  | nil => simp [leV]
  | cons x r ih => simp only [leV, List.length_cons, Nat.pow_succ]; have := x.toNat_lt; omega
theorem leV_leB : ∀ (n v : Nat), leV (leB n v) = v % 256 ^ n
  | 0, v => by simp [leB, leV, Nat.mod_one]
  | n + 1, v => by
    rw [leB_succ, leV_snoc, leV_leB n v, leB_len, Nat.pow_succ, Nat.mod_mul]
    simp [Nat.mul_comm]
theorem leB_cons (n v : Nat) : leB (n + 1) v = UInt8.ofNat v :: leB n (v / 256) := by
  simp only [leB, List.range_succ_eq_map, List.map_cons, List.map_map, Nat.pow_zero, Nat.div_one]
  congr 1
  apply List.map_congr_left
  intro i _
  simp only [Function.comp, Nat.pow_succ, Nat.div_div_eq_div_mul, Nat.mul_comm]
theorem leB_leV (a : List UInt8) : leB a.length (leV a) = a := by
  induction a with
  | nil => rfl
  | cons c r ih =>
    have := c.toNat_lt
    rw [List.length_cons, leB_cons, leV, show (c.toNat + 256 * leV r) / 256 = leV r by omega, ih]
    congr 1
    rw [← UInt8.toNat_inj]; simp
def putB (l : List UInt8) (v : Nat) (n : Int) : List UInt8 × Int :=
  if n < 1 ∨ n > 8 then ([], 1) else if 256 ^ n.toNat ≤ v then ([], 12) else (l ++ leB n.toNat v, 0)
def getB (l : List UInt8) (a n : Int) : Int × Int :=
  if n < 1 ∨ n > 8 ∨ a < 0 then (0, 1) else if a > l.length ∨ (l.length : Int) - a < n then (0, 10) else ((leV ((l.drop a.toNat).take n.toNat) : Nat), 0)
theorem pow256 (n : Nat) : 256 ^ n = 2 ^ (8 * n) := by rw [Nat.pow_mul]
theorem word_Put.spec {w : World} {s : SV} {l : List UInt8} (hs : RdB w s l) (hl : l.length ≤ 140737488351232) {v : Nat} (hv : v < 2 ^ 64) {n : Int} (hn : -9223372036854775808 ≤ n ∧ n ≤ 9223372036854775807) :
    CallT [.one .slice, .one (.int .i64)] Try.prog F.word_Put [.slice s.a s.len s.cap, .int .u64 v, .int .i64 n] w fun r w' =>
      OwnB w' w.heap.size r.1 (putB l v n).1 ∧ r.2 = (putB l v n).2 ∧ Ext w w' := by
  refine word_Put.vc s v n w _ ?_
  have hsl := hs.lenB
  refine ⟨fun _ w' => w = w' ∧ 1 ≤ n ∧ n ≤ 8, ?_, ?_⟩
  · have bad : (n < 1 ∨ n > 8) → OwnB w w.heap.size ⟨none, 0, 0⟩ (putB l v n).1 ∧ (1 : Int) = (putB l v n).2 ∧ Ext w w := fun h => by
      rw [putB, if_pos h]; exact ⟨Own.nil _ _ _ _, rfl, Upd.refl _ _⟩
    exact cnd_dec (fun h => bad (.inl h)) fun h => cnd_dec (fun h => bad (.inr h)) fun h' => ⟨rfl, by omega, by omega⟩
  rintro _ _ _ ⟨rfl, hn1, hn8⟩
  obtain ⟨k, rfl⟩ : ∃ k : Nat, n = k := ⟨n.toNat, by omega⟩
  refine ⟨fun _ w' => w = w' ∧ v < 256 ^ k, ?_, ?_⟩
  · have h8 : IntKind.i64.wrap (8 * (k : Int)) = ((8 * k : Nat) : Int) := by rw [i64_id] <;> omega
    rw [h8]
    refine cnd_dec (fun hlt => ⟨by omega, ?_⟩) (fun hge => ?_)
    · rw [shr_nat (k := .u64) (by simp only [IntKind.bits]; omega), ← pow256]
      refine cnd_bne (fun hne => ?_) (fun he => ?_)
      · have : 256 ^ k ≤ v := by
          rcases Nat.lt_or_ge v (256 ^ k) with h | h
          · rw [Nat.div_eq_of_lt h] at hne; exact absurd rfl hne
          · exact h
        rw [putB, if_neg (by omega), Int.toNat_natCast, if_pos this]
        exact ⟨Own.nil _ _ _ _, rfl, Upd.refl _ _⟩
      · refine ⟨rfl, ?_⟩
        have h0 : v / 256 ^ k = 0 := by omega
        rcases Nat.div_eq_zero_iff.1 h0 with h | h
        · have : 0 < 256 ^ k := Nat.pow_pos (by decide)
          omega
        · exact h
    · have : k = 8 := by omega
      subst this
      exact ⟨rfl, by omega⟩
  rintro _ _ _ ⟨rfl, hfit⟩
  have hput : putB l v k = (l ++ leB k v, 0) := by rw [putB, if_neg (by omega), Int.toNat_natCast, if_neg (by omega)]
  have hcl := slices_Clone_byte_byte.spec hs (by omega)
  refine CallT.mono hcl ?_
  rintro o w1 ⟨ho, he, _⟩
  refine ⟨fun m x w' => ∃ i : Nat, x.1 = ((v / 256 ^ i : Nat) : Int) ∧ x.2.2 = i ∧ m = k - i ∧ i ≤ k ∧ OwnB w' w.heap.size x.2.1 (l ++ leB i v) ∧ Ext w w',
    ⟨_, 0, by simp, rfl, rfl, by omega, by simpa [leB] using ho, he⟩, ?_⟩
  rintro m ⟨u, o', i'⟩ j w' ⟨i, h1, h2, rfl, hik, ho', he'⟩
  dsimp only at h1 h2 ho' ⊢
  subst h1 h2
  refine cnd_dec (fun hlt => ?_) (fun hge => ?_)
  · have hol := ho'.lenB
    rw [List.length_append, leB_len] at hol
    have h8 := u8_of (v / 256 ^ i)
    rw [h8]
    refine app_new (vs := B8 [UInt8.ofNat (v / 256 ^ i)]) appB he' ho' rfl (B8_one _) (by omega) ?_
    intro s' w2 ho2 he2 _ _
    refine ⟨k - (i + 1), by omega, i + 1, ?_, by rw [i64_id] <;> omega, rfl, by omega, ?_, he2⟩
    · have e : v / 256 ^ i / 2 ^ 8 = v / 256 ^ (i + 1) := by rw [Nat.div_div_eq_div_mul, Nat.pow_succ 256 i]
      rw [show shr .u64 ((v / 256 ^ i : Nat) : Int) 8 = ((v / 256 ^ i / 2 ^ 8 : Nat) : Int) from shr_nat (k := .u64) (b := 8) (by decide), e]
    · rw [leB_succ, ← List.append_assoc, OwnB, B8_append (l ++ leB i v)]; exact ho2
  · have : i = k := by omega
    subst this
    rw [hput]
    exact ⟨ho', rfl, he'⟩

theorem or_add' {v x n : Nat} (h : v < 256 ^ n) : v ||| (x * 256 ^ n) = v + x * 256 ^ n := by
  rw [pow256] at h ⊢
  rw [Nat.mul_comm x, Nat.or_comm, ← Nat.two_pow_add_eq_or_of_lt h]; omega
theorem pow256_le {i : Nat} (h : i ≤ 7) : 256 ^ (i + 1) ≤ 2 ^ 64 := by
  have : 256 ^ (i + 1) ≤ 256 ^ 8 := Nat.pow_le_pow_right (by decide) (by omega)
  omega
theorem word_Get.spec {w : World} {s : SV} {l : List UInt8} (hs : RdB w s l) (hc : s.len ≤ s.cap) (hl : l.length ≤ 140737488351240) {a n : Int} (ha : -9223372036854775808 ≤ a ∧ a ≤ 9223372036854775807) (hn : -9223372036854775808 ≤ n ∧ n ≤ 9223372036854775807) :
    CallT [.one (.int .u64), .one (.int .i64)] Try.prog F.word_Get [.slice s.a s.len s.cap, .int .i64 a, .int .i64 n] w fun r w' => r = getB l a n ∧ Ext w w' := by
  refine word_Get.vc s a n w _ ?_
  have hsl := hs.lenB
  refine ⟨fun _ w' => w = w' ∧ ¬ (n < 1 ∨ n > 8 ∨ a < 0), ?_, ?_⟩
  · have bad : (n < 1 ∨ n > 8 ∨ a < 0) → ((0 : Int), (1 : Int)) = getB l a n ∧ Ext w w := fun h => by
      rw [getB, if_pos h]; exact ⟨rfl, Upd.refl _ _⟩
    exact cnd_dec (fun h => bad (.inl h)) fun h => cnd_dec (fun h => bad (.inr (.inl h))) fun h' => cnd_dec (fun h => bad (.inr (.inr h))) fun h'' => ⟨rfl, by omega⟩
  rintro _ _ _ ⟨rfl, hb⟩
  refine ⟨fun _ w' => w = w' ∧ ¬ (a > l.length ∨ (l.length : Int) - a < n), ?_, ?_⟩
  · have bad : (a > l.length ∨ (l.length : Int) - a < n) → ((0 : Int), (10 : Int)) = getB l a n ∧ Ext w w := fun h => by
      rw [getB, if_neg hb, if_pos h]; exact ⟨rfl, Upd.refl _ _⟩
    refine cnd_dec (fun h => bad (.inl (by omega))) fun h => ?_
    have : IntKind.i64.wrap ((s.len : Int) - a) = (l.length : Int) - a := by rw [i64_id] <;> omega
    rw [this]
    exact cnd_dec (fun h => bad (.inr h)) fun h' => ⟨rfl, by omega⟩
  rintro _ _ _ ⟨rfl, hb2⟩
  obtain ⟨i, rfl⟩ : ∃ k : Nat, a = k := ⟨a.toNat, by omega⟩
  obtain ⟨k, rfl⟩ : ∃ k : Nat, n = k := ⟨n.toNat, by omega⟩
  have hget : getB l i k = (((leV ((l.drop i).take k) : Nat) : Int), 0) := by rw [getB, if_neg hb, if_neg hb2]; rfl
  have hin : i + k ≤ l.length := by omega
  intro w1
  obtain ⟨e1, z1, b1⟩ := alloc_facts w (.cells #[.int .u64 0] T.uint64)
  intro w2
  obtain ⟨e2, z2, b2⟩ := alloc_facts w1 (.cells #[.int .i64 0] T.int)
  have g1 : w2.heap[w.heap.size]? = some (.cells #[.int .u64 0] T.uint64) := e2.get b1
  have g2 : w2.heap[w1.heap.size]? = some (.cells #[.int .i64 0] T.int) := b2
  have e12 : Ext w w2 := e1.tr e2
  have zz1 : w1.heap.size = w.heap.size + 1 := z1
  have zz2 : w2.heap.size = w1.heap.size + 1 := z2
  clear b1 b2 e1 e2 z1 z2
  clear_value w2
  clear_value w1
  refine set_ok (o := 0) g1 (by simp) ?_
  intro w3
  obtain ⟨u3, z3, h1, k3⟩ := set_facts (o := 0) g1 (.int .u64 0)
  have h2 : w3.heap[w1.heap.size]? = _ := (k3 _ (by omega)).trans g2
  have e3 : Ext w w3 := e12.trans u3 fun x hx e => by omega
  have z3 : w3.heap.size = w2.heap.size := z3
  have h1 : w3.heap[w.heap.size]? = some (.cells #[.int .u64 0] T.uint64) := h1
  clear_value w3
  clear u3 k3 g1 g2
  refine set_ok (o := 0) h2 (by simp) ?_
  intro w4
  obtain ⟨u4, z4, g2, k4⟩ := set_facts (o := 0) h2 (.int .i64 0)
  have g1 : w4.heap[w.heap.size]? = _ := (k4 _ (by omega)).trans h1
  have e4 : Ext w w4 := e3.trans u4 fun x hx e => by omega
  have z4 : w4.heap.size = w3.heap.size := z4
  have g2 : w4.heap[w1.heap.size]? = some (.cells #[.int .i64 0] T.int) := g2
  clear_value w4
  clear u4 k4 h1 h2
  refine walk_mkd (K := fun x w1 => _ ∧ _ ∧ _ ∧ _ ∧ CallT _ _ _ [.agg #[x], _, _] w1.drew _) ?_
  intro w5 e5 z5 _
  have h1 := e5.get g1
  have h2 := e5.get g2
  have e5 : Ext w w5 := e4.tr e5
  have hik : IntKind.i64.wrap ((i : Int) + (k : Int)) = ((i + k : Nat) : Int) := by rw [i64_id] <;> omega
  rw [hik]
  simp only [Int.toNat_natCast]
  refine ⟨by omega, by omega, by omega, by omega, ?_⟩
  have hsub : RdB w5.drew _ _ := ((hs.ext e5).drew).subB hc (i := i) (j := i + k) (by omega) hin
  rw [show i + k - i = k by omega] at hsub ⊢
  have hlen : ((l.drop i).take k).length = k := by rw [List.length_take, List.length_drop]; omega
  generalize hL : (l.drop i).take k = L at *
  clear e12 e3 e4
  have hover := word_walk_over.spec (x0 := .func (.func F.word_Get_1) #[] #[.pointer (some ⟨w.heap.size, 0, none⟩), .pointer (some ⟨w1.heap.size, 0, none⟩)]) (M := fun b => b = w.heap.size ∨ b = w1.heap.size)
    (fun j w' => w'.heap[w.heap.size]? = some (.cells #[.int .u64 (leV (L.take j) : Nat)] T.uint64) ∧ w'.heap[w1.heap.size]? = some (.cells #[.int .i64 ((8 * j : Nat) : Int)] T.int))
    (fun _ _ => False) 0 hsub (by omega) (by show ¬ (w5.heap.size = w.heap.size ∨ w5.heap.size = w1.heap.size); omega) ?_ (fun w' he => ⟨he.get h1, he.get h2⟩) ?_
  · refine CallT.mono hover ?_
    rintro ⟨j, r⟩ w' ⟨hu, m, hm, hr⟩
    cases r with
    | false => exact hr.2.elim
    | true =>
      obtain ⟨rfl, c1, _⟩ := hr
      refine ⟨_, cell_blk c1, ?_, ?_⟩
      · rw [hget, Nat.zero_max, List.take_length]
      · exact (e5.drew).trans hu fun x hx hM => by omega
  · intro hne b hb hM
    have := (hs.sub hc (i := i) (j := i + k) (by omega) (by omega)).lt ?_ b ?_
    · omega
    · intro h
      have := congrArg List.length h
      rw [(hs.sub hc (i := i) (j := i + k) (by omega) (by omega)).len] at this
      simp at this
      omega
    · rw [show i + k - i = k by omega]; exact hb
  · rintro j b w' hb hu hsz ⟨c1, c2⟩
    have hjk : j < k := by have := (List.getElem?_eq_some_iff.1 hb).1; omega
    refine word_Get_1.vc b.toNat _ _ w'.drew _ ?_
    have d1 : w'.drew.drew.heap[w.heap.size]? = _ := c1
    have d2 : w'.drew.drew.heap[w1.heap.size]? = _ := c2
    refine ⟨_, cell_blk d1, _, cell_blk d2, by omega, set_ok (o := 0) d1 (by simp) ?_⟩
    have hlt : leV (L.take j) < 256 ^ j := by have := leV_lt (L.take j); rwa [List.length_take, Nat.min_eq_left (by omega)] at this
    have hb256 := b.toNat_lt
    have hp : b.toNat * 256 ^ j + 256 ^ j ≤ 256 ^ (j + 1) := by
      rw [Nat.pow_succ]
      have := Nat.mul_le_mul_right (256 ^ j) (show b.toNat + 1 ≤ 256 by omega)
      rw [Nat.add_mul, Nat.one_mul] at this
      omega
    have hj64 := pow256_le (i := j) (by omega)
    have hv : bor .u64 ((leV (L.take j) : Nat) : Int) (shl .u64 (IntKind.u64.wrap (b.toNat : Int)) ((8 * j : Nat) : Int)) = ((leV (L.take (j + 1)) : Nat) : Int) := by
      have hm : b.toNat * 2 ^ (8 * j) % 2 ^ IntKind.u64.bits = b.toNat * 256 ^ j := by
        rw [← pow256]; apply Nat.mod_eq_of_lt; simp only [IntKind.bits]; omega
      rw [u64_id (x := b.toNat) (by omega) (by omega), shl_nat (k := .u64) rfl (by simp only [IntKind.bits]; omega), hm,
        bor_nat (k := .u64) rfl (by simp only [IntKind.bits]; omega) (by simp only [IntKind.bits]; omega), or_add' hlt, List.take_add_one, hb, Option.toList_some, leV_snoc, List.length_take, Nat.min_eq_left (by omega)]
    rw [hv]
    intro x1
    obtain ⟨u1, _, k1, kk⟩ := set_facts (o := 0) d1 (.int .u64 ((leV (L.take (j + 1)) : Nat) : Int))
    have k2 : x1.heap[w1.heap.size]? = _ := (kk _ (by omega)).trans d2
    have k1 : x1.heap[w.heap.size]? = some (.cells #[.int .u64 ((leV (L.take (j + 1)) : Nat) : Int)] T.uint64) := k1
    have u1 : Upd (fun b => b = w.heap.size ∨ b = w1.heap.size) w' x1 := ((Upd.refl _ w').drew.drew).trans u1 fun _ _ h => .inl h
    clear_value x1
    refine ⟨_, cell_blk k2, set_ok (o := 0) k2 (by simp) ?_⟩
    have h8 : IntKind.i64.wrap (((8 * j : Nat) : Int) + 8) = ((8 * (j + 1) : Nat) : Int) := by rw [i64_id] <;> omega
    rw [h8]
    obtain ⟨u2, _, m2, mm⟩ := set_facts (o := 0) k2 (.int .i64 ((8 * (j + 1) : Nat) : Int))
    exact ⟨u1.trans u2 fun _ _ h => .inr h, (mm _ (by omega)).trans k1, m2⟩
theorem dunnageref01_Get.spec {w : World} {s : SV} {l : List UInt8} (hs : RdB w s l) (hl : l.length ≤ 140737488351240) {a n : Int} (ha : -9223372036854775808 ≤ a ∧ a ≤ 9223372036854775807) (hn : -9223372036854775808 ≤ n ∧ n ≤ 9223372036854775807) :
    CallT [.one (.int .u64), .one (.int .i64)] Try.prog F.dunnageref01_Get [.slice s.a s.len s.cap, .int .i64 a, .int .i64 n] w fun r w' => r = getB l a n ∧ w = w' := by
  refine dunnageref01_Get.vc s a n w _ ?_
  have hsl := hs.lenB
  refine ⟨fun _ w' => w = w' ∧ ¬ (n < 1 ∨ n > 8 ∨ a < 0), ?_, ?_⟩
  · have bad : (n < 1 ∨ n > 8 ∨ a < 0) → ((0 : Int), (1 : Int)) = getB l a n ∧ w = w := fun h => by
      rw [getB, if_pos h]; exact ⟨rfl, rfl⟩
    exact cnd_dec (fun h => bad (.inl h)) fun h => cnd_dec (fun h => bad (.inr (.inl h))) fun h' => cnd_dec (fun h => bad (.inr (.inr h))) fun h'' => ⟨rfl, by omega⟩
  rintro _ _ _ ⟨rfl, hb⟩
  refine ⟨fun _ w' => w = w' ∧ ¬ (a > l.length ∨ (l.length : Int) - a < n), ?_, ?_⟩
  · have bad : (a > l.length ∨ (l.length : Int) - a < n) → ((0 : Int), (10 : Int)) = getB l a n ∧ w = w := fun h => by
      rw [getB, if_neg hb, if_pos h]; exact ⟨rfl, rfl⟩
    refine cnd_dec (fun h => bad (.inl (by omega))) fun h => ?_
    have : IntKind.i64.wrap ((s.len : Int) - a) = (l.length : Int) - a := by rw [i64_id] <;> omega
    rw [this]
    exact cnd_dec (fun h => bad (.inr h)) fun h' => ⟨rfl, by omega⟩
  rintro _ _ _ ⟨rfl, hb2⟩
  obtain ⟨i, rfl⟩ : ∃ k : Nat, a = k := ⟨a.toNat, by omega⟩
  obtain ⟨k, rfl⟩ : ∃ k : Nat, n = k := ⟨n.toNat, by omega⟩
  have hget : getB l i k = (((leV ((l.drop i).take k) : Nat) : Int), 0) := by rw [getB, if_neg hb, if_neg hb2]; rfl
  have hin : i + k ≤ l.length := by omega
  have hlen : ((l.drop i).take k).length = k := by rw [List.length_take, List.length_drop]; omega
  refine ⟨fun m x w' => ∃ j : Nat, j ≤ k ∧ m = j ∧ w = w' ∧ x.2 = (j : Int) - 1 ∧ x.1 = ((leV (((l.drop i).take k).drop j) : Nat) : Int), ⟨k, k, by omega, rfl, rfl, by rw [i64_id] <;> omega, by rw [List.drop_eq_nil_of_le (by omega)]; rfl⟩, ?_⟩
  rintro m ⟨u, c⟩ j' _ ⟨j, hjk, rfl, rfl, h2, h1⟩
  dsimp only at h1 h2 ⊢
  subst h1 h2
  refine cnd_dec (fun hge => ?_) (fun hlt => ?_)
  · obtain ⟨j, rfl⟩ : ∃ q, m = q + 1 := ⟨m - 1, by omega⟩
    have h9 : IntKind.i64.wrap ((i : Int) + (((j + 1 : Nat) : Int) - 1)) = ((i + j : Nat) : Int) := by rw [i64_id] <;> omega
    rw [h9]
    have hil : i + j < l.length := by omega
    simp only [Int.toNat_natCast]
    refine ⟨by omega, by omega, SV.getB hs hil fun A hA => ⟨(l[i + j]).toNat, hs.cellB (List.getElem?_eq_getElem hil) hA, j, by omega, j, by omega, rfl, trivial, by rw [i64_id] <;> omega, ?_⟩⟩
    have hj : j < ((l.drop i).take k).length := by omega
    have hdr : ((l.drop i).take k).drop j = l[i + j] :: ((l.drop i).take k).drop (j + 1) := by
      rw [List.drop_eq_getElem_cons hj]
      congr 1
      simp
    rw [hdr, leV]
    have hb256 := (l[i + j]).toNat_lt
    have hlt := leV_lt (((l.drop i).take k).drop (j + 1))
    rw [List.length_drop, hlen] at hlt
    have h7 : 256 ^ (k - (j + 1)) ≤ 256 ^ 7 := Nat.pow_le_pow_right (by decide) (by omega)
    generalize leV (((l.drop i).take k).drop (j + 1)) = V at *
    generalize (l[i + j]).toNat = c at *
    have hV : V < 256 ^ 7 := by omega
    have hm : V * 2 ^ 8 % 2 ^ IntKind.u64.bits = V * 2 ^ 8 := by apply Nat.mod_eq_of_lt; simp only [IntKind.bits]; omega
    rw [show shl .u64 (V : Int) 8 = ((V * 2 ^ 8 % 2 ^ IntKind.u64.bits : Nat) : Int) from shl_nat (k := .u64) (b := 8) rfl (by decide), hm, u64_id (x := c) (by omega) (by omega),
      bor_nat (k := .u64) rfl (by simp only [IntKind.bits]; omega) (by simp only [IntKind.bits]; omega)]
    have : V * 2 ^ 8 ||| c = c + 256 * V := by
      rw [Nat.mul_comm, ← Nat.two_pow_add_eq_or_of_lt (by omega)]; omega
    rw [this]
  · have : m = 0 := by omega
    subst this
    rw [List.drop_zero, hget]
    exact ⟨rfl, rfl⟩
end Go.Proofs
/- What turned bits do to the sum of chapter 02. Conditions: those of each lemma. -/
namespace Go.Proofs
open Go Go.Vc Go.Crc
theorem half_zero {c : Nat} (hc : c < 2 ^ 32) (h : half c = 0) : c = 0 := by
  unfold half at h
  split at h
  · have : c / 2 = P := by
      have h1 := congrArg (· ^^^ P) h
      simp only [Nat.xor_assoc, Nat.xor_self, Nat.xor_zero, Nat.zero_xor] at h1
      exact h1
    unfold P at this
    omega
  · rw [Nat.xor_zero] at h; omega
theorem hn_zero : ∀ (n : Nat) {c : Nat}, c < 2 ^ 32 → Crc.hn n c = 0 → c = 0
  | 0, _, _, h => h
  | n + 1, _, hc, h => half_zero hc (hn_zero n (half_lt hc) h)
theorem hn_inj (n : Nat) {a b : Nat} (ha : a < 2 ^ 32) (hb : b < 2 ^ 32) (h : Crc.hn n a = Crc.hn n b) : a = b := by
  have h1 : Crc.hn n (a ^^^ b) = 0 := by rw [(Crc.hn_lin n).x, h, Nat.xor_self]
  have h2 := hn_zero n (Nat.xor_lt_two_pow ha hb) h1
  have h3 := congrArg (· ^^^ b) h2
  simpa [Nat.xor_assoc] using h3
theorem X_ne (k : Nat) : X k ≠ 0 := fun h => by have := hn_zero k (by decide) h; exact absurd this (by decide)
/-! ### the order -/
/-! ### how many ones -/
def par (c : Nat) : Nat := xs 32 fun i => (c.testBit i).toNat
theorem par_lin : Lin par := by
  refine Lin.sum (g := fun i c => (c.testBit i).toNat) (fun i => ?_) 32
  refine ⟨by simp, fun a b => ?_⟩
  rw [Nat.testBit_xor]
  cases a.testBit i <;> cases b.testBit i <;> rfl
theorem par_half {c : Nat} (hc : c < 2 ^ 32) : par (half c) = par c := by
  refine lin_ext (f := fun c => par (half c)) (g := par) (par_lin.comp half_lin) par_lin ?_ hc
  decide +kernel
theorem par_X (k : Nat) : par (X k) = 1 := by
  have key : ∀ (k : Nat) {c : Nat}, c < 2 ^ 32 → par (Crc.hn k c) = par c := by
    intro k
    induction k with
    | zero => intro c _; rfl
    | succ k ih => intro c hc; rw [Crc.hn, ih (half_lt hc), par_half hc]
  rw [X, key k (by decide)]
  decide +kernel
theorem X_three (a b c : Nat) : X a ^^^ X b ^^^ X c ≠ 0 := fun h => by
  have := congrArg par h
  rw [par_lin.x, par_lin.x, par_X, par_X, par_X, par_lin.z] at this
  exact absurd this (by decide)
/-! ### a turned bit -/
def turn1 (l : List UInt8) (k : Int) : List UInt8 := if 0 ≤ k ∧ k / 8 < l.length then l.set (k / 8).toNat (l.getD (k / 8).toNat 0 ^^^ UInt8.ofNat (2 ^ (k % 8).toNat)) else l
def turns (l : List UInt8) (ks : List Int) : List UInt8 := ks.foldl turn1 l
theorem turn1_len (l : List UInt8) (k : Int) : (turn1 l k).length = l.length := by unfold turn1; split <;> simp
theorem turns_len : ∀ (ks : List Int) (l : List UInt8), (turns l ks).length = l.length
  | [], _ => rfl
  | k :: r, l => by
    show (turns (turn1 l k) r).length = _
    rw [turns_len r, turn1_len]
/-- The sum's change by one bit. -/
def er (n : Nat) (k : Int) : Nat := if 0 ≤ k ∧ k < 8 * n then X (8 * n + 31 - k.toNat) else 0
theorem raw_set {l : List UInt8} {i : Nat} (hi : i < l.length) (d : UInt8) (s : Nat) : raw s (l.set i (l[i] ^^^ d)) = raw s l ^^^ Crc.hn (8 * (l.length - i)) d.toNat := by
  have e1 : l = l.take i ++ (l[i] :: l.drop (i + 1)) := by rw [List.getElem_cons_drop, List.take_append_drop]
  have e2 : l.set i (l[i] ^^^ d) = l.take i ++ ((l[i] ^^^ d) :: l.drop (i + 1)) := by rw [List.set_eq_take_append_cons_drop, if_pos hi]
  rw [e2, raw_append]
  conv => rhs; lhs; rw [e1, raw_append]
  rw [raw, raw, raw_split (l.drop (i + 1)), raw_split (l.drop (i + 1)) (Crc.hn 8 (raw s (l.take i) ^^^ (l[i]).toNat)), UInt8.toNat_xor, ← Nat.xor_assoc, (Crc.hn_lin 8).x _ d.toNat, (Crc.hn_lin _).x, ← Crc.hn_add, ← Crc.hn_add, List.length_drop]
  rw [show 8 * (l.length - (i + 1)) + 8 = 8 * (l.length - i) by omega, Nat.xor_assoc, Nat.xor_comm (Crc.hn (8 * (l.length - i)) d.toNat), ← Nat.xor_assoc]
theorem raw_turn1 (l : List UInt8) (k : Int) (s : Nat) : raw s (turn1 l k) = raw s l ^^^ er l.length k := by
  unfold turn1 er
  by_cases h : 0 ≤ k ∧ k / 8 < l.length
  · rw [if_pos h, if_pos (by omega)]
    obtain ⟨q, rfl⟩ : ∃ q : Nat, k = q := ⟨k.toNat, by omega⟩
    have h1 : ((q : Int) / 8).toNat = q / 8 := by omega
    have h2 : ((q : Int) % 8).toNat = q % 8 := by omega
    have hi : q / 8 < l.length := by omega
    have hg : l.getD (q / 8) 0 = l[q / 8] := by simp [List.getD, hi]
    rw [h1, h2, hg, raw_set hi, Int.toNat_natCast]
    congr 1
    have h3 : (UInt8.ofNat (2 ^ (q % 8))).toNat = 2 ^ (q % 8) := by
      rw [UInt8.toNat_ofNat']
      apply Nat.mod_eq_of_lt
      exact Nat.pow_lt_pow_right (by decide) (by omega)
    rw [h3, pow_X _ (by omega), X, X, ← Crc.hn_add]
    congr 1
    omega
  · rw [if_neg h, if_neg (by omega), Nat.xor_zero]
def ers (n : Nat) (ks : List Int) : Nat := ks.foldl (fun a k => a ^^^ er n k) 0
theorem raw_turns : ∀ (ks : List Int) (l : List UInt8) (s : Nat), raw s (turns l ks) = raw s l ^^^ ers l.length ks := by
  have key : ∀ (ks : List Int) (l : List UInt8) (s a : Nat), raw s (turns l ks) ^^^ a = raw s l ^^^ ks.foldl (fun a k => a ^^^ er l.length k) a := by
    intro ks
    induction ks with
    | nil => intro l s a; rfl
    | cons k r ih =>
      intro l s a
      show raw s (turns (turn1 l k) r) ^^^ a = _
      have h1 := ih (turn1 l k) s (a ^^^ er l.length k)
      rw [turn1_len] at h1
      rw [List.foldl_cons]
      have h2 : raw s (turns (turn1 l k) r) ^^^ (a ^^^ er l.length k) ^^^ er l.length k = raw s (turns (turn1 l k) r) ^^^ a := by
        rw [Nat.xor_assoc, Nat.xor_assoc, Nat.xor_self, Nat.xor_zero]
      rw [← h2, h1, raw_turn1, Nat.xor_assoc, Nat.xor_assoc]
      congr 1
      rw [Nat.xor_comm (List.foldl _ _ _), ← Nat.xor_assoc, Nat.xor_self, Nat.zero_xor]
  intro ks l s
  have := key ks l s 0
  rwa [Nat.xor_zero] at this
/-! ### bytes with their sum behind them -/
def behindB (l : List UInt8) : List UInt8 := l ++ leB 4 (more 0 l)
def rightB (x : List UInt8) : Bool := if x.length < 4 then false else behindB (x.take (x.length - 4)) == x
theorem raw4 (s : Nat) (q : List UInt8) (h : q.length = 4) : raw s q = Crc.hn 32 (s ^^^ leV q) := by
  match q, h with
  | [a, b, c, d], _ =>
    have hh : ∀ (m : Nat) (u : Nat), Crc.hn 8 (256 * u) = u ∧ True := fun _ u => by
      refine ⟨?_, trivial⟩
      have h0 : ∀ u, half (2 * u) = u := fun u => by unfold half; rw [if_neg (by omega), Nat.xor_zero]; omega
      show half (half (half (half (half (half (half (half (256 * u)))))))) = u
      rw [show 256 * u = 2 * (2 * (2 * (2 * (2 * (2 * (2 * (2 * u))))))) by omega, h0, h0, h0, h0, h0, h0, h0, h0]
    have hx : ∀ (c : UInt8) (u : Nat), c.toNat + 256 * u = c.toNat ^^^ (256 * u) := fun c u => by
      have hc := c.toNat_lt
      rw [Nat.add_comm, show 256 * u = 2 ^ 8 * u from rfl, Nat.two_pow_add_eq_or_of_lt hc]
      apply Nat.eq_of_testBit_eq
      intro i
      rw [Nat.testBit_or, Nat.testBit_xor, Nat.testBit_two_pow_mul]
      by_cases hi : 8 ≤ i
      · have : c.toNat.testBit i = false := Nat.testBit_lt_two_pow (Nat.lt_of_lt_of_le hc (Nat.pow_le_pow_right (by decide) hi))
        simp [this]
      · simp [hi]
    have step : ∀ (s : Nat) (c : UInt8) (u m : Nat), Crc.hn (m + 8) (s ^^^ (c.toNat + 256 * u)) = Crc.hn m (Crc.hn 8 (s ^^^ c.toNat) ^^^ u) := fun s c u m => by
      rw [hx, ← Nat.xor_assoc, Crc.hn_add, (Crc.hn_lin 8).x, (hh 0 u).1]
    simp only [raw, leV]
    rw [show (32 : Nat) = 24 + 8 from rfl, step, show (24 : Nat) = 16 + 8 from rfl, step, show (16 : Nat) = 8 + 8 from rfl, step, show (8 : Nat) = 0 + 8 from rfl, step]
    rw [Nat.xor_zero]; rfl
theorem right_iff {x : List UInt8} (h : 4 ≤ x.length) : rightB x = true ↔ raw M x = Crc.hn 32 M := by
  have hp := List.take_append_drop (x.length - 4) x
  have hq : (x.drop (x.length - 4)).length = 4 := by rw [List.length_drop]; omega
  generalize hpe : x.take (x.length - 4) = p at *
  generalize hqe : x.drop (x.length - 4) = q at *
  have hml := more_lt (s := 0) (by decide) p
  have hr := raw_lt p (s := M) (by decide)
  have hlq := leV_lt q
  rw [hq] at hlq
  have e1 : rightB x = true ↔ leB 4 (more 0 p) = q := by
    rw [rightB, if_neg (by omega), hpe, beq_iff_eq, behindB]
    conv => lhs; rhs; rw [← hp]
    exact List.append_right_inj p
  rw [e1]
  conv => rhs; lhs; rw [← hp, raw_append, raw4 _ q hq]
  have e2 : leB 4 (more 0 p) = q ↔ more 0 p = leV q := by
    constructor
    · intro h
      have := congrArg leV h
      rwa [leV_leB, Nat.mod_eq_of_lt hml] at this
    · intro h
      have := leB_leV q
      rw [hq] at this
      rw [h, this]
  rw [e2]
  have hm : more 0 p = raw M p ^^^ M := by simp [more]
  rw [hm]
  constructor
  · intro h
    congr 1
    rw [← h, ← Nat.xor_assoc, Nat.xor_self, Nat.zero_xor]
  · intro h
    have := hn_inj 32 (Nat.xor_lt_two_pow hr hlq) (by decide) h
    have h2 := congrArg (raw M p ^^^ ·) this
    simp only [← Nat.xor_assoc, Nat.xor_self, Nat.zero_xor] at h2
    exact h2.symm
theorem right_behind (l : List UInt8) : rightB (behindB l) = true := by
  have hl : (behindB l).length = l.length + 4 := by rw [behindB, List.length_append, leB_len]
  rw [rightB, if_neg (by omega), hl, show l.length + 4 - 4 = l.length by omega]
  have : (behindB l).take l.length = l := by rw [behindB, List.take_left']; rfl
  rw [this]; simp
theorem right_turned {x : List UInt8} (h4 : 4 ≤ x.length) (h : rightB x = true) (ks : List Int) (hk : ers x.length ks ≠ 0) : rightB (turns x ks) = false := by
  cases hr : rightB (turns x ks) with
  | false => rfl
  | true =>
    rw [right_iff (by rw [turns_len]; exact h4), raw_turns, (right_iff h4).1 h] at hr
    exfalso
    apply hk
    have := congrArg (Crc.hn 32 M ^^^ ·) hr
    simpa [← Nat.xor_assoc] using this
theorem er_X {n k : Nat} (h : k < 8 * n) : er n k = X (8 * n + 31 - k) := by rw [er, if_pos (by omega), Int.toNat_natCast]
theorem ers1 {n i : Nat} (hi : i < 8 * n) : ers n [(i : Int)] ≠ 0 := by
  simp only [ers, List.foldl_cons, List.foldl_nil, Nat.zero_xor]
  rw [er_X hi]; exact X_ne _
theorem ers3 {n i j k : Nat} (hi : i < 8 * n) (hj : j < 8 * n) (hk : k < 8 * n) : ers n [(i : Int), (j : Int), (k : Int)] ≠ 0 := by
  simp only [ers, List.foldl_cons, List.foldl_nil, Nat.zero_xor]
  rw [er_X hi, er_X hj, er_X hk]
  exact X_three _ _ _
end Go.Proofs
/- What a sealed sector is, and what any bytes are as one. Conditions: those that each lemma names. -/
namespace Go.Proofs
open Go Go.Vc Go.Crc
def knownK (k : UInt8) : Bool := k == 23 || k == 43 || k == 77 || k == 142 || k == 113 || k == 178
/-- The bytes of a sector ahead of its sum. -/
def secH (k : UInt8) (t : Nat) (p : List UInt8) : List UInt8 := [k, 0] ++ leB 2 p.length ++ leB 8 t ++ p ++ List.replicate (496 - p.length) 0
def sealB (k : UInt8) (t : Nat) (p : List UInt8) : List UInt8 := behindB (secH k t p)
def sealR (k : UInt8) (t : Nat) (p : List UInt8) : List UInt8 × Int := if knownK k = false then ([], 1) else if 496 < p.length then ([], 4) else (sealB k t p, 0)
abbrev SecR := (UInt8 × Nat × List UInt8) × Int
def openR (b : List UInt8) : SecR :=
  if b.length ≠ 512 then ((0, 0, []), 1)
  else if allZ b = true then ((0, 0, []), 0)
  else if rightB b = false then ((0, 0, []), 30)
  else if knownK (b.getD 0 0) = false ∨ b.getD 1 0 ≠ 0 ∨ 496 < leV ((b.drop 2).take 2) ∨ allZ ((b.drop (12 + leV ((b.drop 2).take 2))).take (496 - leV ((b.drop 2).take 2))) = false then ((0, 0, []), 11)
  else ((b.getD 0 0, leV ((b.drop 4).take 8), (b.drop 12).take (leV ((b.drop 2).take 2))), 0)
theorem secH_len {k : UInt8} {t : Nat} {p : List UInt8} (h : p.length ≤ 496) : (secH k t p).length = 508 := by
  simp only [secH, List.length_append, leB_len, List.length_replicate, List.length_cons, List.length_nil]; omega
theorem sealB_len {k : UInt8} {t : Nat} {p : List UInt8} (h : p.length ≤ 496) : (sealB k t p).length = 512 := by
  rw [sealB, behindB, List.length_append, leB_len, secH_len h]
theorem known_ne {k : UInt8} (h : knownK k = true) : k ≠ 0 := by rintro rfl; exact absurd h (by decide)
theorem sealB_eq {k : UInt8} {t : Nat} {p : List UInt8} : sealB k t p = k :: 0 :: (leB 2 p.length ++ (leB 8 t ++ (p ++ (List.replicate (496 - p.length) 0 ++ leB 4 (more 0 (secH k t p)))))) := by
  simp [sealB, behindB, secH, List.append_assoc]
theorem open_seal {k : UInt8} {t : Nat} {p : List UInt8} (hk : knownK k = true) (hp : p.length ≤ 496) (ht : t < 2 ^ 64) : openR (sealB k t p) = ((k, t, p), 0) := by
  have h512 := sealB_len (k := k) (t := t) hp
  have hr : rightB (sealB k t p) = true := right_behind _
  have h0 : (sealB k t p).getD 0 0 = k := by rw [sealB_eq]; rfl
  have h1 : (sealB k t p).getD 1 0 = 0 := by rw [sealB_eq]; rfl
  have hz : allZ (sealB k t p) = false := by
    rw [sealB_eq, allZ, List.all_cons]
    have := known_ne hk
    simp [this]
  have d2 : ((sealB k t p).drop 2).take 2 = leB 2 p.length := by
    rw [sealB_eq]
    simp only [List.drop_succ_cons, List.drop_zero]
    rw [List.take_left' (leB_len _ _)]
  have hn : leV (leB 2 p.length) = p.length := by rw [leV_leB, Nat.mod_eq_of_lt (by omega)]
  have d4 : ((sealB k t p).drop 4).take 8 = leB 8 t := by
    rw [sealB_eq]
    simp only [List.drop_succ_cons]
    rw [List.drop_left' (leB_len _ _), List.take_left' (leB_len _ _)]
  have d12 : (sealB k t p).drop 12 = p ++ (List.replicate (496 - p.length) 0 ++ leB 4 (more 0 (secH k t p))) := by
    rw [sealB_eq, show (12 : Nat) = 2 + 8 + 1 + 1 from rfl]
    simp only [List.drop_succ_cons]
    rw [← List.drop_drop, List.drop_left' (leB_len _ _), List.drop_left' (leB_len _ _)]
  have dn : ((sealB k t p).drop (12 + p.length)).take (496 - p.length) = List.replicate (496 - p.length) 0 := by
    rw [← List.drop_drop, d12, List.drop_left' rfl, List.take_left' (by simp)]
  rw [openR, if_neg (by omega), if_neg (by rw [hz]; simp), if_neg (by rw [hr]; simp), d2, hn, d4, h0, h1, dn, if_neg]
  · rw [d12, List.take_left' rfl, leV_leB, Nat.mod_eq_of_lt (by omega)]
  · rw [hk]
    simp [allZ]
    omega
theorem open_ok_turn {b : List UInt8} : (openR b).1.2.1 < 2 ^ 64 := by
  unfold openR
  split
  · simp
  split
  · simp
  split
  · simp
  split
  · simp
  · have := leV_lt ((b.drop 4).take 8)
    have h2 : ((b.drop 4).take 8).length ≤ 8 := by simp; omega
    have h3 : 256 ^ ((b.drop 4).take 8).length ≤ 256 ^ 8 := Nat.pow_le_pow_right (by decide) h2
    show leV _ < _
    omega
theorem open_pay_len {b : List UInt8} : (openR b).1.2.2.length ≤ 496 := by
  unfold openR
  split
  · simp
  split
  · simp
  split
  · simp
  split
  · simp
  · rename_i h
    show (List.take _ _).length ≤ 496
    rw [List.length_take]
    simp only [not_or] at h
    omega
end Go.Proofs
/- Slices of structs: what reads as so many things, each of sz cells. Conditions: those that each lemma names. -/
namespace Go.Vc
open Go
theorem flat_len {α : Type} {enc : α → List Value} {sz : Nat} (h : ∀ x, (enc x).length = sz) (l : List α) : (l.flatMap enc).length = l.length * sz := by
  induction l with
  | nil => simp
  | cons x r ih => simp [h, ih, Nat.add_mul]; omega
theorem flat_get {α : Type} {enc : α → List Value} {sz : Nat} (h : ∀ x, (enc x).length = sz) : ∀ (l : List α) (i k : Nat), k < sz → (l.flatMap enc)[i * sz + k]? = (l[i]?).bind fun x => (enc x)[k]?
  | [], i, k, _ => by simp
  | x :: r, 0, k, hk => by
    simp only [Nat.zero_mul, Nat.zero_add, List.flatMap_cons, List.getElem?_cons_zero, Option.bind_some]
    rw [List.getElem?_append_left (by rw [h]; exact hk)]
  | x :: r, i + 1, k, hk => by
    simp only [List.flatMap_cons, List.getElem?_cons_succ]
    rw [List.getElem?_append_right (by rw [h, Nat.add_mul]; omega), h, show (i + 1) * sz + k - sz = i * sz + k by rw [Nat.add_mul]; omega, flat_get h r i k hk]
theorem flat_take {α : Type} {enc : α → List Value} (l : List α) (n : Nat) {sz : Nat} (h : ∀ x, (enc x).length = sz) : (l.flatMap enc).take (n * sz) = (l.take n).flatMap enc := by
  induction l generalizing n with
  | nil => simp
  | cons x r ih =>
    cases n with
    | zero => simp
    | succ n =>
      simp only [List.flatMap_cons, List.take_succ_cons]
      rw [List.take_append, h, List.take_of_length_le (by rw [h, Nat.add_mul]; omega), show (n + 1) * sz - sz = n * sz by rw [Nat.add_mul]; omega, ih]
/-- A slice that reads as these things. -/
structure RdS {α : Type} (enc : α → List Value) (sz : Nat) (w : World) (s : SV) (l : List α) : Prop where
  rd : Rd w sz s (l.flatMap enc)
  esz : ∀ x, (enc x).length = sz
  pos : 0 < sz
structure OwnS {α : Type} (enc : α → List Value) (sz : Nat) (T : TypeId) (w : World) (B : Nat) (s : SV) (l : List α) : Prop where
  own : Own w B T sz s (l.flatMap enc)
  esz : ∀ x, (enc x).length = sz
  pos : 0 < sz
variable {α : Type} {enc : α → List Value} {sz : Nat} {w w' : World} {s : SV} {l : List α} {T : TypeId} {B : Nat}
theorem OwnS.rd (h : OwnS enc sz T w B s l) : RdS enc sz w s l := ⟨h.own.rd, h.esz, h.pos⟩
theorem RdS.len (h : RdS enc sz w s l) : s.len = l.length := by
  have := h.rd.len
  rw [flat_len h.esz] at this
  exact (Nat.eq_of_mul_eq_mul_right h.pos this).symm
theorem OwnS.len (h : OwnS enc sz T w B s l) : s.len = l.length := h.rd.len
theorem RdS.ext (h : RdS enc sz w s l) (hu : Ext w w') : RdS enc sz w' s l := ⟨h.rd.ext hu, h.esz, h.pos⟩
theorem OwnS.ext (h : OwnS enc sz T w B s l) (hu : Ext w w') : OwnS enc sz T w' B s l := ⟨h.own.ext hu, h.esz, h.pos⟩
theorem RdS.keep {M : Nat → Prop} (h : RdS enc sz w s l) (hu : Upd M w w') (hm : ∀ b, b < w.heap.size → s.blk b → ¬ M b) : RdS enc sz w' s l := ⟨h.rd.keep hu hm, h.esz, h.pos⟩
theorem RdS.at_ (h : RdS enc sz w s l) {i : Nat} {x : α} (hx : l[i]? = some x) {A : Addr} (hA : s.a = some A) : cellsAt w (A.add (i * sz)) (enc x) := by
  intro k v hv
  have hk : k < sz := by have := (List.getElem?_eq_some_iff.1 hv).1; rw [h.esz] at this; exact this
  rw [add_add]
  refine h.rd.at_ A hA _ v ?_
  rw [flat_get h.esz l i k hk, hx, Option.bind_some, hv]
theorem RdS.fld (h : RdS enc sz w s l) {i : Nat} {x : α} (hx : l[i]? = some x) {A : Addr} (hA : s.a = some A) {k : Nat} {v : Value} (hv : (enc x)[k]? = some v) : w.cell? ((A.add (i * sz)).add k) = some v := h.at_ hx hA k v hv
theorem RdS.get (h : RdS enc sz w s l) {i : Nat} (hi : i < l.length) {K : Addr → Prop} (hk : ∀ A, s.a = some A → K A) : onP s.a K := by
  cases hA : s.a with
  | none => have := h.rd.nil hA; rw [h.len] at this; omega
  | some A => exact hk A hA
theorem RdS.nil (hs : ∀ x, (enc x).length = sz) (hp : 0 < sz) (w : World) (c : Nat) : RdS enc sz w ⟨none, 0, c⟩ [] := ⟨Rd.nil' _ _ _, hs, hp⟩
theorem OwnS.nil (hs : ∀ x, (enc x).length = sz) (hp : 0 < sz) (w : World) (B : Nat) (T : TypeId) : OwnS enc sz T w B ⟨none, 0, 0⟩ [] := ⟨Own.nil _ _ _ _, hs, hp⟩
/-- A slice of flat structs, as its shape tells it. -/
theorem DS.flat {bd : TypeId → Nat → Prop} {bs : Nat → Prop} {e : TypeId} {n : Nat} {d : DS} {a : Option Addr} {len cap : Nat} (good : α → Prop) (h : DS.rel w bd bs (.slice e n d) [.slice a len cap])
    (hs : ∀ x, (enc x).length = n) (hp : 0 < n) (hd : ∀ es, es.length = n → d.rel w bd bs es → ∃ x, enc x = es ∧ good x) :
    ∃ l : List α, RdS enc n w ⟨a, len, cap⟩ l ∧ len ≤ cap ∧ (cap = 0 ∨ bd e cap) ∧ ∀ x ∈ l, good x := by
  obtain ⟨a', len', cap', he, h⟩ := h
  simp only [List.cons.injEq, Value.slice.injEq, and_true] at he
  obtain ⟨rfl, rfl, rfl⟩ := he
  rcases h with ⟨rfl, rfl, rfl⟩ | ⟨A, rfl, hle, hb, hc⟩
  · exact ⟨[], RdS.nil hs hp w 0, Nat.le_refl _, .inl rfl, by simp⟩
  · have hx : ∀ i : Fin len, ∃ x, cellsAt w (A.add (i.val * n)) (enc x) ∧ good x := fun i => by
      obtain ⟨es, h1, h2, h3⟩ := hc i.val (by omega)
      obtain ⟨x, rfl, hg⟩ := hd es h1 h3
      exact ⟨x, h2, hg⟩
    let f := fun i => Classical.choose (hx i)
    have hf := fun i => Classical.choose_spec (hx i)
    refine ⟨List.ofFn f, ⟨⟨?_, fun h => by simp at h, ?_⟩, hs, hp⟩, hle, .inr hb, ?_⟩
    · rw [flat_len hs, List.length_ofFn]
    · intro A' hA
      obtain rfl := Option.some.inj hA
      intro j v hv
      have hj : j < len * n := by have := (List.getElem?_eq_some_iff.1 hv).1; rw [flat_len hs, List.length_ofFn] at this; exact this
      have hdm : j = j / n * n + j % n := by rw [Nat.mul_comm]; exact (Nat.div_add_mod j n).symm
      have hjn : j / n < len := Nat.div_lt_of_lt_mul (by rw [Nat.mul_comm]; exact hj)
      rw [hdm] at hv
      rw [flat_get hs _ _ _ (Nat.mod_lt _ hp), List.getElem?_ofFn, dif_pos hjn, Option.bind_some] at hv
      rw [hdm, ← add_add]
      exact (hf ⟨j / n, hjn⟩).1 _ v hv
    · intro x hx
      obtain ⟨i, rfl⟩ := List.mem_ofFn.1 hx
      exact (hf i).2
end Go.Vc
/- A field of an element of a slice of one's own is set. Conditions: those that each lemma names. -/
namespace Go.Vc
open Go
theorem flat_drop {α : Type} {enc : α → List Value} (l : List α) (n : Nat) {sz : Nat} (h : ∀ x, (enc x).length = sz) : (l.flatMap enc).drop (n * sz) = (l.drop n).flatMap enc := by
  induction l generalizing n with
  | nil => simp
  | cons x r ih =>
    cases n with
    | zero => simp
    | succ n =>
      simp only [List.flatMap_cons, List.drop_succ_cons]
      rw [List.drop_append, h, List.drop_eq_nil_of_le (by rw [h, Nat.add_mul]; omega), show (n + 1) * sz - sz = n * sz by rw [Nat.add_mul]; omega, ih]
      simp
theorem flat_spl {α : Type} {enc : α → List Value} {sz : Nat} (h : ∀ x, (enc x).length = sz) (l : List α) (rest : List Value) {i : Nat} (hi : i < l.length) (y : α) :
    spl (l.flatMap enc ++ rest) (i * sz) (enc y) = (l.set i y).flatMap enc ++ rest := by
  have hl := flat_len h l
  have h1 : (i + 1) * sz ≤ l.length * sz := Nat.mul_le_mul_right _ hi
  rw [Nat.add_mul, Nat.one_mul] at h1
  rw [spl, h, List.take_append_of_le_length (by omega), List.drop_append_of_le_length (by omega), flat_take l i h, show i * sz + sz = (i + 1) * sz by rw [Nat.add_mul, Nat.one_mul], flat_drop l (i + 1) h,
    List.set_eq_take_append_cons_drop, if_pos hi, List.flatMap_append, List.flatMap_cons]
  simp only [List.append_assoc]
/-- An element of a slice of one's own is exchanged. -/
theorem OwnS.setx {α : Type} {enc : α → List Value} {sz : Nat} {w : World} {s : SV} {l : List α} {T : TypeId} {B : Nat} (h : OwnS enc sz T w B s l) {i : Nat} (hi : i < l.length) {A : Addr} (hA : s.a = some A) (y : α) :
    canSt w (A.add (i * sz)) (enc y).length ∧ OwnS enc sz T (setCells w (A.add (i * sz)) 0 (enc y)) B s (l.set i y) ∧
      (setCells w (A.add (i * sz)) 0 (enc y)).heap.size = w.heap.size ∧ Upd s.blk w (setCells w (A.add (i * sz)) 0 (enc y)) := by
  rcases h.own.is with ⟨h1, _⟩ | ⟨b, rest, ha, hB, hb, hcap, hle⟩
  · rw [h1] at hA; simp at hA
  · have hA' := hA
    rw [ha] at hA
    obtain rfl := Option.some.inj hA
    have hl := flat_len h.esz l
    have h1 : (i + 1) * sz ≤ l.length * sz := Nat.mul_le_mul_right _ hi
    rw [Nat.add_mul, Nat.one_mul] at h1
    have hlen : (l.set i y).flatMap enc = (l.set i y).flatMap enc := rfl
    have hls : ((l.set i y).flatMap enc).length = (l.flatMap enc).length := by rw [flat_len h.esz, flat_len h.esz, List.length_set]
    rw [add_mk, Nat.zero_add]
    refine ⟨canSt_blk hb (by rw [h.esz, List.length_append]; omega), ⟨⟨by rw [hls]; exact h.own.len, .inr ⟨b, rest, ha, hB, ?_, ?_, hle⟩⟩, h.esz, h.pos⟩, by rw [setCells_size], (Upd.refl _ w).setCells (p := ⟨b, i * sz, none⟩) (fun _ => ⟨_, hA', rfl⟩) 0 _⟩
    · rw [setCells_blk (o := i * sz) (enc y) w 0 _ hb (by rw [h.esz, List.length_append]; omega), Nat.add_zero, flat_spl h.esz l rest hi y]
    · rw [List.length_append, hls, ← List.length_append]; exact hcap
end Go.Vc
/- Blocks that hold a variable: what stands in them, what is loaded, stored. Conditions: those that each lemma names. -/
namespace Go.Vc
open Go
/-- A block holds these cells. -/
def BK (w : World) (b : Nat) (T : TypeId) (vs : List Value) : Prop := w.heap[b]? = some (.cells vs.toArray T (0, 0))
theorem BK.new (w : World) (T : TypeId) (vs : List Value) : BK (w.alloc (.cells vs.toArray T)) w.heap.size T vs := blk_new _ _
variable {w w' : World} {b : Nat} {T : TypeId} {vs : List Value}
theorem BK.all (h : BK w b T vs) : cellsAt w ⟨b, 0, none⟩ vs := cellsAt_blk h fun j v hv => by simpa using hv
theorem BK.get (h : BK w b T vs) (i : Nat) {v : Value} (hv : vs[i]? = some v) : w.cell? (Addr.add ⟨b, 0, none⟩ i) = some v := by
  rw [add_mk, cell_blk h, Nat.zero_add]; simpa using hv
theorem BK.upd {M : Nat → Prop} (h : BK w b T vs) (u : Upd M w w') (hm : ¬ M b) : BK w' b T vs := u.get h hm
theorem BK.ext (h : BK w b T vs) (u : Ext w w') : BK w' b T vs := h.upd u id
theorem BK.drew (h : BK w b T vs) : BK w.drew b T vs := h
theorem BK.lt (h : BK w b T vs) : b < w.heap.size := lt_of_blk h
theorem BK.can (h : BK w b T vs) {n : Nat} (hn : n ≤ vs.length) : canSt w ⟨b, 0, none⟩ n := canSt_blk (c := vs) h (by omega)
theorem BK.set (h : BK w b T vs) {us : List Value} (hu : us.length = vs.length) : BK (setCells w ⟨b, 0, none⟩ 0 us) b T us := by
  have := setCells_blk (o := 0) us w 0 vs h (by omega)
  unfold BK
  rw [this]
  simp [spl, hu]
theorem BK.store (h : BK w b T vs) (i : Nat) (hi : i < vs.length) (v : Value) :
    (w.cell? (Addr.add ⟨b, 0, none⟩ i)).isSome = true ∧ w.frozen? (Addr.add ⟨b, 0, none⟩ i) = false ∧ BK (w.setCell (Addr.add ⟨b, 0, none⟩ i) v) b T (vs.set i v) := by
  rw [add_mk, cell_blk h, frozen_blk h, Nat.zero_add]
  refine ⟨by simp [hi], rfl, ?_⟩
  unfold BK
  rw [blk_set h, List.setIfInBounds_toArray]
theorem BK.sets_ne (h : BK w b T vs) {A : Addr} (hc : b ≠ A.block) (i : Nat) (us : List Value) : BK (setCells w A i us) b T vs := by
  unfold BK
  rw [setCells_heap_ne us w A i hc]; exact h
theorem BK.alloc (h : BK w b T vs) (o : Obj) : BK (w.alloc o) b T vs := h.ext (ext_alloc w o)
/-- A variable that is made and filled. -/
theorem bk_mk {w1 w2 w3 : World} {z : List Value} (ha : w1.alloc (.cells z.toArray T) = w2) (hs : setCells w2 ⟨w1.heap.size, 0, none⟩ 0 vs = w3) (hz : z.length = vs.length) :
    canSt w2 ⟨w1.heap.size, 0, none⟩ vs.length ∧ BK w3 w1.heap.size T vs ∧ Ext w1 w3 ∧ w3.heap.size = w1.heap.size + 1 := by
  have h0 : BK w2 w1.heap.size T z := by rw [← ha]; exact BK.new w1 T z
  have e2 : Ext w1 w2 := by rw [← ha]; exact ext_alloc _ _
  refine ⟨h0.can (by omega), by rw [← hs]; exact h0.set hz.symm, by rw [← hs]; exact e2.setCells (p := ⟨w1.heap.size, 0, none⟩) (fun h => by simp at h) 0 vs, ?_⟩
  rw [← hs, setCells_size, ← ha]; simp
/-- What is made. -/
theorem bk_new {w1 w2 : World} (ha : w1.alloc (.cells vs.toArray T) = w2) : BK w2 w1.heap.size T vs ∧ Ext w1 w2 ∧ w2.heap.size = w1.heap.size + 1 :=
  ⟨by rw [← ha]; exact BK.new w1 T vs, by rw [← ha]; exact ext_alloc _ _, by rw [← ha]; simp⟩
/-- A block that is new since w0 is written whole. -/
theorem bk_put {w0 w1 w2 : World} {b : Nat} {us : List Value} (h : BK w1 b T vs) (he : Ext w0 w1) (hb : w0.heap.size ≤ b) (hs : setCells w1 ⟨b, 0, none⟩ 0 us = w2) (hu : us.length = vs.length) :
    canSt w1 ⟨b, 0, none⟩ us.length ∧ BK w2 b T us ∧ Ext w0 w2 ∧ w2.heap.size = w1.heap.size ∧ ∀ c T' vs', c ≠ b → BK w1 c T' vs' → BK w2 c T' vs' := by
  refine ⟨h.can (by omega), by rw [← hs]; exact h.set hu, by rw [← hs]; exact he.setCells (p := ⟨b, 0, none⟩) (fun h => by have h' : b < w0.heap.size := h; omega) 0 us, by rw [← hs, setCells_size], fun c T' vs' hc hk => ?_⟩
  rw [← hs]; exact hk.sets_ne (A := ⟨b, 0, none⟩) hc 0 us
end Go.Vc
/- sector.Seal and sector.Open. Conditions: those of each contract. -/
namespace Go.Vc
open Go
/-- The built-in copy into one's own block. -/
theorem cpyV_src {P : Program} {td te e t T : TypeId} {sz : Nat} {w : World} {dst : SV} {x : Value} {m b o : Nat} {c news : List Value} {K : Int → World → Prop}
    (hu : P.underlying td = some (.slice e)) (hs : szOf P e = some sz) (hx : Src P w sz x m news) (hm : m ≤ dst.len) (ha : dst.a = some ⟨b, o, none⟩) (hb : w.heap[b]? = some (.cells c.toArray T (0, 0))) (hl : o + news.length ≤ c.length)
    (hk : K m (setCells w ⟨b, o, none⟩ 0 news)) : cpyV P [td, te] t [.slice dst.a dst.len dst.cap, x] w K := by
  unfold cpyV runV
  refine ⟨(m : Int), _, ?_, hk⟩
  have hst := storeCells_own (P := P) (o := o) (vs := news) hb hl hx.one
  simp [Builtin.copy_, run_underlying hu, run_szOf hs, hx.len, hx.cells, ha, Nat.min_eq_left hm, hst]
  rfl
end Go.Vc
namespace Go.Proofs
open Go Go.Vc Go.Crc
def splB (l : List UInt8) (o : Nat) (x : List UInt8) : List UInt8 := l.take o ++ x ++ l.drop (o + x.length)
theorem splB_at {a x c y : List UInt8} {o : Nat} (h : x.length = y.length) (ho : o = a.length) : splB (a ++ (x ++ c)) o y = a ++ (y ++ c) := by
  subst ho
  rw [splB, List.take_left' rfl, List.append_assoc, ← List.drop_drop, List.drop_left' rfl, List.drop_left' h]
theorem B8_spl (l : List UInt8) (o : Nat) (x : List UInt8) : spl (B8 l) o (B8 x) = B8 (splB l o x) := by simp [spl, splB, B8]
theorem _root_.Go.Vc.Rd.head8 {w : World} {s : SV} {l : List UInt8} (h : RdB w s l) {n : Nat} (hn : n ≤ l.length) (c : Nat) : RdB w ⟨s.a, n, c⟩ (l.take n) := by
  refine ⟨by rw [B8_length, List.length_take]; simp; omega, fun ha => ?_, fun A hA => ?_⟩
  · have := h.nil ha; have := h.lenB; simp only; omega
  · have := (h.at_ A hA).take n
    simpa [B8] using this
/-- A block of bytes. -/
abbrev BB (w : World) (b : Nat) (T : TypeId) (l : List UInt8) : Prop := BK w b T (B8 l)
theorem BB.rd {w : World} {b : Nat} {T : TypeId} {l : List UInt8} (h : BB w b T l) (c : Nat) : RdB w ⟨some ⟨b, 0, none⟩, l.length, c⟩ l :=
  ⟨by rw [B8_length]; simp, fun h => by simp at h, fun A hA => by obtain rfl := Option.some.inj hA; exact h.all⟩
theorem sector_put.spec {w : World} {b T n : Nat} {l : List UInt8} {v at_ : Nat} (h : BB w b T l) (hl : l.length = 512) (hv : v < 2 ^ 64) (hn : 1 ≤ n ∧ n ≤ 8) (hf : v < 256 ^ n) (ha : at_ + n ≤ 512) :
    CallT [] Try.prog F.sector_put [.slice (some ⟨b, 0, none⟩) 512 512, .int .i64 at_, .int .i64 n, .int .u64 v] w fun _ w' => BB w' b T (splB l at_ (leB n v)) ∧ Upd (fun x => x = b) w w' := by
  refine sector_put.vc ⟨some ⟨b, 0, none⟩, 512, 512⟩ at_ n v w _ ?_
  have hput : putB [] v (n : Int) = (leB n v, 0) := by
    rw [putB, if_neg (by omega), if_neg (by simpa using hf)]; simp
  refine CallT.mono (word_Put.spec (s := ⟨none, 0, 0⟩) (l := []) (Rd.nil' _ _ _) (by simp) hv (n := (n : Int)) (by omega)) ?_
  rintro ⟨x, e⟩ w1 ⟨hx, _, e1⟩
  rw [hput] at hx
  dsimp only at hx ⊢
  have hw : IntKind.i64.wrap ((at_ : Int) + (n : Int)) = ((at_ + n : Nat) : Int) := by rw [i64_id] <;> omega
  rw [hw]
  simp only [Int.toNat_natCast]
  refine ⟨by omega, by omega, by omega, by omega, by omega, by omega, ?_⟩
  have hxl := hx.lenB
  rw [leB_len] at hxl
  have h1 := h.ext e1
  have hsub : (subA (some (⟨b, 0, none⟩ : Addr)) at_ 1 (at_ + n)) = some ⟨b, at_, none⟩ := by
    rw [subA, if_neg (by omega)]; simp [add_mk]
  have hsrc := hx.rd.src (P := Try.prog) (B8_one _)
  have hblk := setCells_blk (o := at_) (B8 (leB n v)) w1 0 _ h1 (by rw [B8_length, B8_length, leB_len]; omega)
  refine cpyV_src (dst := ⟨subA (some ⟨b, 0, none⟩) at_ 1 (at_ + n), at_ + n - at_, at_ + n - at_⟩) sl_u8 (by kernel_rfl) hsrc (by simp only; omega) hsub h1 (by rw [B8_length, B8_length, leB_len]; omega) ?_
  refine ⟨?_, ?_⟩
  · rw [Nat.add_zero, B8_spl] at hblk
    exact hblk
  · exact (e1.to (fun x => x = b)).setCells (p := ⟨b, at_, none⟩) (fun _ => rfl) 0 _
theorem BB.set {w : World} {b T i : Nat} {l : List UInt8} (h : BB w b T l) (x : UInt8) : BB (w.setCell (Addr.add ⟨b, 0, none⟩ i) (.int .u8 x.toNat)) b T (l.set i x) := by
  have := blk_set (o := i) h (.int .u8 x.toNat)
  rw [add_mk, Nat.zero_add]
  refine this.trans ?_
  simp [B8, List.map_set]
/-- New bytes: readable, in a block that was not there. -/
structure NewB (w w' : World) (s : SV) (l : List UInt8) : Prop where
  rd : RdB w' s l
  cap : s.len ≤ s.cap
  new : ∀ b, s.blk b → w.heap.size ≤ b ∧ b < w'.heap.size
theorem NewB.nil (w w' : World) : NewB w w' ⟨none, 0, 0⟩ [] := ⟨Rd.nil' _ _ _, by simp, by rintro b ⟨A, hA, _⟩; simp at hA⟩
theorem OwnB.newB {w w' : World} {s : SV} {l : List UInt8} (h : OwnB w' w.heap.size s l) : NewB w w' s l := ⟨h.rd, h.cap_le, fun _ hb => ⟨h.blk_ge hb, h.blk_lt hb⟩⟩
theorem NewB.ext {w w' w2 : World} {s : SV} {l : List UInt8} (h : NewB w w' s l) (e : Ext w' w2) : NewB w w2 s l := ⟨h.rd.ext e, h.cap, fun b hb => ⟨(h.new b hb).1, by have := (h.new b hb).2; have := e.size; omega⟩⟩
theorem NewB.to {w0 w w' : World} {s : SV} {l : List UInt8} (h : NewB w w' s l) (e : Ext w0 w) : NewB w0 w' s l := ⟨h.rd, h.cap, fun b hb => ⟨by have := (h.new b hb).1; have := e.size; omega, (h.new b hb).2⟩⟩
theorem NewB.upd {M : Nat → Prop} {w w' w2 : World} {s : SV} {l : List UInt8} (h : NewB w w' s l) (u : Upd M w' w2) (hm : ∀ b, s.blk b → ¬ M b) : NewB w w2 s l := ⟨h.rd.upd u hm, h.cap, fun b hb => ⟨(h.new b hb).1, by have := (h.new b hb).2; have := u.size; omega⟩⟩
theorem k_beq (k c : UInt8) : (((k.toNat : Nat) : Int) == ((c.toNat : Nat) : Int)) = (k == c) := by
  rw [Bool.eq_iff_iff, beq_iff_eq, beq_iff_eq, ← UInt8.toNat_inj]; omega
theorem known_walk (k : UInt8) {R : Bool → Prop} (hR : R (knownK k)) : cnd (((k.toNat : Nat) : Int) == 23) (cnd (((k.toNat : Nat) : Int) == 23) (R true) (R false)) (cnd (((k.toNat : Nat) : Int) == 43) (cnd (((k.toNat : Nat) : Int) == 43) (R true) (R false))
    (cnd (((k.toNat : Nat) : Int) == 77) (cnd (((k.toNat : Nat) : Int) == 77) (R true) (R false)) (cnd (((k.toNat : Nat) : Int) == 142) (cnd (((k.toNat : Nat) : Int) == 142) (R true) (R false)) (cnd (((k.toNat : Nat) : Int) == 113) (cnd (((k.toNat : Nat) : Int) == 113) (R true) (R false)) (cnd (((k.toNat : Nat) : Int) == 178) (R true) (R false)))))) := by
  have e1 : (((k.toNat : Nat) : Int) == 23) = (k == 23) := k_beq k 23
  have e2 : (((k.toNat : Nat) : Int) == 43) = (k == 43) := k_beq k 43
  have e3 : (((k.toNat : Nat) : Int) == 77) = (k == 77) := k_beq k 77
  have e4 : (((k.toNat : Nat) : Int) == 142) = (k == 142) := k_beq k 142
  have e5 : (((k.toNat : Nat) : Int) == 113) = (k == 113) := k_beq k 113
  have e6 : (((k.toNat : Nat) : Int) == 178) = (k == 178) := k_beq k 178
  rw [e1, e2, e3, e4, e5, e6]
  unfold knownK at hR
  generalize (k == 23) = b1 at *
  generalize (k == 43) = b2 at *
  generalize (k == 77) = b3 at *
  generalize (k == 142) = b4 at *
  generalize (k == 113) = b5 at *
  generalize (k == 178) = b6 at *
  cases b1
  · cases b2
    · cases b3
      · cases b4
        · cases b5
          · cases b6 <;> exact hR
          · exact hR
        · exact hR
      · exact hR
    · exact hR
  · exact hR
theorem sector_Known.spec (k : UInt8) (w : World) : CallT [.one .bool] Try.prog F.sector_Known [.int .u8 k.toNat] w fun r w' => r = knownK k ∧ w = w' :=
  sector_Known.vc (k.toNat : Int) w _ (known_walk k (R := fun r => r = knownK k ∧ w = w) ⟨rfl, rfl⟩)
theorem ref03_Known.spec (k : UInt8) (w : World) : CallT [.one .bool] Try.prog F.dunnageref03_Known [.int .u8 k.toNat] w fun r w' => r = knownK k ∧ w = w' :=
  dunnageref03_Known.vc (k.toNat : Int) w _ (known_walk k (R := fun r => r = knownK k ∧ w = w) ⟨rfl, rfl⟩)
theorem z_512 : zeroL Try.prog T.a512_uint8 = some (B8 (List.replicate 512 0)) := by kernel_rfl
theorem zc_512 : zc Try.prog T.a512_uint8 = B8 (List.replicate 512 0) := by rw [zc, z_512]
abbrev reZ (n : Nat) : List UInt8 := List.replicate n 0
theorem rep512 (k : UInt8) : (List.replicate 512 (0 : UInt8)).set 0 k = [k, 0] ++ (reZ 2 ++ (reZ 8 ++ (reZ 496 ++ reZ 4))) := by
  have h : List.replicate 512 (0 : UInt8) = 0 :: 0 :: (reZ 2 ++ (reZ 8 ++ (reZ 496 ++ reZ 4))) := by
    simp only [reZ, List.replicate_append_replicate]
    rw [← List.replicate_succ, ← List.replicate_succ]
  rw [h]; rfl
set_option maxRecDepth 100000 in
theorem sector_Seal.spec {w : World} (k : UInt8) {t : Nat} {s : SV} {p : List UInt8} (ht : t < 2 ^ 64) (hp : RdB w s p) :
    CallT [.one .slice, .one (.int .i64)] Try.prog F.sector_Seal [.int .u8 k.toNat, .int .u64 t, .slice s.a s.len s.cap] w fun r w' => NewB w w' r.1 (sealR k t p).1 ∧ r.2 = (sealR k t p).2 ∧ Ext w w' := by
  refine sector_Seal.vc (k.toNat : Int) (t : Int) s w _ ?_
  have hpl := hp.lenB
  refine CallT.mono (sector_Known.spec k w) ?_
  rintro _ _ ⟨rfl, rfl⟩
  refine cnd_not (fun hf => ?_) (fun hk => cnd_dec (fun h => ?_) (fun h => ?_))
  · rw [sealR, if_pos hf]; exact ⟨NewB.nil _ _, rfl, Upd.refl _ _⟩
  · rw [sealR, if_neg (by rw [hk]; simp), if_pos (by omega)]; exact ⟨NewB.nil _ _, rfl, Upd.refl _ _⟩
  rw [sealR, if_neg (by rw [hk]; simp), if_neg (by omega)]
  have hl : p.length ≤ 496 := by omega
  dsimp only
  simp only [subA_zero]
  have b1 : BB (w.alloc (.cells (zc Try.prog T.a512_uint8).toArray T.a512_uint8)) w.heap.size T.a512_uint8 (List.replicate 512 0) := by rw [zc_512]; exact BK.new _ _ _
  have e1 := ext_alloc w (.cells (zc Try.prog T.a512_uint8).toArray T.a512_uint8)
  generalize w.alloc (.cells (zc Try.prog T.a512_uint8).toArray T.a512_uint8) = w1 at *
  refine ⟨by omega, by omega, ?_, ?_, ?_⟩
  · rw [show Int.toNat 0 * 1 = 0 from rfl, b1.get 0 rfl]; rfl
  · rw [show Int.toNat 0 * 1 = 0 from rfl, add_mk]; exact frozen_blk b1
  rw [show Int.toNat 0 * 1 = 0 from rfl]
  have b2 := b1.set (i := 0) k
  have e2 : Ext w (w1.setCell (Addr.add ⟨w.heap.size, 0, none⟩ 0) (.int .u8 k.toNat)) := by
    rw [add_mk]; exact e1.set (p := ⟨w.heap.size, 0 + 0, none⟩) (fun h => by simp at h) _
  generalize w1.setCell (Addr.add ⟨w.heap.size, 0, none⟩ 0) (.int .u8 k.toNat) = w2 at *
  rw [rep512] at b2
  have keep : ∀ {v v' : World}, Ext w v → Upd (fun x => x = w.heap.size) v v' → Ext w v' := fun e u => e.trans u fun x hx he => by omega
  have hn64 : IntKind.u64.wrap (s.len : Int) = (p.length : Int) := by rw [u64_mod]; omega
  rw [hn64]
  have lz : ∀ n, (reZ n).length = n := fun n => List.length_replicate
  refine CallT.mono (sector_put.spec (at_ := 2) (n := 2) (v := p.length) b2 (by simp [lz]) (by omega) (by omega) (by omega) (by omega)) ?_
  rintro _ w3 ⟨b3, u3⟩
  have e3 := keep e2 u3
  rw [splB_at (a := [k, 0]) (x := reZ 2) (y := leB 2 p.length) (o := 2) (by rw [leB_len, lz]) rfl, ← List.append_assoc] at b3
  refine CallT.mono (sector_put.spec (at_ := 4) (n := 8) (v := t) b3 (by simp [lz, leB_len]) ht (by omega) (by omega) (by omega)) ?_
  rintro _ w4 ⟨b4, u4⟩
  have e4 := keep e3 u4
  rw [splB_at (a := [k, 0] ++ leB 2 p.length) (x := reZ 8) (y := leB 8 t) (o := 4) (by rw [leB_len, lz]) (by simp [leB_len]), ← List.append_assoc, show reZ 496 = reZ p.length ++ reZ (496 - p.length) by rw [reZ, reZ, reZ, List.replicate_append_replicate]; congr 1; omega, List.append_assoc (reZ p.length)] at b4
  refine ⟨by omega, by omega, by omega, by decide, by omega, by decide, ?_⟩
  have hsub : (subA (some (⟨w.heap.size, 0, none⟩ : Addr)) (Int.toNat 12) 1 (Int.toNat 508)) = some ⟨w.heap.size, 12, none⟩ := rfl
  refine cpyV_src (dst := ⟨subA (some ⟨w.heap.size, 0, none⟩) (Int.toNat 12) 1 (Int.toNat 508), Int.toNat 508 - Int.toNat 12, Int.toNat 508 - Int.toNat 12⟩) sl_u8 (by kernel_rfl) ((hp.ext e4).src (P := Try.prog) (B8_one _)) (by simp only; omega) hsub b4 (by simp [B8_length, lz, leB_len]; omega) ?_
  have b5 := setCells_blk (o := 12) (B8 p) w4 0 _ b4 (by simp [B8_length, lz, leB_len]; omega)
  have u5 : Upd (fun x => x = w.heap.size) w4 (setCells w4 ⟨w.heap.size, 12, none⟩ 0 (B8 p)) := (Upd.refl (fun x => x = w.heap.size) w4).setCells (p := ⟨w.heap.size, 12, none⟩) (fun _ => rfl) 0 _
  rw [Nat.add_zero, B8_spl, splB_at (a := [k, 0] ++ leB 2 p.length ++ leB 8 t) (x := reZ p.length) (y := p) (o := 12) (by rw [lz]) (by simp [leB_len]), ← List.append_assoc, ← List.append_assoc] at b5
  generalize setCells w4 ⟨w.heap.size, 12, none⟩ 0 (B8 p) = w5 at *
  have hsec : [k, 0] ++ leB 2 p.length ++ leB 8 t ++ p ++ reZ (496 - p.length) = secH k t p := rfl
  rw [hsec] at b5
  have b5 : BB w5 w.heap.size T.a512_uint8 (secH k t p ++ reZ 4) := b5
  have e5 := (keep e4 u5).tr (ext_drew w5)
  have b6 : BB w5.drew w.heap.size T.a512_uint8 (secH k t p ++ (reZ 4 ++ [])) := by rw [List.append_nil]; exact b5.drew
  refine ⟨fun _ => True, trivial, by omega, by omega, ?_⟩
  generalize w5.drew = w6 at *
  have hsl := secH_len (k := k) (t := t) hl
  have hr6 : RdB w6 ⟨some ⟨w.heap.size, 0, none⟩, 508, 512⟩ (secH k t p) := by
    have := (b6.rd 512).head8 (n := 508) (by simp [hsl]) 512
    rwa [List.take_left' hsl] at this
  refine CallT.mono (crc_Sum.spec (s := ⟨some ⟨w.heap.size, 0, none⟩, 508, 512⟩) hr6 (by rw [hsl]; decide)) ?_
  rintro _ w7 ⟨rfl, e7⟩
  have hml := more_lt (s := 0) (by decide) (secH k t p)
  have hw7 : IntKind.u64.wrap ((more 0 (secH k t p) : Nat) : Int) = ((more 0 (secH k t p) : Nat) : Int) := by rw [u64_mod]; omega
  rw [hw7]
  refine CallT.mono (sector_put.spec (at_ := 508) (n := 4) (v := more 0 (secH k t p)) (b6.ext e7) (by simp [hsl]) (by omega) (by omega) (by omega) (by omega)) ?_
  rintro _ w8 ⟨b8, u8⟩
  have e8 := keep (e5.tr e7) u8
  rw [splB_at (a := secH k t p) (x := reZ 4) (y := leB 4 (more 0 (secH k t p))) (o := 508) (by rw [leB_len, lz]) hsl.symm, List.append_nil] at b8
  have hlen : (secH k t p ++ leB 4 (more 0 (secH k t p))).length = 512 := by rw [List.length_append, hsl, leB_len]
  refine ⟨⟨?_, Nat.le_refl _, ?_⟩, by simp, e8⟩
  · have := b8.rd 512
    rwa [hlen] at this
  · rintro b ⟨A, hA, rfl⟩
    obtain rfl := Option.some.inj hA
    exact ⟨Nat.le_refl _, b8.lt⟩
end Go.Proofs
