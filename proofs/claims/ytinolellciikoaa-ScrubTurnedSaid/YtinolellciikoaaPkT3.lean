/- Texts that the claim leans on, one behind the other: each begins with a sentence of its own. Conditions: those that each names. -/
import Derived.Below
import Derived.ChangeOld
import Derived.Deep.Quiet
import Derived.KernelRfl
import Derived.Laws.Cells
import Derived.Laws.Entries
import Derived.Laws.Sem
import Derived.Laws.Strings
import Derived.Laws.World
import Derived.Lib.SlBytesConst
import Derived.OpenShut
import Derived.Orders
import Derived.OrdersHeld
import Derived.ProofKit
import Derived.ShutString
import Derived.SizedLaws
import Derived.StillTail
import Derived.Tactics
import Derived.Test.YtinolellciikoaaProg
import Derived.Test.YtinolellciikoaaRows
import Derived.Test.YtinolellciikoaaPkT2
/- The conditions of the seat's functions, written by a program (VcTool, genvc.py) off 'vc' reduced; each is tied to 'vc' by the kernel. Conditions: none. -/
set_option linter.unusedVariables false
set_option maxRecDepth 100000
namespace Go.Proofs
open Go Go.Vc
/-- dunnage/disk.New -/
theorem disk_New.vc (n0 : Int) (w : World) (R : Option Addr × Int → World → Prop)
  (h : cnd (decide (n0 < (1 : Int))) (R (none, (1 : Int)) w)
      (cnd (decide (n0 > (65536 : Int))) (R (none, (1 : Int)) w)
        (mkSV Try.prog (148 : Nat) (Value.int IntKind.i64 n0) (Value.int IntKind.i64 n0) w fun (s : SV) (w' : World) =>
          R (some (Addr.mk w'.heap.size (0 : Nat) none), (0 : Int))
            (w'.alloc
              (Obj.cells
                #[Value.slice s.a s.len s.cap, Value.slice none (0 : Nat) (0 : Nat), Value.bool false,
                  Value.int IntKind.i64 (0 : Int), Value.int IntKind.i64 (0 : Int)]
                (151 : Nat))))))
  : CallT [Ty.one Sh.ptr, Ty.one (Sh.int IntKind.i64)] Try.prog 37 [Value.int IntKind.i64 n0] w R :=
  fnV_sound (h := HT.z) Try.func37 (by kernel_rfl) (by kernel_rfl) (Eq.mp (by kernel_rfl) h)

/-- (*dunnage/disk.Disk).Flush -/
theorem disk_Disk_Flush.vc (p0 : Option Addr) (w : World) (R : Int → World → Prop)
  (h : CallT [Ty.one (Sh.int IntKind.i64)] Try.prog (107 : Nat) [Value.pointer p0] w fun (x : Int) (w' : World) =>
      cnd (x != (0 : Int)) (R x w')
        (CallT [Ty.one (Sh.int IntKind.i64)] Try.prog (108 : Nat)
          [Value.pointer p0, Value.func (Fn.func (109 : Nat)) #[Value.pointer p0] #[]] w' fun (x : Int) (w' : World) =>
          cnd (x != (0 : Int)) (R x w')
            (onP p0 fun (a : Addr) =>
              ∃ (x : SV),
                w'.cell? (a.add (1 : Nat)) = some (Value.slice x.a x.len x.cap) ∧
                  ∃ (I : Nat → Int → World → Prop),
                    (∃ (n : Nat), I n (0 : Int) w') ∧
                      ∀ (n : Nat) (x_1 : Int) (j : Nat → Value) (w' : World),
                        I n x_1 w' →
                          cnd (decide (x_1 < (↑x.len : Int)))
                            ((0 : Int) ≤ x_1 ∧
                              x_1 < (↑x.len : Int) ∧
                                onP x.a fun (A : Addr) =>
                                  ∃ (cs : Array Value),
                                    cs.size = (513 : Nat) ∧
                                      (∀ (i : Nat),
                                          i < (513 : Nat) → w'.cell? ((A.add (x_1.toNat * (513 : Nat))).add i) = cs[i]?) ∧
                                        let w1 := w'.alloc (Obj.cells (zc Try.prog (156 : Nat)).toArray (156 : Nat));
                                        cs.toList.length = (513 : Nat) ∧
                                          (∀ (v : Value), v ∈ cs.toList → oneV v True) ∧
                                            canSt w1 (Addr.mk w'.heap.size (0 : Nat) none) cs.toList.length ∧
                                              let w1 :=
                                                setCells w1 (Addr.mk w'.heap.size (0 : Nat) none) (0 : Nat) cs.toList;
                                              onP p0 fun (a : Addr) =>
                                                ∃ (x : SV),
                                                  w1.drew.cell? (a.add (0 : Nat)) = some (Value.slice x.a x.len x.cap) ∧
                                                    ∃ (x_2 : Int),
                                                      w1.drew.cell? ((Addr.mk w'.heap.size (0 : Nat) none).add (0 : Nat)) =
                                                          some (Value.int IntKind.i64 x_2) ∧
                                                        ∃ (cs : Array Value),
                                                          cs.size = (512 : Nat) ∧
                                                            (∀ (i : Nat),
                                                                i < (512 : Nat) →
                                                                  w1.drew.cell?
                                                                      (((Addr.mk w'.heap.size (0 : Nat) none).add
                                                                            (1 : Nat)).add
                                                                        i) =
                                                                    cs[i]?) ∧
                                                              (0 : Int) ≤ x_2 ∧
                                                                x_2 < (↑x.len : Int) ∧
                                                                  onP x.a fun (A : Addr) =>
                                                                    cs.toList.length = (512 : Nat) ∧
                                                                      (∀ (v : Value), v ∈ cs.toList → oneV v True) ∧
                                                                        canSt w1.drew (A.add (x_2.toNat * (512 : Nat)))
                                                                            cs.toList.length ∧
                                                                          ∃ (m : Nat),
                                                                            m < n ∧
                                                                              I m (IntKind.i64.wrap (x_1 + (1 : Int)))
                                                                                (setCells w1.drew
                                                                                  (A.add (x_2.toNat * (512 : Nat)))
                                                                                  (0 : Nat) cs.toList))
                            (onP p0 fun (a : Addr) =>
                              (w'.cell? (a.add (1 : Nat))).isSome = true ∧
                                w'.frozen? (a.add (1 : Nat)) = false ∧
                                  R (0 : Int) (w'.setCell (a.add (1 : Nat)) (Value.slice none (0 : Nat) (0 : Nat)))))))
  : CallT [Ty.one (Sh.int IntKind.i64)] Try.prog 40 [Value.pointer p0] w R :=
  fnV_sound (h := HT.z.sq
  (HT.z.sq
    (HT.z.sq
      ((HT.z.sq
            (HT.lp [((24 : Nat), Ty.one (Sh.int IntKind.i64))]
                (HT.z.sq (HT.z.sq ((HT.z.sq (HT.rg (9 : Nat))).bl.sq HT.z)))).bl).sq
        HT.z)))) Try.func40 (by kernel_rfl) (by kernel_rfl) (Eq.mp (by kernel_rfl) h)

/-- (*dunnage/disk.Disk).Write -/
theorem disk_Disk_Write.vc (p0 : Option Addr) (n1 : Int) (s2 : SV) (w : World) (R : Int → World → Prop)
  (h : CallT [Ty.one (Sh.int IntKind.i64)] Try.prog (107 : Nat) [Value.pointer p0] w fun (x : Int) (w' : World) =>
      cnd (x != (0 : Int)) (R x w')
        (∃ (R_1 : PUnit → World → Prop),
          (CallT [Ty.one Sh.bool] Try.prog (110 : Nat) [Value.pointer p0, Value.int IntKind.i64 n1] w'
              fun (x : Bool) (w' : World) =>
              cnd (!x) (R (1 : Int) w') (cnd ((↑s2.len : Int) != (512 : Int)) (R (1 : Int) w') (R_1 () w'))) ∧
            ∀ (x : PUnit) (j : Nat → Value) (w' : World),
              R_1 x w' →
                ∃ (S : World → Prop),
                  S w'.drew ∧
                    onP p0 fun (a : Addr) =>
                      ∃ (x : SV),
                        (∀ (w : World), S w → w.cell? (a.add (1 : Nat)) = some (Value.slice x.a x.len x.cap)) ∧
                          (512 : Nat) ≤ s2.len ∧
                            onP s2.a fun (A : Addr) =>
                              ∃ (cs : Array Value),
                                cs.size = (512 : Nat) ∧
                                  (∀ (w : World), S w → ∀ (i : Nat), i < (512 : Nat) → w.cell? (A.add i) = cs[i]?) ∧
                                    (1 : Nat) = (1 : Nat) ∧
                                      (1 : Nat) ≤ (zc Try.prog (156 : Nat)).length ∧
                                        cs.toList.length = (512 : Nat) ∧
                                          (513 : Nat) ≤
                                              (splL (zc Try.prog (156 : Nat)) (0 : Nat) [Value.int IntKind.i64 n1]).length ∧
                                            (splL (splL (zc Try.prog (156 : Nat)) (0 : Nat) [Value.int IntKind.i64 n1])
                                                    (1 : Nat) cs.toList).length =
                                                (513 : Nat) ∧
                                              (513 : Nat) ≤ (repz (1 : Nat) (zc Try.prog (156 : Nat))).length ∧
                                                let w1 :=
                                                  w'.drew.alloc
                                                    (Obj.cells
                                                      (splL (repz (1 : Nat) (zc Try.prog (156 : Nat)))
                                                          ((0 : Nat) * (513 : Nat))
                                                          (splL
                                                            (splL (zc Try.prog (156 : Nat)) (0 : Nat)
                                                              [Value.int IntKind.i64 n1])
                                                            (1 : Nat) cs.toList)).toArray
                                                      (156 : Nat));
                                                S w1 ∧
                                                  appV Try.prog [(149 : Nat), (149 : Nat)] (149 : Nat)
                                                    [Value.slice x.a x.len x.cap,
                                                      Value.slice (some (Addr.mk w'.drew.heap.size (0 : Nat) none))
                                                        (1 : Nat) (1 : Nat)]
                                                    w1 fun (s : SV) (w' : World) =>
                                                    S w' ∧
                                                      onP p0 fun (a : Addr) =>
                                                        (w'.cell? (a.add (1 : Nat))).isSome = true ∧
                                                          w'.frozen? (a.add (1 : Nat)) = false ∧
                                                            CallT [Ty.one (Sh.int IntKind.i64)] Try.prog (108 : Nat)
                                                              [Value.pointer p0,
                                                                Value.func (Fn.func (109 : Nat)) #[Value.pointer p0] #[]]
                                                              (w'.setCell (a.add (1 : Nat)) (Value.slice s.a s.len s.cap))
                                                              fun (x : Int) (w' : World) => R x w'))
  : CallT [Ty.one (Sh.int IntKind.i64)] Try.prog 41 [Value.pointer p0, Value.int IntKind.i64 n1, Value.slice s2.a s2.len s2.cap] w R :=
  fnV_sound (h := HT.z.sq
  (HT.z.sq
    (HT.jn [] HT.z
      ((HT.dr
            (DT.take (0 : Nat)
              (DT.take (1 : Nat)
                (DT.take (2 : Nat)
                  (DT.take (3 : Nat)
                    (DT.take (4 : Nat)
                      (DT.take (5 : Nat)
                        (DT.take (6 : Nat)
                          (DT.take (7 : Nat)
                            (DT.take (8 : Nat)
                              (DT.take (9 : Nat)
                                (DT.alt (10 : Nat)
                                  (DT.alt (11 : Nat)
                                    (DT.take (12 : Nat) (DT.take (13 : Nat) (DT.alt (14 : Nat) DT.fin DT.fin))) DT.fin)
                                  DT.fin)))))))))))).sq
        HT.z)))) Try.func41 (by kernel_rfl) (by kernel_rfl) (Eq.mp (by kernel_rfl) h)

/-- (*dunnage/disk.Disk).Down -/
theorem disk_Disk_Down.vc (p0 : Option Addr) (w : World) (R : Bool → World → Prop)
  (h : cnd (!p0.isNone) (onP p0 fun (a : Addr) => ∃ (x : Bool), w.cell? (a.add (2 : Nat)) = some (Value.bool x) ∧ R x w)
      (R false w))
  : CallT [Ty.one Sh.bool] Try.prog 43 [Value.pointer p0] w R :=
  fnV_sound (h := HT.z) Try.func43 (by kernel_rfl) (by kernel_rfl) (Eq.mp (by kernel_rfl) h)

/-- (*dunnage/disk.Disk).Read -/
theorem disk_Disk_Read.vc (p0 : Option Addr) (n1 : Int) (w : World) (R : SV × Int → World → Prop)
  (h : CallT [Ty.one (Sh.int IntKind.i64)] Try.prog (107 : Nat) [Value.pointer p0] w fun (x : Int) (w' : World) =>
      cnd (x != (0 : Int)) (R (SV.mk none (0 : Nat) (0 : Nat), x) w')
        (CallT [Ty.one Sh.bool] Try.prog (110 : Nat) [Value.pointer p0, Value.int IntKind.i64 n1] w'
          fun (x : Bool) (w' : World) =>
          cnd (!x) (R (SV.mk none (0 : Nat) (0 : Nat), (1 : Int)) w')
            (onP p0 fun (a : Addr) =>
              ∃ (x : SV),
                w'.cell? (a.add (1 : Nat)) = some (Value.slice x.a x.len x.cap) ∧
                  ∃ (I : Nat → Int → World → Prop),
                    (∃ (n : Nat), I n (IntKind.i64.wrap ((↑x.len : Int) - (1 : Int))) w') ∧
                      ∀ (n : Nat) (x : Int) (j : Nat → Value) (w' : World),
                        I n x w' →
                          cnd (decide (x ≥ (0 : Int)))
                            (onP p0 fun (a : Addr) =>
                              ∃ (x_1 : SV),
                                w'.cell? (a.add (1 : Nat)) = some (Value.slice x_1.a x_1.len x_1.cap) ∧
                                  (0 : Int) ≤ x ∧
                                    x < (↑x_1.len : Int) ∧
                                      onP x_1.a fun (A : Addr) =>
                                        ∃ (x_2 : Int),
                                          w'.cell? ((A.add (x.toNat * (513 : Nat))).add (0 : Nat)) =
                                              some (Value.int IntKind.i64 x_2) ∧
                                            cnd (x_2 == n1)
                                              (onP p0 fun (a : Addr) =>
                                                ∃ (x_3 : SV),
                                                  w'.cell? (a.add (1 : Nat)) = some (Value.slice x_3.a x_3.len x_3.cap) ∧
                                                    (0 : Int) ≤ x ∧
                                                      x < (↑x_3.len : Int) ∧
                                                        onP x_3.a fun (A : Addr) =>
                                                          CallT [Ty.one Sh.slice] Try.prog (111 : Nat)
                                                            [Value.slice
                                                                (subA (some ((A.add (x.toNat * (513 : Nat))).add (1 : Nat)))
                                                                  (0 : Nat) (1 : Nat) (512 : Nat))
                                                                ((512 : Nat) - (0 : Nat)) ((512 : Nat) - (0 : Nat))]
                                                            w' fun (x : SV) (w' : World) => R (x, (0 : Int)) w')
                                              (∃ (m : Nat), m < n ∧ I m (IntKind.i64.wrap (x - (1 : Int))) w'))
                            (onP p0 fun (a : Addr) =>
                              ∃ (x : SV),
                                w'.cell? (a.add (0 : Nat)) = some (Value.slice x.a x.len x.cap) ∧
                                  (0 : Int) ≤ n1 ∧
                                    n1 < (↑x.len : Int) ∧
                                      onP x.a fun (A : Addr) =>
                                        CallT [Ty.one Sh.slice] Try.prog (111 : Nat)
                                          [Value.slice
                                              (subA (some (A.add (n1.toNat * (512 : Nat)))) (0 : Nat) (1 : Nat) (512 : Nat))
                                              ((512 : Nat) - (0 : Nat)) ((512 : Nat) - (0 : Nat))]
                                          w' fun (x : SV) (w' : World) => R (x, (0 : Int)) w'))))
  : CallT [Ty.one Sh.slice, Ty.one (Sh.int IntKind.i64)] Try.prog 44 [Value.pointer p0, Value.int IntKind.i64 n1] w R :=
  fnV_sound (h := HT.z.sq (HT.z.sq (HT.z.sq ((HT.z.sq (HT.lp [((7 : Nat), Ty.one (Sh.int IntKind.i64))] HT.z).bl).sq HT.z)))) Try.func44 (by kernel_rfl) (by kernel_rfl) (Eq.mp (by kernel_rfl) h)

end Go.Proofs
/- The conditions of the seat's functions, written by a program (VcTool, genvc.py) off 'vc' reduced; each is tied to 'vc' by the kernel. Conditions: none. -/
set_option linter.unusedVariables false
set_option maxRecDepth 100000
namespace Go.Proofs
open Go Go.Vc
/-- (*dunnage/disk.Disk).ready -/
theorem disk_Disk_ready.vc (p0 : Option Addr) (w : World) (R : Int → World → Prop)
  (h : cnd p0.isNone (R (2 : Int) w)
      (onP p0 fun (a : Addr) =>
        ∃ (x : Bool), w.cell? (a.add (2 : Nat)) = some (Value.bool x) ∧ cnd x (R (40 : Int) w) (R (0 : Int) w)))
  : CallT [Ty.one (Sh.int IntKind.i64)] Try.prog 107 [Value.pointer p0] w R :=
  fnV_sound (h := HT.z) Try.func107 (by kernel_rfl) (by kernel_rfl) (Eq.mp (by kernel_rfl) h)

/-- (*dunnage/disk.Disk).counted -/
theorem disk_Disk_counted.vc (p0 : Option Addr) (v1 : Value) (w : World) (R : Int → World → Prop)
  (h : callVal [Ty.one Sh.bool] Try.prog v1 [] w fun (x : Bool) (w' : World) =>
      cnd (!x) (R (0 : Int) w')
        (onP p0 fun (a : Addr) =>
          (w'.cell? (a.add (2 : Nat))).isSome = true ∧
            w'.frozen? (a.add (2 : Nat)) = false ∧ R (40 : Int) (w'.setCell (a.add (2 : Nat)) (Value.bool true))))
  : CallT [Ty.one (Sh.int IntKind.i64)] Try.prog 108 [Value.pointer p0, v1] w R :=
  fnV_sound (h := HT.z) Try.func108 (by kernel_rfl) (by kernel_rfl) (Eq.mp (by kernel_rfl) h)

/-- (*dunnage/disk.Disk).hit -/
theorem disk_Disk_hit.vc (p0 : Option Addr) (w : World) (R : Bool → World → Prop)
  (h : onP p0 fun (a : Addr) =>
      ∃ (x : Int),
        w.cell? (a.add (3 : Nat)) = some (Value.int IntKind.i64 x) ∧
          cnd (x == (0 : Int)) (R false w)
            (onP p0 fun (a : Addr) =>
              ∃ (x : Int),
                w.cell? (a.add (3 : Nat)) = some (Value.int IntKind.i64 x) ∧
                  onP p0 fun (a : Addr) =>
                    (w.cell? (a.add (3 : Nat))).isSome = true ∧
                      w.frozen? (a.add (3 : Nat)) = false ∧
                        let w1 := w.setCell (a.add (3 : Nat)) (Value.int IntKind.i64 (IntKind.i64.wrap (x - (1 : Int))));
                        onP p0 fun (a : Addr) =>
                          ∃ (x : Int), w1.cell? (a.add (3 : Nat)) = some (Value.int IntKind.i64 x) ∧ R (x == (0 : Int)) w1))
  : CallT [Ty.one Sh.bool] Try.prog 109 [Value.pointer p0] w R :=
  fnV_sound (h := HT.z) Try.func109 (by kernel_rfl) (by kernel_rfl) (Eq.mp (by kernel_rfl) h)

/-- (*dunnage/disk.Disk).has -/
theorem disk_Disk_has.vc (p0 : Option Addr) (n1 : Int) (w : World) (R : Bool → World → Prop)
  (h : cnd (decide (n1 ≥ (0 : Int)))
      (onP p0 fun (a : Addr) =>
        ∃ (x : SV), w.cell? (a.add (0 : Nat)) = some (Value.slice x.a x.len x.cap) ∧ R (decide (n1 < (↑x.len : Int))) w)
      (R false w))
  : CallT [Ty.one Sh.bool] Try.prog 110 [Value.pointer p0, Value.int IntKind.i64 n1] w R :=
  fnV_sound (h := HT.z) Try.func110 (by kernel_rfl) (by kernel_rfl) (Eq.mp (by kernel_rfl) h)

/-- slices.Clone[[]byte,byte] -/
theorem slices_Clone_byte_byte.vc (s0 : SV) (w : World) (R : SV → World → Prop)
  (h : cnd s0.a.isNone (R (SV.mk none (0 : Nat) (0 : Nat)) w)
      (appV Try.prog [(23 : Nat), (23 : Nat)] (23 : Nat)
        [Value.slice (some (Addr.mk w.heap.size (0 : Nat) none)) (0 : Nat) (0 : Nat), Value.slice s0.a s0.len s0.cap]
        (w.alloc (Obj.cells #[] (5 : Nat))) fun (s : SV) (w' : World) => R s w'))
  : CallT [Ty.one Sh.slice] Try.prog 111 [Value.slice s0.a s0.len s0.cap] w R :=
  fnV_sound (h := HT.z) Try.func111 (by kernel_rfl) (by kernel_rfl) (Eq.mp (by kernel_rfl) h)

/-- dunnage/layout.Plan -/
theorem layout_Plan.vc (n0 : Int) (w : World) (R : (Int × Int × Int × Int × Int × Int × Int × Int × Int) × Int → World → Prop)
  (h : let w1 :=
      w.alloc
        (Obj.cells
          #[Value.int IntKind.i64 (0 : Int), Value.int IntKind.i64 (0 : Int), Value.int IntKind.i64 (0 : Int),
            Value.int IntKind.i64 (0 : Int), Value.int IntKind.i64 (0 : Int), Value.int IntKind.i64 (0 : Int),
            Value.int IntKind.i64 (0 : Int), Value.int IntKind.i64 (0 : Int), Value.int IntKind.i64 (0 : Int)]
          (83 : Nat));
    ∃ (R_1 : PUnit → World → Prop),
      (∃ (R_2 : Bool → World → Prop),
          cnd (decide (n0 < (256 : Int))) (R_2 true w1) (R_2 (decide (n0 > (65536 : Int))) w1) ∧
            ∀ (x : Bool) (j : Nat → Value) (w' : World),
              R_2 x w' →
                cnd x
                  (canSt w' (Addr.mk w.heap.size (0 : Nat) none) (9 : Nat) ∧
                    let w1 :=
                      setCells w' (Addr.mk w.heap.size (0 : Nat) none) (0 : Nat)
                        [Value.int IntKind.i64 (0 : Int), Value.int IntKind.i64 (0 : Int), Value.int IntKind.i64 (0 : Int),
                          Value.int IntKind.i64 (0 : Int), Value.int IntKind.i64 (0 : Int), Value.int IntKind.i64 (0 : Int),
                          Value.int IntKind.i64 (0 : Int), Value.int IntKind.i64 (0 : Int),
                          Value.int IntKind.i64 (0 : Int)];
                    ∃ (x : Int × Int × Int × Int × Int × Int × Int × Int × Int),
                      cellsAt w1 (Addr.mk w.heap.size (0 : Nat) none)
                          [Value.int IntKind.i64 x.fst, Value.int IntKind.i64 x.snd.fst,
                            Value.int IntKind.i64 x.snd.snd.fst, Value.int IntKind.i64 x.snd.snd.snd.fst,
                            Value.int IntKind.i64 x.snd.snd.snd.snd.fst, Value.int IntKind.i64 x.snd.snd.snd.snd.snd.fst,
                            Value.int IntKind.i64 x.snd.snd.snd.snd.snd.snd.fst,
                            Value.int IntKind.i64 x.snd.snd.snd.snd.snd.snd.snd.fst,
                            Value.int IntKind.i64 x.snd.snd.snd.snd.snd.snd.snd.snd] ∧
                        R
                          ((x.fst, x.snd.fst, x.snd.snd.fst, x.snd.snd.snd.fst, x.snd.snd.snd.snd.fst,
                              x.snd.snd.snd.snd.snd.fst, x.snd.snd.snd.snd.snd.snd.fst, x.snd.snd.snd.snd.snd.snd.snd.fst,
                              x.snd.snd.snd.snd.snd.snd.snd.snd),
                            (1 : Int))
                          w1)
                  (R_1 () w')) ∧
        ∀ (x : PUnit) (j : Nat → Value) (w' : World),
          R_1 x w' →
            let e1 := IntKind.i64.wrap ((3 : Int) * IntKind.i64.wrap ((IntKind.i64.wrap (n0 - (13 : Int))).tdiv (8 : Int)));
            canSt w' (Addr.mk w.heap.size (0 : Nat) none) (9 : Nat) ∧
              let w1 :=
                setCells w' (Addr.mk w.heap.size (0 : Nat) none) (0 : Nat)
                  [Value.int IntKind.i64 n0, Value.int IntKind.i64 (3 : Int), Value.int IntKind.i64 (13 : Int),
                    Value.int IntKind.i64 (IntKind.i64.wrap ((IntKind.i64.wrap (n0 - (13 : Int))).tdiv (8 : Int))),
                    Value.int IntKind.i64
                      (IntKind.i64.wrap
                        ((13 : Int) + IntKind.i64.wrap ((IntKind.i64.wrap (n0 - (13 : Int))).tdiv (8 : Int)))),
                    Value.int IntKind.i64
                      (IntKind.i64.wrap
                        ((13 : Int) +
                          IntKind.i64.wrap
                            ((2 : Int) * IntKind.i64.wrap ((IntKind.i64.wrap (n0 - (13 : Int))).tdiv (8 : Int))))),
                    Value.int IntKind.i64 (IntKind.i64.wrap ((IntKind.i64.wrap (n0 - (13 : Int))).tdiv (8 : Int))),
                    Value.int IntKind.i64 (IntKind.i64.wrap ((13 : Int) + e1)),
                    Value.int IntKind.i64
                      (IntKind.i64.wrap ((IntKind.i64.wrap (n0 - IntKind.i64.wrap ((13 : Int) + e1))).tdiv (32 : Int)))];
              ∃ (x : Int × Int × Int × Int × Int × Int × Int × Int × Int),
                cellsAt w1 (Addr.mk w.heap.size (0 : Nat) none)
                    [Value.int IntKind.i64 x.fst, Value.int IntKind.i64 x.snd.fst, Value.int IntKind.i64 x.snd.snd.fst,
                      Value.int IntKind.i64 x.snd.snd.snd.fst, Value.int IntKind.i64 x.snd.snd.snd.snd.fst,
                      Value.int IntKind.i64 x.snd.snd.snd.snd.snd.fst, Value.int IntKind.i64 x.snd.snd.snd.snd.snd.snd.fst,
                      Value.int IntKind.i64 x.snd.snd.snd.snd.snd.snd.snd.fst,
                      Value.int IntKind.i64 x.snd.snd.snd.snd.snd.snd.snd.snd] ∧
                  R
                    ((x.fst, x.snd.fst, x.snd.snd.fst, x.snd.snd.snd.fst, x.snd.snd.snd.snd.fst, x.snd.snd.snd.snd.snd.fst,
                        x.snd.snd.snd.snd.snd.snd.fst, x.snd.snd.snd.snd.snd.snd.snd.fst,
                        x.snd.snd.snd.snd.snd.snd.snd.snd),
                      (0 : Int))
                    w1)
  : CallT [Ty.agg
    [Sh.int IntKind.i64, Sh.int IntKind.i64, Sh.int IntKind.i64, Sh.int IntKind.i64, Sh.int IntKind.i64,
      Sh.int IntKind.i64, Sh.int IntKind.i64, Sh.int IntKind.i64, Sh.int IntKind.i64],
  Ty.one (Sh.int IntKind.i64)] Try.prog 132 [Value.int IntKind.i64 n0] w R :=
  fnV_sound (h := HT.z.sq (HT.jn [] (HT.jn [((11 : Nat), Ty.one Sh.bool)] HT.z HT.z) HT.z)) Try.func132 (by kernel_rfl) (by kernel_rfl) (Eq.mp (by kernel_rfl) h)

/-- dunnage/sector.Good -/
theorem sector_Good.vc (s0 : SV) (w : World) (R : Bool → World → Prop)
  (h : CallT [Ty.agg [Sh.int IntKind.u8, Sh.int IntKind.u64, Sh.slice], Ty.one (Sh.int IntKind.i64)] Try.prog (138 : Nat)
      [Value.slice s0.a s0.len s0.cap] w fun (x : (Int × Int × SV) × Int) (w' : World) =>
      let w1 :=
        w'.alloc
          (Obj.cells
            #[Value.int IntKind.u8 (0 : Int), Value.int IntKind.u64 (0 : Int), Value.slice none (0 : Nat) (0 : Nat)]
            (184 : Nat));
      canSt w1 (Addr.mk w'.heap.size (0 : Nat) none) (3 : Nat) ∧
        R (x.snd == (0 : Int))
          (setCells w1 (Addr.mk w'.heap.size (0 : Nat) none) (0 : Nat)
            [Value.int IntKind.u8 x.fst.fst, Value.int IntKind.u64 x.fst.snd.fst,
              Value.slice x.fst.snd.snd.a x.fst.snd.snd.len x.fst.snd.snd.cap]))
  : CallT [Ty.one Sh.bool] Try.prog 133 [Value.slice s0.a s0.len s0.cap] w R :=
  fnV_sound (h := HT.z) Try.func133 (by kernel_rfl) (by kernel_rfl) (Eq.mp (by kernel_rfl) h)

/-- dunnage/layout.Region -/
theorem layout_Region.vc (x0 : Int × Int × Int × Int × Int × Int × Int × Int × Int) (n1 : Int) (w : World) (R : Int → World → Prop)
  (h : let w1 :=
      w.alloc
        (Obj.cells
          #[Value.int IntKind.i64 x0.fst, Value.int IntKind.i64 x0.snd.fst, Value.int IntKind.i64 x0.snd.snd.fst,
            Value.int IntKind.i64 x0.snd.snd.snd.fst, Value.int IntKind.i64 x0.snd.snd.snd.snd.fst,
            Value.int IntKind.i64 x0.snd.snd.snd.snd.snd.fst, Value.int IntKind.i64 x0.snd.snd.snd.snd.snd.snd.fst,
            Value.int IntKind.i64 x0.snd.snd.snd.snd.snd.snd.snd.fst,
            Value.int IntKind.i64 x0.snd.snd.snd.snd.snd.snd.snd.snd]
          (83 : Nat));
    ∃ (x : Int × Int × Int × Int × Int × Int × Int × Int × Int),
      cellsAt w1 (Addr.mk w.heap.size (0 : Nat) none)
          [Value.int IntKind.i64 x.fst, Value.int IntKind.i64 x.snd.fst, Value.int IntKind.i64 x.snd.snd.fst,
            Value.int IntKind.i64 x.snd.snd.snd.fst, Value.int IntKind.i64 x.snd.snd.snd.snd.fst,
            Value.int IntKind.i64 x.snd.snd.snd.snd.snd.fst, Value.int IntKind.i64 x.snd.snd.snd.snd.snd.snd.fst,
            Value.int IntKind.i64 x.snd.snd.snd.snd.snd.snd.snd.fst,
            Value.int IntKind.i64 x.snd.snd.snd.snd.snd.snd.snd.snd] ∧
        CallT [Ty.one Sh.slice] Try.prog (169 : Nat)
          [Value.agg
              #[Value.int IntKind.i64 x.fst, Value.int IntKind.i64 x.snd.fst, Value.int IntKind.i64 x.snd.snd.fst,
                Value.int IntKind.i64 x.snd.snd.snd.fst, Value.int IntKind.i64 x.snd.snd.snd.snd.fst,
                Value.int IntKind.i64 x.snd.snd.snd.snd.snd.fst, Value.int IntKind.i64 x.snd.snd.snd.snd.snd.snd.fst,
                Value.int IntKind.i64 x.snd.snd.snd.snd.snd.snd.snd.fst,
                Value.int IntKind.i64 x.snd.snd.snd.snd.snd.snd.snd.snd]]
          w1 fun (x : SV) (w' : World) =>
          ∃ (I : Nat → Int → World → Prop),
            (∃ (n : Nat), I n (0 : Int) w') ∧
              ∀ (n : Nat) (x_1 : Int) (j : Nat → Value) (w' : World),
                I n x_1 w' →
                  ∃ (R_1 : PUnit → World → Prop),
                    cnd (decide (x_1 < (↑x.len : Int)))
                        (cnd (decide (n1 ≥ (0 : Int)))
                          (∃ (x : Int),
                            w'.cell? ((Addr.mk w.heap.size (0 : Nat) none).add (0 : Nat)) = some (Value.int IntKind.i64 x) ∧
                              cnd (decide (n1 < x)) (R_1 () w') (R (0 : Int) w'))
                          (R (0 : Int) w'))
                        (R (0 : Int) w') ∧
                      ∀ (x_2 : PUnit) (j : Nat → Value) (w' : World),
                        R_1 x_2 w' →
                          (0 : Int) ≤ x_1 ∧
                            x_1 < (↑x.len : Int) ∧
                              onP x.a fun (A : Addr) =>
                                ∃ (x : Int × Int × Int),
                                  cellsAt w' (A.add (x_1.toNat * (3 : Nat)))
                                      [Value.int IntKind.i64 x.fst, Value.int IntKind.i64 x.snd.fst,
                                        Value.int IntKind.i64 x.snd.snd] ∧
                                    let w1 :=
                                      w'.alloc
                                        (Obj.cells
                                          #[Value.int IntKind.i64 (0 : Int), Value.int IntKind.i64 (0 : Int),
                                            Value.int IntKind.i64 (0 : Int)]
                                          (220 : Nat));
                                    canSt w1 (Addr.mk w'.heap.size (0 : Nat) none) (3 : Nat) ∧
                                      let w1 :=
                                        setCells w1 (Addr.mk w'.heap.size (0 : Nat) none) (0 : Nat)
                                          [Value.int IntKind.i64 x.fst, Value.int IntKind.i64 x.snd.fst,
                                            Value.int IntKind.i64 x.snd.snd];
                                      ∃ (x : Int),
                                        w1.cell? ((Addr.mk w'.heap.size (0 : Nat) none).add (1 : Nat)) =
                                            some (Value.int IntKind.i64 x) ∧
                                          cnd (decide (n1 ≥ x))
                                            (∃ (x : Int),
                                              w1.cell? ((Addr.mk w'.heap.size (0 : Nat) none).add (1 : Nat)) =
                                                  some (Value.int IntKind.i64 x) ∧
                                                ∃ (x_3 : Int),
                                                  w1.cell? ((Addr.mk w'.heap.size (0 : Nat) none).add (2 : Nat)) =
                                                      some (Value.int IntKind.i64 x_3) ∧
                                                    cnd (decide (n1 < IntKind.i64.wrap (x + x_3)))
                                                      (∃ (x : Int),
                                                        w1.cell? ((Addr.mk w'.heap.size (0 : Nat) none).add (0 : Nat)) =
                                                            some (Value.int IntKind.i64 x) ∧
                                                          R x w1)
                                                      (∃ (m : Nat), m < n ∧ I m (IntKind.i64.wrap (x_1 + (1 : Int))) w1))
                                            (∃ (m : Nat), m < n ∧ I m (IntKind.i64.wrap (x_1 + (1 : Int))) w1))
  : CallT [Ty.one (Sh.int IntKind.i64)] Try.prog 134 [Value.agg
    #[Value.int IntKind.i64 x0.fst, Value.int IntKind.i64 x0.snd.fst, Value.int IntKind.i64 x0.snd.snd.fst,
      Value.int IntKind.i64 x0.snd.snd.snd.fst, Value.int IntKind.i64 x0.snd.snd.snd.snd.fst,
      Value.int IntKind.i64 x0.snd.snd.snd.snd.snd.fst, Value.int IntKind.i64 x0.snd.snd.snd.snd.snd.snd.fst,
      Value.int IntKind.i64 x0.snd.snd.snd.snd.snd.snd.snd.fst,
      Value.int IntKind.i64 x0.snd.snd.snd.snd.snd.snd.snd.snd],
  Value.int IntKind.i64 n1] w R :=
  fnV_sound (h := HT.z.sq (HT.z.sq ((HT.z.sq (HT.lp [((6 : Nat), Ty.one (Sh.int IntKind.i64))] (HT.jn [] HT.z HT.z)).bl).sq HT.z))) Try.func134 (by kernel_rfl) (by kernel_rfl) (Eq.mp (by kernel_rfl) h)

end Go.Proofs
/- Whole numbers' bits as Go has them, over the natural numbers. Conditions: that the numbers fit their kinds. -/
namespace Go.Vc
open Go
def IntKind.uns : IntKind → Bool | .u8 | .u16 | .u32 | .u64 => true | _ => false
theorem wrap_nat {k : IntKind} (hk : IntKind.uns k = true) {n : Nat} (h : n < 2 ^ k.bits) : k.wrap (n : Int) = n := by
  cases k <;> simp [IntKind.uns] at hk <;> simp only [IntKind.bits] at h <;> simp [IntKind.wrap, IntKind.signed, IntKind.bits] <;> omega
theorem wrap_mod {k : IntKind} (hk : IntKind.uns k = true) (n : Nat) : k.wrap (n : Int) = ((n % 2 ^ k.bits : Nat) : Int) := by
  cases k <;> simp [IntKind.uns] at hk <;> simp [IntKind.wrap, IntKind.signed, IntKind.bits]
theorem ofInt_nat (b n : Nat) : BitVec.ofInt b (n : Int) = BitVec.ofNat b n := BitVec.ofInt_natCast b n
theorem band_nat {k : IntKind} (hk : IntKind.uns k = true) {a b : Nat} (ha : a < 2 ^ k.bits) (hb : b < 2 ^ k.bits) : band k a b = ((a &&& b : Nat) : Int) := by
  unfold band
  rw [ofInt_nat, ofInt_nat, BitVec.toNat_and, BitVec.toNat_ofNat, BitVec.toNat_ofNat, Nat.mod_eq_of_lt ha, Nat.mod_eq_of_lt hb]
  exact wrap_nat hk (Nat.and_lt_two_pow _ hb)
theorem bor_nat {k : IntKind} (hk : IntKind.uns k = true) {a b : Nat} (ha : a < 2 ^ k.bits) (hb : b < 2 ^ k.bits) : bor k a b = ((a ||| b : Nat) : Int) := by
  unfold bor
  rw [ofInt_nat, ofInt_nat, BitVec.toNat_or, BitVec.toNat_ofNat, BitVec.toNat_ofNat, Nat.mod_eq_of_lt ha, Nat.mod_eq_of_lt hb]
  exact wrap_nat hk (Nat.or_lt_two_pow ha hb)
theorem bxor_nat {k : IntKind} (hk : IntKind.uns k = true) {a b : Nat} (ha : a < 2 ^ k.bits) (hb : b < 2 ^ k.bits) : bxor k a b = ((a ^^^ b : Nat) : Int) := by
  unfold bxor
  rw [ofInt_nat, ofInt_nat, BitVec.toNat_xor, BitVec.toNat_ofNat, BitVec.toNat_ofNat, Nat.mod_eq_of_lt ha, Nat.mod_eq_of_lt hb]
  exact wrap_nat hk (Nat.xor_lt_two_pow ha hb)
theorem shr_nat {k : IntKind} {a b : Nat} (hb : b ≤ k.bits) : shr k a b = ((a / 2 ^ b : Nat) : Int) := by
  unfold shr
  rw [Int.toNat_natCast, Nat.min_eq_left hb, Int.fdiv_eq_ediv_of_nonneg _ (by have := Nat.two_pow_pos b; exact_mod_cast Nat.zero_le _)]
  norm_cast
theorem shl_nat {k : IntKind} (hk : IntKind.uns k = true) {a b : Nat} (hb : b ≤ k.bits) : shl k a b = ((a * 2 ^ b % 2 ^ k.bits : Nat) : Int) := by
  unfold shl
  rw [Int.toNat_natCast, Nat.min_eq_left hb]
  have : ((a : Int) * 2 ^ b) = ((a * 2 ^ b : Nat) : Int) := by norm_cast
  rw [this, wrap_mod hk]
end Go.Vc
/- The numbers of the seat's functions. Conditions: none. -/
namespace Go.Proofs.F
open Go
abbrev dunnagelaw29_ScrubTurned : FuncId := 20
abbrev disk_New : FuncId := 37
abbrev disk_Disk_Flush : FuncId := 40
abbrev disk_Disk_Write : FuncId := 41
abbrev disk_Disk_Down : FuncId := 43
abbrev disk_Disk_Read : FuncId := 44
abbrev disk_Disk_Flip : FuncId := 57
abbrev disk_Disk_Size : FuncId := 61
abbrev dunnageref05_Plan : FuncId := 64
abbrev scrub_Look : FuncId := 65
abbrev scrub_Part : FuncId := 66
abbrev dunnagelaw29_awake : FuncId := 67
abbrev dunnagelaw29_ran : FuncId := 80
abbrev dunnageref05_Region : FuncId := 82
abbrev dunnagehelp_Plain_api_Bad : FuncId := 83
abbrev disk_Disk_ready : FuncId := 107
abbrev disk_Disk_counted : FuncId := 108
abbrev disk_Disk_hit : FuncId := 109
abbrev disk_Disk_has : FuncId := 110
abbrev slices_Clone_byte_byte : FuncId := 111
abbrev layout_Plan : FuncId := 132
abbrev sector_Good : FuncId := 133
abbrev layout_Region : FuncId := 134
abbrev sector_Open : FuncId := 138
abbrev dunnageref03_Seal : FuncId := 140
abbrev dunnageref05_in : FuncId := 142
abbrev dunnagehelp_Same_api_Bad : FuncId := 143
abbrev dunnagehelp_Plain_api_Bad_1 : FuncId := 144
abbrev word_walk_over : FuncId := 164
abbrev layout_regions : FuncId := 169
abbrev sector_Known : FuncId := 170
abbrev crc_Sum : FuncId := 172
abbrev word_Zero : FuncId := 173
abbrev word_Get : FuncId := 174
abbrev dunnageref03_Known : FuncId := 175
abbrev dunnageref03_number : FuncId := 176
abbrev dunnageref02_Sum : FuncId := 177
abbrev crc_More : FuncId := 189
abbrev word_Zero_1 : FuncId := 190
abbrev word_Get_1 : FuncId := 191
abbrev dunnageref02_More : FuncId := 192
abbrev crc_half : FuncId := 193
abbrev dunnageref02_step : FuncId := 194
end Go.Proofs.F
namespace Go.Proofs.T
abbrev int : TypeId := 3
abbrev bool : TypeId := 4
abbrev uint8 : TypeId := 5
abbrev string : TypeId := 9
abbrev uint64 : TypeId := 22
abbrev sl_uint8 : TypeId := 23
abbrev api_Layout : TypeId := 83
abbrev sl_api_Bad : TypeId := 86
abbrev sl_dunnagelaw29_Item : TypeId := 106
abbrev api_Bad : TypeId := 111
abbrev dunnagelaw29_Item : TypeId := 115
abbrev sl_disk_content : TypeId := 148
abbrev sl_disk_write : TypeId := 149
abbrev disk_Disk : TypeId := 151
abbrev disk_content : TypeId := 154
abbrev disk_write : TypeId := 156
abbrev api_Sector : TypeId := 184
abbrev word_walk : TypeId := 211
abbrev layout_region : TypeId := 220
abbrev a16_uint32 : TypeId := 239
end Go.Proofs.T
/- Bytes: the seat's closed facts; word.Var, word.Zero, dunnagehelp.Bytes. Conditions: those of each contract. -/
namespace Go.Proofs
open Go Go.Vc

abbrev OwnB (w : World) (B : Nat) (s : SV) (l : List UInt8) : Prop := Own w B T.uint8 1 s (B8 l)
theorem _root_.Go.Vc.Own.lenB {w : World} {B : Nat} {s : SV} {l : List UInt8} (h : OwnB w B s l) : s.len = l.length := by have := h.len; rw [B8_length, Nat.mul_one] at this; exact this.symm

theorem appB : AppT Try.prog [T.sl_uint8, T.sl_uint8] T.uint8 1 1 [.int .u8 0] :=
  ⟨⟨T.sl_uint8, rfl, by kernel_rfl⟩, ⟨T.sl_uint8, _, rfl, by kernel_rfl, .inr ⟨T.uint8, rfl⟩⟩, by kernel_rfl, by kernel_rfl, by decide, by kernel_rfl, rfl, by decide⟩

/-! ### word.Var -/
theorem u8_of (n : Nat) : IntKind.u8.wrap (n : Int) = ((UInt8.ofNat n).toNat : Int) := by
  rw [wrap_mod rfl]; simp [IntKind.bits]

/-! ### dunnagehelp.Bytes -/
end Go.Proofs
/- A block of one's own with spare room; an append that has room; parts exchanged. Conditions: those that each lemma names. -/
namespace Go.Vc
open Go
/-- A block of one's own, from B on: the slice's elements, and what stands in its spare room. -/
structure Spare (w : World) (B : Nat) (T : TypeId) (sz : Nat) (s : SV) (b : Nat) (cs rest : List Value) : Prop where
  a : s.a = some ⟨b, 0, none⟩
  ge : B ≤ b
  blk : w.heap[b]? = some (.cells (cs ++ rest).toArray T (0, 0))
  len : cs.length = s.len * sz
  cap : (cs ++ rest).length = s.cap * sz
theorem Spare.own {w : World} {B : Nat} {T : TypeId} {sz : Nat} {s : SV} {b : Nat} {cs rest : List Value} (h : Spare w B T sz s b cs rest) (hle : s.len ≤ s.cap) : Own w B T sz s cs :=
  ⟨h.len, .inr ⟨b, rest, h.a, h.ge, h.blk, h.cap, hle⟩⟩
theorem Spare.rd {w : World} {B : Nat} {T : TypeId} {sz : Nat} {s : SV} {b : Nat} {cs rest : List Value} (h : Spare w B T sz s b cs rest) : Rd w sz s cs :=
  ⟨h.len, fun hn => by rw [h.a] at hn; simp at hn, fun A hA => by
    rw [h.a] at hA
    obtain rfl := Option.some.inj hA
    refine cellsAt_blk h.blk fun j v hv => ?_
    have : j < cs.length := (List.getElem?_eq_some_iff.1 hv).1
    simp [List.getElem?_append_left this, hv]⟩
theorem Spare.upd {M : Nat → Prop} {w w' : World} {B : Nat} {T : TypeId} {sz : Nat} {s : SV} {b : Nat} {cs rest : List Value} (h : Spare w B T sz s b cs rest) (hu : Upd M w w') (hm : ¬ M b) : Spare w' B T sz s b cs rest :=
  ⟨h.a, h.ge, hu.get h.blk hm, h.len, h.cap⟩
theorem Spare.ext {w w' : World} {B : Nat} {T : TypeId} {sz : Nat} {s : SV} {b : Nat} {cs rest : List Value} (h : Spare w B T sz s b cs rest) (hu : Ext w w') : Spare w' B T sz s b cs rest := h.upd hu id
theorem Spare.lt {w : World} {B : Nat} {T : TypeId} {sz : Nat} {s : SV} {b : Nat} {cs rest : List Value} (h : Spare w B T sz s b cs rest) : b < w.heap.size := lt_of_blk h.blk
theorem Spare.mono {w : World} {B B' : Nat} {T : TypeId} {sz : Nat} {s : SV} {b : Nat} {cs rest : List Value} (h : Spare w B T sz s b cs rest) (hB : B' ≤ B) : Spare w B' T sz s b cs rest :=
  ⟨h.a, Nat.le_trans hB h.ge, h.blk, h.len, h.cap⟩

theorem subA_zero (a : Option Addr) (sz m : Nat) : subA a 0 sz m = a := by
  unfold subA
  split
  · rfl
  · cases a <;> simp [add_zero']
theorem reps_eq {v : Value} : ∀ n, reps n [v] = List.replicate n v
  | 0 => rfl
  | n + 1 => by rw [reps, reps_eq n]; rfl
end Go.Vc
/- dunnagehelp over bytes: Own, Plain, Kept, Spoil; slices.Clone. Conditions: those of each contract. -/
namespace Go.Proofs
open Go Go.Vc

/-! ### Own -/
/-! ### Plain, Kept -/
/-! ### Spoil, Clone -/
theorem slices_Clone_byte_byte.spec {s : SV} {x : List UInt8} {w : World} (hs : RdB w s x) (hx : x.length ≤ 140737488351232) :
    CallT [.one .slice] Try.prog F.slices_Clone_byte_byte [.slice s.a s.len s.cap] w fun o w' => OwnB w' w.heap.size o x ∧ Ext w w' ∧ (s.a ≠ none → o.a ≠ none) := by
  refine slices_Clone_byte_byte.vc s w _ ?_
  have hsl := hs.lenB
  cases ha : s.a with
  | none =>
    have hx0 : x = [] := by have := hs.nil ha; rw [hsl] at this; exact List.eq_nil_of_length_eq_zero this
    subst hx0
    exact ⟨Own.nil _ _ _ _, Upd.refl _ _, fun h => absurd rfl h⟩
  | some A =>
    have h0 : OwnB (w.alloc (.cells #[] T.uint8)) w.heap.size ⟨some ⟨w.heap.size, 0, none⟩, 0, 0⟩ [] := Own.new w T.uint8 1 0 [] rfl
    have := app_rd (ty := T.sl_uint8) (K := fun s' w' => OwnB w' w.heap.size s' x ∧ Ext w w' ∧ (some A ≠ none → s'.a ≠ none)) (t := s) appB (ext_alloc w _) h0 (hs.ext (ext_alloc _ _)) (B8_one x) (fun hlt => ?_) ?_
    · rw [ha] at this; exact this
    · simp only [Nat.zero_add] at hlt ⊢
      rw [nextcap_zero hlt]; omega
    · intro s' w' ho hu _ hn
      exact ⟨ho, hu, fun _ => hn (.inl (by simp))⟩
end Go.Proofs
/- The remainders of chapter 02 over the natural numbers: half a step, its powers, products; what turned bits do. Conditions: that the numbers are below 2^32. -/
namespace Go.Crc
def P : Nat := 2197175160
def M : Nat := 4294967295
def one : Nat := 2147483648
def half (c : Nat) : Nat := c / 2 ^^^ (if c % 2 = 1 then P else 0)
def hn : Nat → Nat → Nat | 0, c => c | n + 1, c => hn n (half c)
def xs : Nat → (Nat → Nat) → Nat | 0, _ => 0 | n + 1, f => xs n f ^^^ f n
structure Lin (f : Nat → Nat) : Prop where
  z : f 0 = 0
  x : ∀ a b, f (a ^^^ b) = f a ^^^ f b
theorem xor4 (a b c d : Nat) : (a ^^^ b) ^^^ (c ^^^ d) = (a ^^^ c) ^^^ (b ^^^ d) := by
  rw [Nat.xor_assoc, Nat.xor_assoc, ← Nat.xor_assoc b c d, Nat.xor_comm b c, Nat.xor_assoc c b d]
theorem xor_div2 (a b : Nat) : (a ^^^ b) / 2 = a / 2 ^^^ b / 2 := by
  have := @Nat.xor_div_two_pow a b 1
  simpa using this
theorem xor_mod2 (a b : Nat) : (a ^^^ b) % 2 = (a % 2 + b % 2) % 2 := by
  have := @Nat.xor_mod_two_pow a b 1
  simp at this
  rw [this]
  rcases Nat.mod_two_eq_zero_or_one a with h | h <;> rcases Nat.mod_two_eq_zero_or_one b with h' | h' <;> rw [h, h'] <;> rfl
theorem half_lin : Lin half := by
  refine ⟨rfl, fun a b => ?_⟩
  unfold half
  rw [xor_div2, xor_mod2]
  rcases Nat.mod_two_eq_zero_or_one a with h | h <;> rcases Nat.mod_two_eq_zero_or_one b with h' | h' <;> rw [h, h'] <;> simp
  · exact Nat.xor_assoc _ _ _
  · rw [Nat.xor_assoc, Nat.xor_assoc, Nat.xor_comm P]
  · rw [xor4, Nat.xor_self, Nat.xor_zero]
theorem Lin.id : Lin (fun c => c) := ⟨rfl, fun _ _ => rfl⟩
theorem Lin.comp {f g : Nat → Nat} (hf : Lin f) (hg : Lin g) : Lin (fun c => f (g c)) := ⟨by rw [hg.z, hf.z], fun a b => by rw [hg.x, hf.x]⟩
theorem Lin.add {f g : Nat → Nat} (hf : Lin f) (hg : Lin g) : Lin (fun c => f c ^^^ g c) := ⟨by simp [hf.z, hg.z], fun a b => by simp only [hf.x, hg.x]; rw [xor4]⟩
theorem hn_lin : ∀ n, Lin (hn n)
  | 0 => Lin.id
  | n + 1 => (hn_lin n).comp half_lin
theorem hn_half : ∀ n c, hn n (half c) = half (hn n c)
  | 0, _ => rfl
  | n + 1, c => hn_half n (half c)
theorem hn_add : ∀ m n c, hn (m + n) c = hn m (hn n c)
  | 0, n, c => by rw [Nat.zero_add]; rfl
  | m + 1, n, c => by rw [show m + 1 + n = (m + n) + 1 by omega, hn, hn_add m n, hn, hn_half n]
theorem half_lt {c : Nat} (h : c < 2 ^ 32) : half c < 2 ^ 32 := by
  unfold half
  refine Nat.xor_lt_two_pow (by omega) ?_
  split <;> decide
theorem hn_lt : ∀ (n : Nat) {c : Nat}, c < 2 ^ 32 → hn n c < 2 ^ 32
  | 0, _, h => h
  | n + 1, _, h => hn_lt n (half_lt h)
theorem lin_ext' {f g : Nat → Nat} (hf : Lin f) (hg : Lin g) : ∀ k, (∀ j, j < k → f (2 ^ j) = g (2 ^ j)) → ∀ c, c < 2 ^ k → f c = g c
  | 0, _, c, hc => by
    have : c = 0 := by simpa using hc
    subst this; rw [hf.z, hg.z]
  | k + 1, h, c, hc => by
    have hpos : 0 < 2 ^ k := Nat.pow_pos (by decide)
    have hlt := Nat.mod_lt c hpos
    by_cases hb : c < 2 ^ k
    · exact lin_ext' hf hg k (fun j hj => h j (by omega)) c hb
    · have hd : c = 2 ^ k * 1 + c % 2 ^ k := by
        rw [Nat.pow_succ] at hc
        have h1 : c / 2 ^ k = 1 := by
          apply Nat.div_eq_of_lt_le <;> omega
        have := Nat.div_add_mod c (2 ^ k)
        rw [h1] at this; exact this.symm
      have hx : c = 2 ^ k ^^^ c % 2 ^ k := by
        apply Nat.eq_of_testBit_eq
        intro i
        rw [Nat.testBit_xor]
        conv => lhs; rw [hd, Nat.two_pow_add_eq_or_of_lt hlt, Nat.mul_one]
        rw [Nat.testBit_or, Nat.testBit_two_pow]
        by_cases hi : k = i
        · subst hi
          have : (c % 2 ^ k).testBit k = false := Nat.testBit_lt_two_pow hlt
          simp [this]
        · simp [hi]
      rw [hx, hf.x, hg.x, h k (by omega), lin_ext' hf hg k (fun j hj => h j (by omega)) _ hlt]
theorem lin_ext {f g : Nat → Nat} (hf : Lin f) (hg : Lin g) (h : ∀ j, j < 32 → f (2 ^ j) = g (2 ^ j)) {c : Nat} (hc : c < 2 ^ 32) : f c = g c := lin_ext' hf hg 32 h c hc
theorem div_lin (k : Nat) : Lin (fun c => c / 2 ^ k) := ⟨Nat.zero_div _, fun _ _ => Nat.xor_div_two_pow⟩
theorem mod_lin (k : Nat) : Lin (fun c => c % 2 ^ k) := ⟨Nat.zero_mod _, fun _ _ => Nat.xor_mod_two_pow⟩
/-- Four steps at once. -/
theorem hn4 {c : Nat} (h : c < 2 ^ 32) : hn 4 c = c / 16 ^^^ hn 4 (c % 16) := by
  refine lin_ext (f := hn 4) (g := fun c => c / 2 ^ 4 ^^^ hn 4 (c % 2 ^ 4)) (hn_lin 4) ((div_lin 4).add ((hn_lin 4).comp (mod_lin 4))) ?_ h
  decide +kernel

/-! ### sums -/
theorem xs_congr {n : Nat} {f g : Nat → Nat} (h : ∀ i, i < n → f i = g i) : xs n f = xs n g := by
  induction n with
  | zero => rfl
  | succ n ih => rw [xs, xs, ih (fun i hi => h i (by omega)), h n (by omega)]
theorem xs_zero {n : Nat} {f : Nat → Nat} (h : ∀ i, i < n → f i = 0) : xs n f = 0 := by
  induction n with
  | zero => rfl
  | succ n ih => rw [xs, ih (fun i hi => h i (by omega)), h n (by omega)]; rfl
theorem xs_xor (n : Nat) (f g : Nat → Nat) : xs n (fun i => f i ^^^ g i) = xs n f ^^^ xs n g := by
  induction n with
  | zero => simp [xs]
  | succ n ih => rw [xs, xs, xs, ih, xor4]
theorem Lin.xs {f : Nat → Nat} (hf : Lin f) (n : Nat) (g : Nat → Nat) : f (xs n g) = Go.Crc.xs n (fun i => f (g i)) := by
  induction n with
  | zero => exact hf.z
  | succ n ih => rw [Go.Crc.xs, Go.Crc.xs, hf.x, ih]
/-! ### products -/
theorem Lin.sum {g : Nat → Nat → Nat} (h : ∀ i, Lin (g i)) (n : Nat) : Lin (fun c => Go.Crc.xs n fun i => g i c) := by
  refine ⟨xs_zero fun i _ => (h i).z, fun a b => ?_⟩
  rw [← xs_xor]
  exact xs_congr fun i _ => (h i).x a b
def X (k : Nat) : Nat := hn k one
theorem pow_X : ∀ j, j < 32 → 2 ^ j = X (31 - j) := by decide +kernel
/-! ### the sum of bytes -/
def raw (s : Nat) : List UInt8 → Nat | [] => s | c :: r => raw (hn 8 (s ^^^ c.toNat)) r
def more (sum : Nat) (l : List UInt8) : Nat := raw (sum ^^^ M) l ^^^ M
theorem raw_lt : ∀ (l : List UInt8) {s : Nat}, s < 2 ^ 32 → raw s l < 2 ^ 32
  | [], _, h => h
  | _ :: r, _, h => raw_lt r (hn_lt 8 (Nat.xor_lt_two_pow h (Nat.lt_of_lt_of_le (UInt8.toNat_lt _) (by decide))))
theorem more_lt {s : Nat} (h : s < 2 ^ 32) (l : List UInt8) : more s l < 2 ^ 32 := Nat.xor_lt_two_pow (raw_lt l (Nat.xor_lt_two_pow h (by decide))) (by decide)
theorem raw_append : ∀ (a b : List UInt8) (s : Nat), raw s (a ++ b) = raw (raw s a) b
  | [], _, _ => rfl
  | c :: r, b, s => raw_append r b _
theorem raw_snoc (a : List UInt8) (c : UInt8) (s : Nat) : raw s (a ++ [c]) = hn 8 (raw s a ^^^ c.toNat) := by rw [raw_append]; rfl
/-- What comes ahead, and the bytes themselves. -/
theorem raw_split : ∀ (l : List UInt8) (s : Nat), raw s l = hn (8 * l.length) s ^^^ raw 0 l
  | [], s => by simp [raw, hn]
  | c :: r, s => by
    rw [raw, raw_split r, raw, raw_split r (hn 8 (0 ^^^ c.toNat)), Nat.zero_xor, (hn_lin 8).x, (hn_lin _).x, List.length_cons, show 8 * (r.length + 1) = 8 * r.length + 8 by omega, hn_add, Nat.xor_assoc]
end Go.Crc
/- crc and the document's sums: their contracts. Conditions: those of each contract. -/
namespace Go.Proofs
open Go Go.Vc Go.Crc
theorem u32lt {n : Nat} (h : n < 2 ^ 32) : n < 2 ^ IntKind.u32.bits := h
theorem half_val {c : Nat} (hc : c < 2 ^ 32) : (c % 2 = 1 → bxor .u32 (shr .u32 (c : Int) 1) 2197175160 = ((half c : Nat) : Int)) ∧ (c % 2 ≠ 1 → shr .u32 (c : Int) 1 = ((half c : Nat) : Int)) ∧ band .u32 (c : Int) 1 = ((c % 2 : Nat) : Int) := by
  have h1 : shr .u32 (c : Int) 1 = ((c / 2 : Nat) : Int) := by
    have := shr_nat (k := .u32) (a := c) (b := 1) (by decide)
    simpa using this
  have h2 : band .u32 (c : Int) ((1 : Nat) : Int) = ((c &&& 1 : Nat) : Int) := band_nat rfl (u32lt hc) (by decide)
  have h3 : c &&& 1 = c % 2 := Nat.and_one_is_mod c
  have h4 : bxor .u32 ((c / 2 : Nat) : Int) ((P : Nat) : Int) = ((c / 2 ^^^ P : Nat) : Int) := bxor_nat rfl (u32lt (by omega)) (by decide)
  refine ⟨fun h => ?_, fun h => ?_, ?_⟩
  · rw [h1, half, if_pos h]; exact h4
  · rw [h1, half, if_neg h, Nat.xor_zero]
  · rw [← h3]; exact h2
theorem crc_half.spec {c : Nat} (hc : c < 2 ^ 32) (w : World) : CallT [.one (.int .u32)] Try.prog F.crc_half [.int .u32 c] w fun r w' => r = half c ∧ w = w' := by
  refine crc_half.vc c w _ ?_
  obtain ⟨h1, h2, h3⟩ := half_val hc
  rw [h3]
  refine cnd_bne (fun h => ⟨h1 (by omega), rfl⟩) (fun h => ⟨h2 (by omega), rfl⟩)
theorem dunnageref02_step.spec {c : Nat} (hc : c < 2 ^ 32) (w : World) : CallT [.one (.int .u32)] Try.prog F.dunnageref02_step [.int .u32 c] w fun r w' => r = half c ∧ w = w' := by
  refine dunnageref02_step.vc c w _ ?_
  obtain ⟨h1, h2, h3⟩ := half_val hc
  rw [h3]
  refine cnd_beq (fun h => ⟨h1 (by omega), rfl⟩) (fun h => ⟨h2 (by omega), rfl⟩)
theorem bx {a b : Nat} (ha : a < 2 ^ 32) (hb : b < 2 ^ 32) : bxor .u32 (a : Int) (b : Int) = ((a ^^^ b : Nat) : Int) := bxor_nat rfl (u32lt ha) (u32lt hb)
theorem dunnageref02_More.spec {w : World} {s : SV} {l : List UInt8} (hs : RdB w s l) (hl : l.length < 2 ^ 62) {n : Nat} (hn0 : n < 2 ^ 32) :
    CallT [.one (.int .u32)] Try.prog F.dunnageref02_More [.int .u32 n, .slice s.a s.len s.cap] w fun r w' => r = more n l ∧ w = w' := by
  refine dunnageref02_More.vc n s w _ ?_
  have hsl := hs.lenB
  have hM : n ^^^ M < 2 ^ 32 := Nat.xor_lt_two_pow hn0 (by decide)
  refine ⟨fun m x w' => ∃ i : Nat, x = (((raw (n ^^^ M) (l.take i) : Nat) : Int), (i : Int)) ∧ i ≤ l.length ∧ m = l.length - i ∧ w = w', ⟨_, 0, by rw [List.take_zero]; exact congrArg (·, (0 : Int)) (bx hn0 (by decide)), by omega, rfl, rfl⟩, ?_⟩
  rintro m _ j _ ⟨i, rfl, hi, rfl, rfl⟩
  dsimp only
  have hr := raw_lt (l.take i) hM
  refine cnd_dec (fun hlt => ?_) (fun hge => ?_)
  · have hil : i < l.length := by omega
    have hb := (l[i]).toNat_lt
    refine ⟨by omega, by omega, SV.getB hs hil fun A hA => ⟨(l[i]).toNat, hs.cellB (List.getElem?_eq_getElem hil) hA, ?_⟩⟩
    rw [u32_id (x := (l[i]).toNat) (by omega) (by omega), bx hr (by omega)]
    have hx : raw (n ^^^ M) (l.take i) ^^^ (l[i]).toNat < 2 ^ 32 := Nat.xor_lt_two_pow hr (by omega)
    refine ⟨fun q x w' => ∃ k : Nat, x = (((Crc.hn k (raw (n ^^^ M) (l.take i) ^^^ (l[i]).toNat) : Nat) : Int), (k : Int)) ∧ k ≤ 8 ∧ q = 8 - k ∧ w = w', ⟨_, 0, rfl, by omega, rfl, rfl⟩, ?_⟩
    rintro q _ j' _ ⟨k, rfl, hk, rfl, rfl⟩
    dsimp only
    refine cnd_dec (fun hlt' => ?_) (fun hge' => ?_)
    · refine CallT.mono (dunnageref02_step.spec (Crc.hn_lt k hx) _) ?_
      rintro _ _ ⟨rfl, rfl⟩
      exact ⟨8 - (k + 1), by omega, k + 1, by rw [i64_id (by omega) (by omega), ← Crc.hn_half, Crc.hn]; rfl, by omega, rfl, rfl⟩
    · have : k = 8 := by omega
      subst this
      exact ⟨_, by omega, i + 1, by rw [i64_id (by omega) (by omega), List.take_add_one, List.getElem?_eq_getElem hil, Option.toList_some, raw_snoc]; rfl, by omega, rfl, rfl⟩
  · have : i = l.length := by omega
    subst this
    rw [List.take_length] at hr ⊢
    exact ⟨bx hr (by decide), rfl⟩

def qrow (i : Nat) : List Value := (List.range 16).map fun k => .int .u32 ((if k < i then Crc.hn 4 k else 0 : Nat) : Int)
theorem qrow_set (i : Nat) (h : i < 16) : (qrow i).set i (.int .u32 ((Crc.hn 4 i : Nat) : Int)) = qrow (i + 1) := by
  unfold qrow
  apply List.ext_getElem?
  intro k
  rw [List.getElem?_set]
  simp only [List.getElem?_map, List.length_map, List.length_range]
  by_cases hk : i = k
  · subst hk
    simp [h]
  · rw [if_neg hk]
    by_cases hk16 : k < 16
    · simp only [List.getElem?_range hk16, Option.map_some]
      congr 3
      by_cases hki : k < i
      · rw [if_pos hki, if_pos (by omega)]
      · rw [if_neg hki, if_neg (by omega)]
    · rw [List.getElem?_eq_none (by simp; omega)]; rfl
theorem qrow_get (i : Nat) (h : i < 16) : (qrow 16)[i]? = some (.int .u32 ((Crc.hn 4 i : Nat) : Int)) := by
  simp [qrow, h]
theorem nib {s : Nat} (hs : s < 2 ^ 32) : band .u32 (s : Int) 15 = ((s % 16 : Nat) : Int) := by
  have h2 : band .u32 (s : Int) ((15 : Nat) : Int) = ((s &&& 15 : Nat) : Int) := band_nat rfl (u32lt hs) (by decide)
  have h3 : s &&& 15 = s % 16 := Nat.and_two_pow_sub_one_eq_mod s 4
  rw [← h3]; exact h2
theorem shr4 {s : Nat} : shr .u32 (s : Int) 4 = ((s / 16 : Nat) : Int) := by
  have := shr_nat (k := .u32) (a := s) (b := 4) (by decide)
  simpa using this
theorem crc_More.spec {w : World} {s : SV} {l : List UInt8} (hs : RdB w s l) (hl : l.length < 2 ^ 62) {n : Nat} (hn0 : n < 2 ^ 32) :
    CallT [.one (.int .u32)] Try.prog F.crc_More [.int .u32 n, .slice s.a s.len s.cap] w fun r w' => r = more n l ∧ Ext w w' := by
  refine crc_More.vc n s w _ ?_
  have hsl := hs.lenB
  have hM : n ^^^ M < 2 ^ 32 := Nat.xor_lt_two_pow hn0 (by decide)
  refine ⟨fun m x w' => ∃ i : Nat, x = (i : Int) ∧ i ≤ 16 ∧ m = 16 - i ∧ Ext w w' ∧ w'.heap[w.heap.size]? = some (.cells (qrow i).toArray T.a16_uint32 (0, 0)), ⟨_, 0, rfl, by omega, rfl, ext_alloc _ _, blk_new _ _⟩, ?_⟩
  rintro m _ j w1 ⟨i, rfl, hi, rfl, he, hb⟩
  refine cnd_dec (fun hlt => ?_) (fun hge => ?_)
  · have hi16 : i < 16 := by omega
    refine ⟨fun q x w' => ∃ k : Nat, x = (((Crc.hn k i : Nat) : Int), (k : Int)) ∧ k ≤ 4 ∧ q = 4 - k ∧ w1 = w', ⟨_, 0, by rw [u32_id (by omega) (by omega)]; rfl, by omega, rfl, rfl⟩, ?_⟩
    rintro q _ j' _ ⟨k, rfl, hk, rfl, rfl⟩
    dsimp only
    refine cnd_dec (fun hlt' => ?_) (fun hge' => ?_)
    · refine CallT.mono (crc_half.spec (Crc.hn_lt k (by omega)) _) ?_
      rintro _ _ ⟨rfl, rfl⟩
      exact ⟨4 - (k + 1), by omega, k + 1, by rw [i64_id (by omega) (by omega), ← Crc.hn_half, Crc.hn]; rfl, by omega, rfl, rfl⟩
    · have : k = 4 := by omega
      subst this
      simp only [Int.toNat_natCast, Nat.mul_one, add_mk, Nat.zero_add]
      refine ⟨by omega, by omega, set_ok hb (by simp [qrow]; omega) ⟨16 - (i + 1), by omega, i + 1, by rw [i64_id (by omega) (by omega)]; rfl, by omega, rfl, ?_, ?_⟩⟩
      · exact he.set (p := ⟨w.heap.size, i, none⟩) (fun h => by simp at h) _
      · rw [blk_set hb, List.setIfInBounds_toArray, qrow_set i hi16]
  · have : i = 16 := by omega
    subst this
    have hmax : (if IntKind.u32.signed = true then (-1 : Int) else IntKind.u32.max) = ((M : Nat) : Int) := rfl
    rw [hmax, bx (a := M) (b := n) (by decide) hn0, Nat.xor_comm]
    have hq : ∀ k, k < 16 → w1.cell? ⟨w.heap.size, k, none⟩ = some (.int .u32 ((Crc.hn 4 k : Nat) : Int)) := fun k hk => by
      rw [cell_blk hb, List.getElem?_toArray, qrow_get k hk]
    refine ⟨fun m x w' => ∃ i : Nat, x = (((raw (n ^^^ M) (l.take i) : Nat) : Int), (i : Int)) ∧ i ≤ l.length ∧ m = l.length - i ∧ w1 = w', ⟨_, 0, rfl, by omega, rfl, rfl⟩, ?_⟩
    rintro m _ j _ ⟨i, rfl, hi, rfl, rfl⟩
    dsimp only
    have hr := raw_lt (l.take i) hM
    refine cnd_dec (fun hlt => ?_) (fun hge => ?_)
    · have hil : i < l.length := by omega
      have hbt := (l[i]).toNat_lt
      refine ⟨by omega, by omega, SV.getB hs hil fun A hA => ⟨(l[i]).toNat, (hs.ext he).cellB (List.getElem?_eq_getElem hil) hA, ?_⟩⟩
      have hx : raw (n ^^^ M) (l.take i) ^^^ (l[i]).toNat < 2 ^ 32 := Nat.xor_lt_two_pow hr (by omega)
      have hsn : raw (n ^^^ M) (l.take (i + 1)) = Crc.hn 8 (raw (n ^^^ M) (l.take i) ^^^ (l[i]).toNat) := by
        rw [List.take_add_one, List.getElem?_eq_getElem hil, Option.toList_some, raw_snoc]
      rw [u32_id (x := (l[i]).toNat) (by omega) (by omega), bx hr (by omega)]
      generalize raw (n ^^^ M) (l.take i) ^^^ (l[i]).toNat = c at hx hsn
      have h16 : ∀ c : Nat, c < 2 ^ 32 → Crc.hn 4 (c % 16) < 2 ^ 32 := fun c _ => Crc.hn_lt 4 (by omega)
      rw [nib hx, shr4]
      simp only [Int.toNat_natCast, Nat.mul_one, add_mk, Nat.zero_add]
      refine ⟨by omega, by omega, _, hq _ (by omega), ?_⟩
      rw [bx (a := c / 16) (by omega) (h16 c hx), ← Crc.hn4 hx]
      have hx2 := Crc.hn_lt 4 hx
      rw [nib hx2, shr4]
      simp only [Int.toNat_natCast]
      refine ⟨by omega, by omega, _, hq _ (by omega), ?_⟩
      rw [bx (a := Crc.hn 4 c / 16) (by omega) (h16 _ hx2), ← Crc.hn4 hx2, ← Crc.hn_add]
      exact ⟨l.length - (i + 1), by omega, i + 1, by rw [i64_id (by omega) (by omega), hsn]; rfl, by omega, rfl, trivial⟩
    · have : i = l.length := by omega
      subst this
      rw [List.take_length] at hr ⊢
      exact ⟨by rw [bx (by decide) hr, Nat.xor_comm]; rfl, he⟩
theorem crc_Sum.spec {w : World} {s : SV} {l : List UInt8} (hs : RdB w s l) (hl : l.length < 2 ^ 62) :
    CallT [.one (.int .u32)] Try.prog F.crc_Sum [.slice s.a s.len s.cap] w fun r w' => r = more 0 l ∧ Ext w w' := by
  refine crc_Sum.vc s w _ ?_
  have c := crc_More.spec hs hl (n := 0) (by decide)
  exact CallT.mono c fun _ _ h => h
theorem dunnageref02_Sum.spec {w : World} {s : SV} {l : List UInt8} (hs : RdB w s l) (hl : l.length < 2 ^ 62) :
    CallT [.one (.int .u32)] Try.prog F.dunnageref02_Sum [.slice s.a s.len s.cap] w fun r w' => r = more 0 l ∧ w = w' := by
  refine dunnageref02_Sum.vc s w _ ?_
  have c := dunnageref02_More.spec hs hl (n := 0) (by decide)
  exact CallT.mono c fun _ _ h => h
end Go.Proofs
/- word: the walk over bytes; word.Zero; ReadVar, and the document's Var and ReadVar (r1's texts Word and WordRead without what this seat lacks). Conditions: those of each contract. -/
namespace Go.Proofs
open Go Go.Vc

/-- The walk: S i holds ahead of the i-th byte, E i behind the last that do was told. -/
theorem word_walk_over.spec {M : Nat → Prop} {w : World} {x0 : Value} {s : SV} {l : List UInt8} (S E : Nat → World → Prop) (i0 : Nat)
    (hs : RdB w s l) (hl : l.length < 2 ^ 62) (hM0 : ¬ M w.heap.size) (hM : l ≠ [] → ∀ b, s.blk b → ¬ M b)
    (h0 : ∀ w', Ext w w' → S i0 w')
    (hstep : ∀ i b w', l[i]? = some b → Upd M w w' → w.heap.size < w'.heap.size → S i w' →
      callVal [.one .bool] Try.prog x0 [.int .u8 b.toNat] w'.drew fun r w2 => Upd M w' w2 ∧ cnd r (S (i + 1) w2) (E (i + 1) w2)) :
    CallT [.one (.int .i64), .one .bool] Try.prog F.word_walk_over [.agg #[x0], .slice s.a s.len s.cap, .int .i64 i0] w fun r w' =>
      Upd M w w' ∧ ∃ i : Nat, r.1 = i ∧ cnd r.2 (i = max i0 l.length ∧ S i w') (i ≤ l.length ∧ E i w') := by
  refine word_walk_over.vc x0 s i0 w _ ?_
  refine ⟨fun n x w' => ∃ i : Nat, x = i ∧ (i = i0 ∨ i ≤ l.length) ∧ i0 ≤ i ∧ n = l.length - i ∧ Upd M (w.alloc (.cells #[x0] T.word_walk)) w' ∧ S i w',
    ⟨_, i0, rfl, .inl rfl, Nat.le_refl _, rfl, Upd.refl _ _, h0 _ (ext_alloc _ _)⟩, ?_⟩
  rintro n x j w' ⟨i, rfl, hi, hle, rfl, hu, hS⟩
  have hlen := hs.lenB
  have hu0 : Upd M w w' := ((ext_alloc w _).to M).trans hu fun _ _ h => h
  refine cnd_dec (fun hlt => ?_) (fun hge => ?_)
  · have hil : i < l.length := by omega
    obtain ⟨b, hb⟩ : ∃ b, l[i]? = some b := ⟨_, List.getElem?_eq_getElem hil⟩
    have hw1 : IntKind.i64.wrap ((i : Int) + 1) = ((i + 1 : Nat) : Int) := by rw [i64_id] <;> omega
    have hw2 : IntKind.i64.wrap (((i + 1 : Nat) : Int) - 1) = (i : Int) := by rw [i64_id] <;> omega
    have hcl : w'.drew.cell? (Addr.add ⟨w.heap.size, 0, none⟩ 0) = some x0 := by
      have := hu.get (blk_new w (.cells #[x0] T.word_walk)) hM0
      rw [add_mk]
      exact cell_blk this
    refine ⟨x0, hcl, ?_⟩
    rw [hw1, hw2]
    refine ⟨by omega, by omega, SV.getB hs hil fun A hA => ⟨b.toNat, ?_, ?_⟩⟩
    · rw [Int.toNat_natCast]
      exact ((hs.upd hu0 (hM (List.ne_nil_of_length_pos (by omega)))).drew).cellB hb hA
    · have hsz : w.heap.size < w'.heap.size := by have := hu.size; simp at this; omega
      refine callVal.mono (hstep i b w' hb hu0 hsz hS) ?_
      rintro r w2 ⟨hu2, hr⟩
      refine cnd_not (fun hf => ?_) (fun ht => ?_)
      · subst hf
        exact ⟨hu0.trans hu2 fun _ _ h => h, i + 1, rfl, by omega, hr⟩
      · subst ht
        exact ⟨l.length - (i + 1), by omega, i + 1, rfl, by omega, by omega, rfl, hu.trans hu2 fun _ _ h => h, hr⟩
  · exact ⟨hu0, i, rfl, by omega, hS⟩

theorem walk_mk {w : World} {T : TypeId} {z f : Value} {K : Value → World → Prop} (hk : ∀ w1, Ext w w1 → w1.heap.size = w.heap.size + 1 → w1.drawn = w.drawn → K f w1) :
    canSt (w.alloc (.cells #[z] T)) ⟨w.heap.size, 0, none⟩ 1 ∧ (let w1 := setCells (w.alloc (.cells #[z] T)) ⟨w.heap.size, 0, none⟩ 0 [f]; ∃ x, cellsAt w1 ⟨w.heap.size, 0, none⟩ [x] ∧ K x w1) := by
  have hb := blk_new w (.cells [z].toArray T)
  refine ⟨canSt_blk hb (by simp), f, ?_, hk _ ?_ ?_ ?_⟩
  · exact cellsAt_blk (setCells_blk (o := 0) [f] _ 0 _ hb (by simp)) (by simp [spl])
  · exact (ext_alloc w _).setCells (p := ⟨w.heap.size, 0, none⟩) (fun h => by simp at h) 0 [f]
  · rw [setCells_size]; simp
  · rfl

theorem walk_mkd {w : World} {T : TypeId} {z f : Value} {K : Value → World → Prop} (hk : ∀ w1, Ext w w1 → w1.heap.size = w.heap.size + 1 → w1.drawn = w.drawn → K f w1) :
    canSt (w.alloc (.cells #[z] T)) ⟨w.heap.size, 0, none⟩ 1 ∧ (let w1 := setCells (w.alloc (.cells #[z] T)) ⟨w.heap.size, 0, none⟩ 0 [f]; ∃ x, cellsAt w1.drew ⟨w.heap.size, 0, none⟩ [x] ∧ K x w1) :=
  walk_mk hk
/-! ### word.Zero -/
theorem word_Zero_1.spec (n : Int) (w : World) : CallT [.one .bool] Try.prog F.word_Zero_1 [.int .u8 n] w fun r w' => r = (n == 0) ∧ w = w' :=
  word_Zero_1.vc n w _ ⟨rfl, rfl⟩
def allZ (l : List UInt8) : Bool := l.all (· == 0)
theorem word_Zero.spec {w : World} {s : SV} {l : List UInt8} (hs : RdB w s l) (hl : l.length < 2 ^ 62) :
    CallT [.one .bool] Try.prog F.word_Zero [.slice s.a s.len s.cap] w fun r w' => r = allZ l ∧ Ext w w' := by
  refine word_Zero.vc s w _ ?_
  refine walk_mk (K := fun x w1 => CallT _ _ _ [.agg #[x], _, _] w1 _) ?_
  intro w1 h1 h1s _
  refine CallT.mono (word_walk_over.spec (M := fun _ => False) (fun i _ => allZ (l.take i) = true) (fun i _ => allZ l = false) 0 (hs.ext h1) hl id (fun _ _ _ => id) (fun _ _ => rfl) ?_) ?_
  · intro i b w' hb hu _ hS
    refine CallT.mono (word_Zero_1.spec b.toNat w'.drew) ?_
    rintro r w2 ⟨rfl, rfl⟩
    refine ⟨(Upd.refl _ _).drew, cnd_beq (fun hz => ?_) (fun hz => ?_)⟩
    · have : b = 0 := by rw [← UInt8.toNat_inj]; simpa using hz
      subst this
      rw [List.take_add_one, hb]
      simp only [allZ, List.all_append] at hS ⊢
      simp [hS]
    · have : b ≠ 0 := by rintro rfl; exact hz rfl
      simp only [allZ, List.all_eq_false]
      exact ⟨b, List.mem_of_getElem? hb, by simpa using this⟩
  · rintro ⟨i, r⟩ w' ⟨hu, k, hk, hr⟩
    refine ⟨?_, h1.trans hu fun _ _ h => h⟩
    cases r with
    | true => obtain ⟨rfl, hr⟩ := hr; simpa using hr.symm
    | false => exact hr.2.symm

/-! ### awake -/

/-! ### Text, ReadText -/
end Go.Proofs
/- word.Put, word.Get, and the document's. Conditions: those of each contract. -/
namespace Go.Proofs
open Go Go.Vc

def leB (n v : Nat) : List UInt8 := (List.range n).map fun i => UInt8.ofNat (v / 256 ^ i)
theorem leB_succ (n v : Nat) : leB (n + 1) v = leB n v ++ [UInt8.ofNat (v / 256 ^ n)] := by simp [leB, List.range_succ]
theorem leB_len (n v : Nat) : (leB n v).length = n := by simp [leB]
def leV : List UInt8 → Nat | [] => 0 | c :: r => c.toNat + 256 * leV r
theorem leV_snoc (a : List UInt8) (c : UInt8) : leV (a ++ [c]) = leV a + c.toNat * 256 ^ a.length := by
  induction a with
  | nil => simp [leV]
  | cons x r ih => simp only [List.cons_append, leV, ih, List.length_cons, Nat.pow_succ]; rw [Nat.mul_add, ← Nat.add_assoc, Nat.mul_left_comm 256, Nat.mul_comm (256 ^ r.length)]
theorem leV_lt (a : List UInt8) : leV a < 256 ^ a.length := by
  induction a with
  | nil => simp [leV]
  | cons x r ih => simp only [leV, List.length_cons, Nat.pow_succ]; have := x.toNat_lt; omega
theorem leV_leB : ∀ (n v : Nat), leV (leB n v) = v % 256 ^ n
  | 0, v => by simp [leB, leV, Nat.mod_one]
  | n + 1, v => by
    rw [leB_succ, leV_snoc, leV_leB n v, leB_len, Nat.pow_succ, Nat.mod_mul]
    simp [Nat.mul_comm]
theorem leB_cons (n v : Nat) : leB (n + 1) v = UInt8.ofNat v :: leB n (v / 256) := by
  simp only [leB, List.range_succ_eq_map, List.map_cons, List.map_map, Nat.pow_zero, Nat.div_one]
  congr 1
  apply List.map_congr_left
  intro i _
  simp only [Function.comp, Nat.pow_succ, Nat.div_div_eq_div_mul, Nat.mul_comm]
theorem leB_leV (a : List UInt8) : leB a.length (leV a) = a := by
  induction a with
  | nil => rfl
  | cons c r ih =>
    have := c.toNat_lt
    rw [List.length_cons, leB_cons, leV, show (c.toNat + 256 * leV r) / 256 = leV r by omega, ih]
    congr 1
    rw [← UInt8.toNat_inj]; simp
def getB (l : List UInt8) (a n : Int) : Int × Int :=
  if n < 1 ∨ n > 8 ∨ a < 0 then (0, 1) else if a > l.length ∨ (l.length : Int) - a < n then (0, 10) else ((leV ((l.drop a.toNat).take n.toNat) : Nat), 0)
theorem pow256 (n : Nat) : 256 ^ n = 2 ^ (8 * n) := by rw [Nat.pow_mul]
theorem or_add' {v x n : Nat} (h : v < 256 ^ n) : v ||| (x * 256 ^ n) = v + x * 256 ^ n := by
  rw [pow256] at h ⊢
  rw [Nat.mul_comm x, Nat.or_comm, ← Nat.two_pow_add_eq_or_of_lt h]; omega
theorem pow256_le {i : Nat} (h : i ≤ 7) : 256 ^ (i + 1) ≤ 2 ^ 64 := by
  have : 256 ^ (i + 1) ≤ 256 ^ 8 := Nat.pow_le_pow_right (by decide) (by omega)
  omega
theorem word_Get.spec {w : World} {s : SV} {l : List UInt8} (hs : RdB w s l) (hc : s.len ≤ s.cap) (hl : l.length ≤ 140737488351240) {a n : Int} (ha : -9223372036854775808 ≤ a ∧ a ≤ 9223372036854775807) (hn : -9223372036854775808 ≤ n ∧ n ≤ 9223372036854775807) :
    CallT [.one (.int .u64), .one (.int .i64)] Try.prog F.word_Get [.slice s.a s.len s.cap, .int .i64 a, .int .i64 n] w fun r w' => r = getB l a n ∧ Ext w w' := by
  refine word_Get.vc s a n w _ ?_
  have hsl := hs.lenB
  refine ⟨fun _ w' => w = w' ∧ ¬ (n < 1 ∨ n > 8 ∨ a < 0), ?_, ?_⟩
  · have bad : (n < 1 ∨ n > 8 ∨ a < 0) → ((0 : Int), (1 : Int)) = getB l a n ∧ Ext w w := fun h => by
      rw [getB, if_pos h]; exact ⟨rfl, Upd.refl _ _⟩
    exact cnd_dec (fun h => bad (.inl h)) fun h => cnd_dec (fun h => bad (.inr (.inl h))) fun h' => cnd_dec (fun h => bad (.inr (.inr h))) fun h'' => ⟨rfl, by omega⟩
  rintro _ _ _ ⟨rfl, hb⟩
  refine ⟨fun _ w' => w = w' ∧ ¬ (a > l.length ∨ (l.length : Int) - a < n), ?_, ?_⟩
  · have bad : (a > l.length ∨ (l.length : Int) - a < n) → ((0 : Int), (10 : Int)) = getB l a n ∧ Ext w w := fun h => by
      rw [getB, if_neg hb, if_pos h]; exact ⟨rfl, Upd.refl _ _⟩
    refine cnd_dec (fun h => bad (.inl (by omega))) fun h => ?_
    have : IntKind.i64.wrap ((s.len : Int) - a) = (l.length : Int) - a := by rw [i64_id] <;> omega
    rw [this]
    exact cnd_dec (fun h => bad (.inr h)) fun h' => ⟨rfl, by omega⟩
  rintro _ _ _ ⟨rfl, hb2⟩
  obtain ⟨i, rfl⟩ : ∃ k : Nat, a = k := ⟨a.toNat, by omega⟩
  obtain ⟨k, rfl⟩ : ∃ k : Nat, n = k := ⟨n.toNat, by omega⟩
  have hget : getB l i k = (((leV ((l.drop i).take k) : Nat) : Int), 0) := by rw [getB, if_neg hb, if_neg hb2]; rfl
  have hin : i + k ≤ l.length := by omega
  intro w1
  obtain ⟨e1, z1, b1⟩ := alloc_facts w (.cells #[.int .u64 0] T.uint64)
  intro w2
  obtain ⟨e2, z2, b2⟩ := alloc_facts w1 (.cells #[.int .i64 0] T.int)
  have g1 : w2.heap[w.heap.size]? = some (.cells #[.int .u64 0] T.uint64) := e2.get b1
  have g2 : w2.heap[w1.heap.size]? = some (.cells #[.int .i64 0] T.int) := b2
  have e12 : Ext w w2 := e1.tr e2
  have zz1 : w1.heap.size = w.heap.size + 1 := z1
  have zz2 : w2.heap.size = w1.heap.size + 1 := z2
  clear b1 b2 e1 e2 z1 z2
  clear_value w2
  clear_value w1
  refine set_ok (o := 0) g1 (by simp) ?_
  intro w3
  obtain ⟨u3, z3, h1, k3⟩ := set_facts (o := 0) g1 (.int .u64 0)
  have h2 : w3.heap[w1.heap.size]? = _ := (k3 _ (by omega)).trans g2
  have e3 : Ext w w3 := e12.trans u3 fun x hx e => by omega
  have z3 : w3.heap.size = w2.heap.size := z3
  have h1 : w3.heap[w.heap.size]? = some (.cells #[.int .u64 0] T.uint64) := h1
  clear_value w3
  clear u3 k3 g1 g2
  refine set_ok (o := 0) h2 (by simp) ?_
  intro w4
  obtain ⟨u4, z4, g2, k4⟩ := set_facts (o := 0) h2 (.int .i64 0)
  have g1 : w4.heap[w.heap.size]? = _ := (k4 _ (by omega)).trans h1
  have e4 : Ext w w4 := e3.trans u4 fun x hx e => by omega
  have z4 : w4.heap.size = w3.heap.size := z4
  have g2 : w4.heap[w1.heap.size]? = some (.cells #[.int .i64 0] T.int) := g2
  clear_value w4
  clear u4 k4 h1 h2
  refine walk_mkd (K := fun x w1 => _ ∧ _ ∧ _ ∧ _ ∧ CallT _ _ _ [.agg #[x], _, _] w1.drew _) ?_
  intro w5 e5 z5 _
  have h1 := e5.get g1
  have h2 := e5.get g2
  have e5 : Ext w w5 := e4.tr e5
  have hik : IntKind.i64.wrap ((i : Int) + (k : Int)) = ((i + k : Nat) : Int) := by rw [i64_id] <;> omega
  rw [hik]
  simp only [Int.toNat_natCast]
  refine ⟨by omega, by omega, by omega, by omega, ?_⟩
  have hsub : RdB w5.drew _ _ := ((hs.ext e5).drew).subB hc (i := i) (j := i + k) (by omega) hin
  rw [show i + k - i = k by omega] at hsub ⊢
  have hlen : ((l.drop i).take k).length = k := by rw [List.length_take, List.length_drop]; omega
  generalize hL : (l.drop i).take k = L at *
  clear e12 e3 e4
  have hover := word_walk_over.spec (x0 := .func (.func F.word_Get_1) #[] #[.pointer (some ⟨w.heap.size, 0, none⟩), .pointer (some ⟨w1.heap.size, 0, none⟩)]) (M := fun b => b = w.heap.size ∨ b = w1.heap.size)
    (fun j w' => w'.heap[w.heap.size]? = some (.cells #[.int .u64 (leV (L.take j) : Nat)] T.uint64) ∧ w'.heap[w1.heap.size]? = some (.cells #[.int .i64 ((8 * j : Nat) : Int)] T.int))
    (fun _ _ => False) 0 hsub (by omega) (by show ¬ (w5.heap.size = w.heap.size ∨ w5.heap.size = w1.heap.size); omega) ?_ (fun w' he => ⟨he.get h1, he.get h2⟩) ?_
  · refine CallT.mono hover ?_
    rintro ⟨j, r⟩ w' ⟨hu, m, hm, hr⟩
    cases r with
    | false => exact hr.2.elim
    | true =>
      obtain ⟨rfl, c1, _⟩ := hr
      refine ⟨_, cell_blk c1, ?_, ?_⟩
      · rw [hget, Nat.zero_max, List.take_length]
      · exact (e5.drew).trans hu fun x hx hM => by omega
  · intro hne b hb hM
    have := (hs.sub hc (i := i) (j := i + k) (by omega) (by omega)).lt ?_ b ?_
    · omega
    · intro h
      have := congrArg List.length h
      rw [(hs.sub hc (i := i) (j := i + k) (by omega) (by omega)).len] at this
      simp at this
      omega
    · rw [show i + k - i = k by omega]; exact hb
  · rintro j b w' hb hu hsz ⟨c1, c2⟩
    have hjk : j < k := by have := (List.getElem?_eq_some_iff.1 hb).1; omega
    refine word_Get_1.vc b.toNat _ _ w'.drew _ ?_
    have d1 : w'.drew.drew.heap[w.heap.size]? = _ := c1
    have d2 : w'.drew.drew.heap[w1.heap.size]? = _ := c2
    refine ⟨_, cell_blk d1, _, cell_blk d2, by omega, set_ok (o := 0) d1 (by simp) ?_⟩
    have hlt : leV (L.take j) < 256 ^ j := by have := leV_lt (L.take j); rwa [List.length_take, Nat.min_eq_left (by omega)] at this
    have hb256 := b.toNat_lt
    have hp : b.toNat * 256 ^ j + 256 ^ j ≤ 256 ^ (j + 1) := by
      rw [Nat.pow_succ]
      have := Nat.mul_le_mul_right (256 ^ j) (show b.toNat + 1 ≤ 256 by omega)
      rw [Nat.add_mul, Nat.one_mul] at this
      omega
    have hj64 := pow256_le (i := j) (by omega)
    have hv : bor .u64 ((leV (L.take j) : Nat) : Int) (shl .u64 (IntKind.u64.wrap (b.toNat : Int)) ((8 * j : Nat) : Int)) = ((leV (L.take (j + 1)) : Nat) : Int) := by
      have hm : b.toNat * 2 ^ (8 * j) % 2 ^ IntKind.u64.bits = b.toNat * 256 ^ j := by
        rw [← pow256]; apply Nat.mod_eq_of_lt; simp only [IntKind.bits]; omega
      rw [u64_id (x := b.toNat) (by omega) (by omega), shl_nat (k := .u64) rfl (by simp only [IntKind.bits]; omega), hm,
        bor_nat (k := .u64) rfl (by simp only [IntKind.bits]; omega) (by simp only [IntKind.bits]; omega), or_add' hlt, List.take_add_one, hb, Option.toList_some, leV_snoc, List.length_take, Nat.min_eq_left (by omega)]
    rw [hv]
    intro x1
    obtain ⟨u1, _, k1, kk⟩ := set_facts (o := 0) d1 (.int .u64 ((leV (L.take (j + 1)) : Nat) : Int))
    have k2 : x1.heap[w1.heap.size]? = _ := (kk _ (by omega)).trans d2
    have k1 : x1.heap[w.heap.size]? = some (.cells #[.int .u64 ((leV (L.take (j + 1)) : Nat) : Int)] T.uint64) := k1
    have u1 : Upd (fun b => b = w.heap.size ∨ b = w1.heap.size) w' x1 := ((Upd.refl _ w').drew.drew).trans u1 fun _ _ h => .inl h
    clear_value x1
    refine ⟨_, cell_blk k2, set_ok (o := 0) k2 (by simp) ?_⟩
    have h8 : IntKind.i64.wrap (((8 * j : Nat) : Int) + 8) = ((8 * (j + 1) : Nat) : Int) := by rw [i64_id] <;> omega
    rw [h8]
    obtain ⟨u2, _, m2, mm⟩ := set_facts (o := 0) k2 (.int .i64 ((8 * (j + 1) : Nat) : Int))
    exact ⟨u1.trans u2 fun _ _ h => .inr h, (mm _ (by omega)).trans k1, m2⟩
end Go.Proofs
/- What turned bits do to the sum of chapter 02. Conditions: those of each lemma. -/
namespace Go.Proofs
open Go Go.Vc Go.Crc
theorem half_zero {c : Nat} (hc : c < 2 ^ 32) (h : half c = 0) : c = 0 := by
  unfold half at h
  split at h
  · have : c / 2 = P := by
      have h1 := congrArg (· ^^^ P) h
      simp only [Nat.xor_assoc, Nat.xor_self, Nat.xor_zero, Nat.zero_xor] at h1
      exact h1
    unfold P at this
    omega
  · rw [Nat.xor_zero] at h; omega
theorem hn_zero : ∀ (n : Nat) {c : Nat}, c < 2 ^ 32 → Crc.hn n c = 0 → c = 0
  | 0, _, _, h => h
  | n + 1, _, hc, h => half_zero hc (hn_zero n (half_lt hc) h)
theorem hn_inj (n : Nat) {a b : Nat} (ha : a < 2 ^ 32) (hb : b < 2 ^ 32) (h : Crc.hn n a = Crc.hn n b) : a = b := by
  have h1 : Crc.hn n (a ^^^ b) = 0 := by rw [(Crc.hn_lin n).x, h, Nat.xor_self]
  have h2 := hn_zero n (Nat.xor_lt_two_pow ha hb) h1
  have h3 := congrArg (· ^^^ b) h2
  simpa [Nat.xor_assoc] using h3
theorem X_ne (k : Nat) : X k ≠ 0 := fun h => by have := hn_zero k (by decide) h; exact absurd this (by decide)
/-! ### the order -/
/-! ### how many ones -/
def par (c : Nat) : Nat := xs 32 fun i => (c.testBit i).toNat
theorem par_lin : Lin par := by
  refine Lin.sum (g := fun i c => (c.testBit i).toNat) (fun i => ?_) 32
  refine ⟨by simp, fun a b => ?_⟩
  rw [Nat.testBit_xor]
  cases a.testBit i <;> cases b.testBit i <;> rfl
theorem par_half {c : Nat} (hc : c < 2 ^ 32) : par (half c) = par c := by
  refine lin_ext (f := fun c => par (half c)) (g := par) (par_lin.comp half_lin) par_lin ?_ hc
  decide +kernel
theorem par_X (k : Nat) : par (X k) = 1 := by
  have key : ∀ (k : Nat) {c : Nat}, c < 2 ^ 32 → par (Crc.hn k c) = par c := by
    intro k
    induction k with
    | zero => intro c _; rfl
    | succ k ih => intro c hc; rw [Crc.hn, ih (half_lt hc), par_half hc]
  rw [X, key k (by decide)]
  decide +kernel
theorem X_three (a b c : Nat) : X a ^^^ X b ^^^ X c ≠ 0 := fun h => by
  have := congrArg par h
  rw [par_lin.x, par_lin.x, par_X, par_X, par_X, par_lin.z] at this
  exact absurd this (by decide)
/-! ### a turned bit -/
def turn1 (l : List UInt8) (k : Int) : List UInt8 := if 0 ≤ k ∧ k / 8 < l.length then l.set (k / 8).toNat (l.getD (k / 8).toNat 0 ^^^ UInt8.ofNat (2 ^ (k % 8).toNat)) else l
def turns (l : List UInt8) (ks : List Int) : List UInt8 := ks.foldl turn1 l
theorem turn1_len (l : List UInt8) (k : Int) : (turn1 l k).length = l.length := by unfold turn1; split <;> simp
theorem turns_len : ∀ (ks : List Int) (l : List UInt8), (turns l ks).length = l.length
  | [], _ => rfl
  | k :: r, l => by
    show (turns (turn1 l k) r).length = _
    rw [turns_len r, turn1_len]
/-- The sum's change by one bit. -/
def er (n : Nat) (k : Int) : Nat := if 0 ≤ k ∧ k < 8 * n then X (8 * n + 31 - k.toNat) else 0
theorem raw_set {l : List UInt8} {i : Nat} (hi : i < l.length) (d : UInt8) (s : Nat) : raw s (l.set i (l[i] ^^^ d)) = raw s l ^^^ Crc.hn (8 * (l.length - i)) d.toNat := by
  have e1 : l = l.take i ++ (l[i] :: l.drop (i + 1)) := by rw [List.getElem_cons_drop, List.take_append_drop]
  have e2 : l.set i (l[i] ^^^ d) = l.take i ++ ((l[i] ^^^ d) :: l.drop (i + 1)) := by rw [List.set_eq_take_append_cons_drop, if_pos hi]
  rw [e2, raw_append]
  conv => rhs; lhs; rw [e1, raw_append]
  rw [raw, raw, raw_split (l.drop (i + 1)), raw_split (l.drop (i + 1)) (Crc.hn 8 (raw s (l.take i) ^^^ (l[i]).toNat)), UInt8.toNat_xor, ← Nat.xor_assoc, (Crc.hn_lin 8).x _ d.toNat, (Crc.hn_lin _).x, ← Crc.hn_add, ← Crc.hn_add, List.length_drop]
  rw [show 8 * (l.length - (i + 1)) + 8 = 8 * (l.length - i) by omega, Nat.xor_assoc, Nat.xor_comm (Crc.hn (8 * (l.length - i)) d.toNat), ← Nat.xor_assoc]
theorem raw_turn1 (l : List UInt8) (k : Int) (s : Nat) : raw s (turn1 l k) = raw s l ^^^ er l.length k := by
  unfold turn1 er
  by_cases h : 0 ≤ k ∧ k / 8 < l.length
  · rw [if_pos h, if_pos (by omega)]
    obtain ⟨q, rfl⟩ : ∃ q : Nat, k = q := ⟨k.toNat, by omega⟩
    have h1 : ((q : Int) / 8).toNat = q / 8 := by omega
    have h2 : ((q : Int) % 8).toNat = q % 8 := by omega
    have hi : q / 8 < l.length := by omega
    have hg : l.getD (q / 8) 0 = l[q / 8] := by simp [List.getD, hi]
    rw [h1, h2, hg, raw_set hi, Int.toNat_natCast]
    congr 1
    have h3 : (UInt8.ofNat (2 ^ (q % 8))).toNat = 2 ^ (q % 8) := by
      rw [UInt8.toNat_ofNat']
      apply Nat.mod_eq_of_lt
      exact Nat.pow_lt_pow_right (by decide) (by omega)
    rw [h3, pow_X _ (by omega), X, X, ← Crc.hn_add]
    congr 1
    omega
  · rw [if_neg h, if_neg (by omega), Nat.xor_zero]
def ers (n : Nat) (ks : List Int) : Nat := ks.foldl (fun a k => a ^^^ er n k) 0
theorem raw_turns : ∀ (ks : List Int) (l : List UInt8) (s : Nat), raw s (turns l ks) = raw s l ^^^ ers l.length ks := by
  have key : ∀ (ks : List Int) (l : List UInt8) (s a : Nat), raw s (turns l ks) ^^^ a = raw s l ^^^ ks.foldl (fun a k => a ^^^ er l.length k) a := by
    intro ks
    induction ks with
    | nil => intro l s a; rfl
    | cons k r ih =>
      intro l s a
      show raw s (turns (turn1 l k) r) ^^^ a = _
      have h1 := ih (turn1 l k) s (a ^^^ er l.length k)
      rw [turn1_len] at h1
      rw [List.foldl_cons]
      have h2 : raw s (turns (turn1 l k) r) ^^^ (a ^^^ er l.length k) ^^^ er l.length k = raw s (turns (turn1 l k) r) ^^^ a := by
        rw [Nat.xor_assoc, Nat.xor_assoc, Nat.xor_self, Nat.xor_zero]
      rw [← h2, h1, raw_turn1, Nat.xor_assoc, Nat.xor_assoc]
      congr 1
      rw [Nat.xor_comm (List.foldl _ _ _), ← Nat.xor_assoc, Nat.xor_self, Nat.zero_xor]
  intro ks l s
  have := key ks l s 0
  rwa [Nat.xor_zero] at this
/-! ### bytes with their sum behind them -/
def behindB (l : List UInt8) : List UInt8 := l ++ leB 4 (more 0 l)
def rightB (x : List UInt8) : Bool := if x.length < 4 then false else behindB (x.take (x.length - 4)) == x
theorem raw4 (s : Nat) (q : List UInt8) (h : q.length = 4) : raw s q = Crc.hn 32 (s ^^^ leV q) := by
  match q, h with
  | [a, b, c, d], _ =>
    have hh : ∀ (m : Nat) (u : Nat), Crc.hn 8 (256 * u) = u ∧ True := fun _ u => by
      refine ⟨?_, trivial⟩
      have h0 : ∀ u, half (2 * u) = u := fun u => by unfold half; rw [if_neg (by omega), Nat.xor_zero]; omega
      show half (half (half (half (half (half (half (half (256 * u)))))))) = u
      rw [show 256 * u = 2 * (2 * (2 * (2 * (2 * (2 * (2 * (2 * u))))))) by omega, h0, h0, h0, h0, h0, h0, h0, h0]
    have hx : ∀ (c : UInt8) (u : Nat), c.toNat + 256 * u = c.toNat ^^^ (256 * u) := fun c u => by
      have hc := c.toNat_lt
      rw [Nat.add_comm, show 256 * u = 2 ^ 8 * u from rfl, Nat.two_pow_add_eq_or_of_lt hc]
      apply Nat.eq_of_testBit_eq
      intro i
      rw [Nat.testBit_or, Nat.testBit_xor, Nat.testBit_two_pow_mul]
      by_cases hi : 8 ≤ i
      · have : c.toNat.testBit i = false := Nat.testBit_lt_two_pow (Nat.lt_of_lt_of_le hc (Nat.pow_le_pow_right (by decide) hi))
        simp [this]
      · simp [hi]
    have step : ∀ (s : Nat) (c : UInt8) (u m : Nat), Crc.hn (m + 8) (s ^^^ (c.toNat + 256 * u)) = Crc.hn m (Crc.hn 8 (s ^^^ c.toNat) ^^^ u) := fun s c u m => by
      rw [hx, ← Nat.xor_assoc, Crc.hn_add, (Crc.hn_lin 8).x, (hh 0 u).1]
    simp only [raw, leV]
    rw [show (32 : Nat) = 24 + 8 from rfl, step, show (24 : Nat) = 16 + 8 from rfl, step, show (16 : Nat) = 8 + 8 from rfl, step, show (8 : Nat) = 0 + 8 from rfl, step]
    rw [Nat.xor_zero]; rfl
theorem right_iff {x : List UInt8} (h : 4 ≤ x.length) : rightB x = true ↔ raw M x = Crc.hn 32 M := by
  have hp := List.take_append_drop (x.length - 4) x
  have hq : (x.drop (x.length - 4)).length = 4 := by rw [List.length_drop]; omega
  generalize hpe : x.take (x.length - 4) = p at *
  generalize hqe : x.drop (x.length - 4) = q at *
  have hml := more_lt (s := 0) (by decide) p
  have hr := raw_lt p (s := M) (by decide)
  have hlq := leV_lt q
  rw [hq] at hlq
  have e1 : rightB x = true ↔ leB 4 (more 0 p) = q := by
    rw [rightB, if_neg (by omega), hpe, beq_iff_eq, behindB]
    conv => lhs; rhs; rw [← hp]
    exact List.append_right_inj p
  rw [e1]
  conv => rhs; lhs; rw [← hp, raw_append, raw4 _ q hq]
  have e2 : leB 4 (more 0 p) = q ↔ more 0 p = leV q := by
    constructor
    · intro h
      have := congrArg leV h
      rwa [leV_leB, Nat.mod_eq_of_lt hml] at this
    · intro h
      have := leB_leV q
      rw [hq] at this
      rw [h, this]
  rw [e2]
  have hm : more 0 p = raw M p ^^^ M := by simp [more]
  rw [hm]
  constructor
  · intro h
    congr 1
    rw [← h, ← Nat.xor_assoc, Nat.xor_self, Nat.zero_xor]
  · intro h
    have := hn_inj 32 (Nat.xor_lt_two_pow hr hlq) (by decide) h
    have h2 := congrArg (raw M p ^^^ ·) this
    simp only [← Nat.xor_assoc, Nat.xor_self, Nat.zero_xor] at h2
    exact h2.symm
theorem right_behind (l : List UInt8) : rightB (behindB l) = true := by
  have hl : (behindB l).length = l.length + 4 := by rw [behindB, List.length_append, leB_len]
  rw [rightB, if_neg (by omega), hl, show l.length + 4 - 4 = l.length by omega]
  have : (behindB l).take l.length = l := by rw [behindB, List.take_left']; rfl
  rw [this]; simp
theorem right_turned {x : List UInt8} (h4 : 4 ≤ x.length) (h : rightB x = true) (ks : List Int) (hk : ers x.length ks ≠ 0) : rightB (turns x ks) = false := by
  cases hr : rightB (turns x ks) with
  | false => rfl
  | true =>
    rw [right_iff (by rw [turns_len]; exact h4), raw_turns, (right_iff h4).1 h] at hr
    exfalso
    apply hk
    have := congrArg (Crc.hn 32 M ^^^ ·) hr
    simpa [← Nat.xor_assoc] using this
theorem er_X {n k : Nat} (h : k < 8 * n) : er n k = X (8 * n + 31 - k) := by rw [er, if_pos (by omega), Int.toNat_natCast]
theorem ers1 {n i : Nat} (hi : i < 8 * n) : ers n [(i : Int)] ≠ 0 := by
  simp only [ers, List.foldl_cons, List.foldl_nil, Nat.zero_xor]
  rw [er_X hi]; exact X_ne _
theorem ers3 {n i j k : Nat} (hi : i < 8 * n) (hj : j < 8 * n) (hk : k < 8 * n) : ers n [(i : Int), (j : Int), (k : Int)] ≠ 0 := by
  simp only [ers, List.foldl_cons, List.foldl_nil, Nat.zero_xor]
  rw [er_X hi, er_X hj, er_X hk]
  exact X_three _ _ _
end Go.Proofs
/- What a sealed sector is, and what any bytes are as one. Conditions: those that each lemma names. -/
namespace Go.Proofs
open Go Go.Vc Go.Crc
def knownK (k : UInt8) : Bool := k == 23 || k == 43 || k == 77 || k == 142 || k == 113 || k == 178
/-- The bytes of a sector ahead of its sum. -/
def secH (k : UInt8) (t : Nat) (p : List UInt8) : List UInt8 := [k, 0] ++ leB 2 p.length ++ leB 8 t ++ p ++ List.replicate (496 - p.length) 0
def sealB (k : UInt8) (t : Nat) (p : List UInt8) : List UInt8 := behindB (secH k t p)
def sealR (k : UInt8) (t : Nat) (p : List UInt8) : List UInt8 × Int := if knownK k = false then ([], 1) else if 496 < p.length then ([], 4) else (sealB k t p, 0)
abbrev SecR := (UInt8 × Nat × List UInt8) × Int
def openR (b : List UInt8) : SecR :=
  if b.length ≠ 512 then ((0, 0, []), 1)
  else if allZ b = true then ((0, 0, []), 0)
  else if rightB b = false then ((0, 0, []), 30)
  else if knownK (b.getD 0 0) = false ∨ b.getD 1 0 ≠ 0 ∨ 496 < leV ((b.drop 2).take 2) ∨ allZ ((b.drop (12 + leV ((b.drop 2).take 2))).take (496 - leV ((b.drop 2).take 2))) = false then ((0, 0, []), 11)
  else ((b.getD 0 0, leV ((b.drop 4).take 8), (b.drop 12).take (leV ((b.drop 2).take 2))), 0)
theorem secH_len {k : UInt8} {t : Nat} {p : List UInt8} (h : p.length ≤ 496) : (secH k t p).length = 508 := by
  simp only [secH, List.length_append, leB_len, List.length_replicate, List.length_cons, List.length_nil]; omega
theorem sealB_len {k : UInt8} {t : Nat} {p : List UInt8} (h : p.length ≤ 496) : (sealB k t p).length = 512 := by
  rw [sealB, behindB, List.length_append, leB_len, secH_len h]
theorem known_ne {k : UInt8} (h : knownK k = true) : k ≠ 0 := by rintro rfl; exact absurd h (by decide)
theorem sealB_eq {k : UInt8} {t : Nat} {p : List UInt8} : sealB k t p = k :: 0 :: (leB 2 p.length ++ (leB 8 t ++ (p ++ (List.replicate (496 - p.length) 0 ++ leB 4 (more 0 (secH k t p)))))) := by
  simp [sealB, behindB, secH, List.append_assoc]
theorem open_seal {k : UInt8} {t : Nat} {p : List UInt8} (hk : knownK k = true) (hp : p.length ≤ 496) (ht : t < 2 ^ 64) : openR (sealB k t p) = ((k, t, p), 0) := by
  have h512 := sealB_len (k := k) (t := t) hp
  have hr : rightB (sealB k t p) = true := right_behind _
  have h0 : (sealB k t p).getD 0 0 = k := by rw [sealB_eq]; rfl
  have h1 : (sealB k t p).getD 1 0 = 0 := by rw [sealB_eq]; rfl
  have hz : allZ (sealB k t p) = false := by
    rw [sealB_eq, allZ, List.all_cons]
    have := known_ne hk
    simp [this]
  have d2 : ((sealB k t p).drop 2).take 2 = leB 2 p.length := by
    rw [sealB_eq]
    simp only [List.drop_succ_cons, List.drop_zero]
    rw [List.take_left' (leB_len _ _)]
  have hn : leV (leB 2 p.length) = p.length := by rw [leV_leB, Nat.mod_eq_of_lt (by omega)]
  have d4 : ((sealB k t p).drop 4).take 8 = leB 8 t := by
    rw [sealB_eq]
    simp only [List.drop_succ_cons]
    rw [List.drop_left' (leB_len _ _), List.take_left' (leB_len _ _)]
  have d12 : (sealB k t p).drop 12 = p ++ (List.replicate (496 - p.length) 0 ++ leB 4 (more 0 (secH k t p))) := by
    rw [sealB_eq, show (12 : Nat) = 2 + 8 + 1 + 1 from rfl]
    simp only [List.drop_succ_cons]
    rw [← List.drop_drop, List.drop_left' (leB_len _ _), List.drop_left' (leB_len _ _)]
  have dn : ((sealB k t p).drop (12 + p.length)).take (496 - p.length) = List.replicate (496 - p.length) 0 := by
    rw [← List.drop_drop, d12, List.drop_left' rfl, List.take_left' (by simp)]
  rw [openR, if_neg (by omega), if_neg (by rw [hz]; simp), if_neg (by rw [hr]; simp), d2, hn, d4, h0, h1, dn, if_neg]
  · rw [d12, List.take_left' rfl, leV_leB, Nat.mod_eq_of_lt (by omega)]
  · rw [hk]
    simp [allZ]
    omega
end Go.Proofs
/- A sealed sector with one to three turned bits is not one. Conditions: those of each lemma. -/
namespace Go.Proofs
open Go Go.Vc Go.Crc
def bitOf (k : Int) : UInt8 := if 0 ≤ k ∧ k < 8 then UInt8.ofNat (2 ^ k.toNat) else 0
theorem turn1_zero {l : List UInt8} (h : 0 < l.length) (k : Int) : (turn1 l k).getD 0 0 = l.getD 0 0 ^^^ bitOf k := by
  unfold turn1 bitOf
  by_cases h1 : 0 ≤ k ∧ k < 8
  · have h2 : k / 8 = 0 := by omega
    have h3 : k % 8 = k := by omega
    rw [if_pos ⟨h1.1, by omega⟩, if_pos h1, h2, h3]
    simp [List.getD_eq_getElem?_getD, h]
  · rw [if_neg h1]
    split
    · rename_i h4
      have h5 : (k / 8).toNat ≠ 0 := by omega
      rw [List.getD_eq_getElem?_getD, List.getElem?_set_ne h5, ← List.getD_eq_getElem?_getD]
      simp
    · simp
theorem bitOf_cases (k : Int) : ∃ i : Fin 9, bitOf k = (if i.val < 8 then UInt8.ofNat (2 ^ i.val) else 0) := by
  unfold bitOf
  by_cases h : 0 ≤ k ∧ k < 8
  · refine ⟨⟨k.toNat, by omega⟩, ?_⟩
    rw [if_pos h, if_pos (by show k.toNat < 8; omega)]
  · exact ⟨⟨8, by decide⟩, by rw [if_neg h]; rfl⟩
theorem four : ∀ k0 ∈ [(23 : UInt8), 43, 77, 142, 113, 178], ∀ a b c : Fin 9, k0 ^^^ (if a.val < 8 then UInt8.ofNat (2 ^ a.val) else 0) ^^^ (if b.val < 8 then UInt8.ofNat (2 ^ b.val) else 0) ^^^ (if c.val < 8 then UInt8.ofNat (2 ^ c.val) else 0) ≠ 0 := by decide +kernel
theorem known_mem {k : UInt8} (h : knownK k = true) : k ∈ [(23 : UInt8), 43, 77, 142, 113, 178] := by
  unfold knownK at h
  simpa [or_assoc] using h
/-- One to three bits, each another one. -/
def Bits3 (n : Nat) (ks : List Int) : Prop := (∃ i : Nat, i < n ∧ ks = [(i : Int)]) ∨ ∃ i j k : Nat, (i < n ∧ j < n ∧ k < n) ∧ (i ≠ j ∧ j ≠ k ∧ i ≠ k) ∧ ks = [(i : Int), (j : Int), (k : Int)]
theorem turned_first {l : List UInt8} (h : 0 < l.length) (hk : knownK (l.getD 0 0) = true) {n : Nat} {ks : List Int} (hb : Bits3 n ks) : (turns l ks).getD 0 0 ≠ 0 := by
  have hm := known_mem hk
  rcases hb with ⟨i, _, rfl⟩ | ⟨i, j, k, _, _, rfl⟩
  · rw [show turns l [(i : Int)] = turn1 l i from rfl, turn1_zero h]
    obtain ⟨a, ha⟩ := bitOf_cases i
    rw [ha]
    have h9 := four _ hm a 8 8
    have e8 : (if (8 : Fin 9).val < 8 then UInt8.ofNat (2 ^ (8 : Fin 9).val) else 0) = (0 : UInt8) := rfl
    rw [e8, UInt8.xor_zero, UInt8.xor_zero] at h9
    exact h9
  · rw [show turns l [(i : Int), (j : Int), (k : Int)] = turn1 (turn1 (turn1 l i) j) k from rfl, turn1_zero (by rw [turn1_len, turn1_len]; exact h), turn1_zero (by rw [turn1_len]; exact h), turn1_zero h]
    obtain ⟨a, ha⟩ := bitOf_cases i
    obtain ⟨b, hb⟩ := bitOf_cases j
    obtain ⟨c, hc⟩ := bitOf_cases k
    rw [ha, hb, hc]
    exact four _ hm a b c
theorem turned_bad {l : List UInt8} (h : l.length = 512) (hk : knownK (l.getD 0 0) = true) (hr : rightB l = true) {ks : List Int} (hb : Bits3 4096 ks) : (openR (turns l ks)).2 = 30 := by
  have hl : (turns l ks).length = 512 := by rw [turns_len, h]
  have hz : allZ (turns l ks) = false := by
    cases hz : allZ (turns l ks) with
    | false => rfl
    | true =>
      exfalso
      apply turned_first (by omega) hk hb
      rw [List.getD_eq_getElem?_getD, List.getElem?_eq_getElem (by omega)]
      have := List.all_eq_true.1 hz _ (List.getElem_mem (by omega : 0 < (turns l ks).length))
      simpa using this
  have hrf : rightB (turns l ks) = false := by
    refine right_turned (by omega) hr ks ?_
    rw [h]
    rcases hb with ⟨i, hi, rfl⟩ | ⟨i, j, k, ⟨hi, hj, hk⟩, _, rfl⟩
    · exact ers1 hi
    · exact ers3 hi hj hk
  rw [openR, if_neg (by omega), if_neg (by rw [hz]; simp), if_pos hrf]
end Go.Proofs
/- Slices of structs: what reads as so many things, each of sz cells. Conditions: those that each lemma names. -/
namespace Go.Vc
open Go
theorem flat_len {α : Type} {enc : α → List Value} {sz : Nat} (h : ∀ x, (enc x).length = sz) (l : List α) : (l.flatMap enc).length = l.length * sz := by
  induction l with
  | nil => simp
  | cons x r ih => simp [h, ih, Nat.add_mul]; omega
theorem flat_get {α : Type} {enc : α → List Value} {sz : Nat} (h : ∀ x, (enc x).length = sz) : ∀ (l : List α) (i k : Nat), k < sz → (l.flatMap enc)[i * sz + k]? = (l[i]?).bind fun x => (enc x)[k]?
  | [], i, k, _ => by simp
  | x :: r, 0, k, hk => by
    simp only [Nat.zero_mul, Nat.zero_add, List.flatMap_cons, List.getElem?_cons_zero, Option.bind_some]
    rw [List.getElem?_append_left (by rw [h]; exact hk)]
  | x :: r, i + 1, k, hk => by
    simp only [List.flatMap_cons, List.getElem?_cons_succ]
    rw [List.getElem?_append_right (by rw [h, Nat.add_mul]; omega), h, show (i + 1) * sz + k - sz = i * sz + k by rw [Nat.add_mul]; omega, flat_get h r i k hk]
theorem flat_take {α : Type} {enc : α → List Value} (l : List α) (n : Nat) {sz : Nat} (h : ∀ x, (enc x).length = sz) : (l.flatMap enc).take (n * sz) = (l.take n).flatMap enc := by
  induction l generalizing n with
  | nil => simp
  | cons x r ih =>
    cases n with
    | zero => simp
    | succ n =>
      simp only [List.flatMap_cons, List.take_succ_cons]
      rw [List.take_append, h, List.take_of_length_le (by rw [h, Nat.add_mul]; omega), show (n + 1) * sz - sz = n * sz by rw [Nat.add_mul]; omega, ih]
/-- A slice that reads as these things. -/
structure RdS {α : Type} (enc : α → List Value) (sz : Nat) (w : World) (s : SV) (l : List α) : Prop where
  rd : Rd w sz s (l.flatMap enc)
  esz : ∀ x, (enc x).length = sz
  pos : 0 < sz
structure OwnS {α : Type} (enc : α → List Value) (sz : Nat) (T : TypeId) (w : World) (B : Nat) (s : SV) (l : List α) : Prop where
  own : Own w B T sz s (l.flatMap enc)
  esz : ∀ x, (enc x).length = sz
  pos : 0 < sz
variable {α : Type} {enc : α → List Value} {sz : Nat} {w w' : World} {s : SV} {l : List α} {T : TypeId} {B : Nat}
theorem OwnS.rd (h : OwnS enc sz T w B s l) : RdS enc sz w s l := ⟨h.own.rd, h.esz, h.pos⟩
theorem RdS.len (h : RdS enc sz w s l) : s.len = l.length := by
  have := h.rd.len
  rw [flat_len h.esz] at this
  exact (Nat.eq_of_mul_eq_mul_right h.pos this).symm
theorem OwnS.len (h : OwnS enc sz T w B s l) : s.len = l.length := h.rd.len
theorem RdS.ext (h : RdS enc sz w s l) (hu : Ext w w') : RdS enc sz w' s l := ⟨h.rd.ext hu, h.esz, h.pos⟩
theorem OwnS.ext (h : OwnS enc sz T w B s l) (hu : Ext w w') : OwnS enc sz T w' B s l := ⟨h.own.ext hu, h.esz, h.pos⟩
theorem RdS.keep {M : Nat → Prop} (h : RdS enc sz w s l) (hu : Upd M w w') (hm : ∀ b, b < w.heap.size → s.blk b → ¬ M b) : RdS enc sz w' s l := ⟨h.rd.keep hu hm, h.esz, h.pos⟩
theorem RdS.at_ (h : RdS enc sz w s l) {i : Nat} {x : α} (hx : l[i]? = some x) {A : Addr} (hA : s.a = some A) : cellsAt w (A.add (i * sz)) (enc x) := by
  intro k v hv
  have hk : k < sz := by have := (List.getElem?_eq_some_iff.1 hv).1; rw [h.esz] at this; exact this
  rw [add_add]
  refine h.rd.at_ A hA _ v ?_
  rw [flat_get h.esz l i k hk, hx, Option.bind_some, hv]
theorem RdS.fld (h : RdS enc sz w s l) {i : Nat} {x : α} (hx : l[i]? = some x) {A : Addr} (hA : s.a = some A) {k : Nat} {v : Value} (hv : (enc x)[k]? = some v) : w.cell? ((A.add (i * sz)).add k) = some v := h.at_ hx hA k v hv
theorem RdS.get (h : RdS enc sz w s l) {i : Nat} (hi : i < l.length) {K : Addr → Prop} (hk : ∀ A, s.a = some A → K A) : onP s.a K := by
  cases hA : s.a with
  | none => have := h.rd.nil hA; rw [h.len] at this; omega
  | some A => exact hk A hA
theorem RdS.nil (hs : ∀ x, (enc x).length = sz) (hp : 0 < sz) (w : World) (c : Nat) : RdS enc sz w ⟨none, 0, c⟩ [] := ⟨Rd.nil' _ _ _, hs, hp⟩
theorem OwnS.nil (hs : ∀ x, (enc x).length = sz) (hp : 0 < sz) (w : World) (B : Nat) (T : TypeId) : OwnS enc sz T w B ⟨none, 0, 0⟩ [] := ⟨Own.nil _ _ _ _, hs, hp⟩
/-- A slice of flat structs, as its shape tells it. -/
theorem DS.flat {bd : TypeId → Nat → Prop} {bs : Nat → Prop} {e : TypeId} {n : Nat} {d : DS} {a : Option Addr} {len cap : Nat} (good : α → Prop) (h : DS.rel w bd bs (.slice e n d) [.slice a len cap])
    (hs : ∀ x, (enc x).length = n) (hp : 0 < n) (hd : ∀ es, es.length = n → d.rel w bd bs es → ∃ x, enc x = es ∧ good x) :
    ∃ l : List α, RdS enc n w ⟨a, len, cap⟩ l ∧ len ≤ cap ∧ (cap = 0 ∨ bd e cap) ∧ ∀ x ∈ l, good x := by
  obtain ⟨a', len', cap', he, h⟩ := h
  simp only [List.cons.injEq, Value.slice.injEq, and_true] at he
  obtain ⟨rfl, rfl, rfl⟩ := he
  rcases h with ⟨rfl, rfl, rfl⟩ | ⟨A, rfl, hle, hb, hc⟩
  · exact ⟨[], RdS.nil hs hp w 0, Nat.le_refl _, .inl rfl, by simp⟩
  · have hx : ∀ i : Fin len, ∃ x, cellsAt w (A.add (i.val * n)) (enc x) ∧ good x := fun i => by
      obtain ⟨es, h1, h2, h3⟩ := hc i.val (by omega)
      obtain ⟨x, rfl, hg⟩ := hd es h1 h3
      exact ⟨x, h2, hg⟩
    let f := fun i => Classical.choose (hx i)
    have hf := fun i => Classical.choose_spec (hx i)
    refine ⟨List.ofFn f, ⟨⟨?_, fun h => by simp at h, ?_⟩, hs, hp⟩, hle, .inr hb, ?_⟩
    · rw [flat_len hs, List.length_ofFn]
    · intro A' hA
      obtain rfl := Option.some.inj hA
      intro j v hv
      have hj : j < len * n := by have := (List.getElem?_eq_some_iff.1 hv).1; rw [flat_len hs, List.length_ofFn] at this; exact this
      have hdm : j = j / n * n + j % n := by rw [Nat.mul_comm]; exact (Nat.div_add_mod j n).symm
      have hjn : j / n < len := Nat.div_lt_of_lt_mul (by rw [Nat.mul_comm]; exact hj)
      rw [hdm] at hv
      rw [flat_get hs _ _ _ (Nat.mod_lt _ hp), List.getElem?_ofFn, dif_pos hjn, Option.bind_some] at hv
      rw [hdm, ← add_add]
      exact (hf ⟨j / n, hjn⟩).1 _ v hv
    · intro x hx
      obtain ⟨i, rfl⟩ := List.mem_ofFn.1 hx
      exact (hf i).2
end Go.Vc
/- A field of an element of a slice of one's own is set. Conditions: those that each lemma names. -/
namespace Go.Vc
open Go
theorem flat_set {α : Type} {enc : α → List Value} {sz : Nat} (h : ∀ x, (enc x).length = sz) {x y : α} {k : Nat} {v : Value} (hk : k < sz) (hy : enc y = (enc x).set k v) :
    ∀ (l : List α) (i : Nat), l[i]? = some x → (l.flatMap enc).set (i * sz + k) v = (l.set i y).flatMap enc
  | [], i, hx => by simp at hx
  | a :: r, 0, hx => by
    obtain rfl := Option.some.inj hx
    simp only [List.flatMap_cons, List.set_cons_zero, Nat.zero_mul, Nat.zero_add]
    rw [List.set_append_left _ _ (by rw [h]; exact hk), hy]
  | a :: r, i + 1, hx => by
    simp only [List.flatMap_cons, List.set_cons_succ]
    have ih := flat_set h hk hy r i (by simpa using hx)
    rw [List.set_append_right (s := enc a) _ _ (by rw [h, Nat.add_mul]; omega), h, show (i + 1) * sz + k - sz = i * sz + k by rw [Nat.add_mul]; omega, ih]
theorem OwnS.setf {α : Type} {enc : α → List Value} {sz : Nat} {w : World} {s : SV} {l : List α} {T : TypeId} {B : Nat} (h : OwnS enc sz T w B s l) {i : Nat} {x : α} (hx : l[i]? = some x) {A : Addr} (hA : s.a = some A) {k : Nat} (hk : k < sz) {v : Value} {y : α} (hy : enc y = (enc x).set k v) :
    (w.cell? ((A.add (i * sz)).add k)).isSome = true ∧ w.frozen? ((A.add (i * sz)).add k) = false ∧ OwnS enc sz T (w.setCell ((A.add (i * sz)).add k) v) B s (l.set i y) ∧
      (w.setCell ((A.add (i * sz)).add k) v).heap.size = w.heap.size ∧ Upd s.blk w (w.setCell ((A.add (i * sz)).add k) v) := by
  rcases h.own.is with ⟨h1, _⟩ | ⟨b, rest, ha, hB, hb, hcap, hle⟩
  · rw [h1] at hA; simp at hA
  · have hA' := hA
    rw [ha] at hA
    obtain rfl := Option.some.inj hA
    have hi : i < l.length := (List.getElem?_eq_some_iff.1 hx).1
    have hlt : i * sz + k < (l.flatMap enc).length := by
      rw [flat_len h.esz]
      have : (i + 1) * sz ≤ l.length * sz := Nat.mul_le_mul_right _ hi
      rw [Nat.add_mul] at this; omega
    rw [add_add, add_mk, Nat.zero_add]
    refine ⟨?_, frozen_blk hb, ⟨⟨?_, .inr ⟨b, rest, ha, hB, ?_, ?_, hle⟩⟩, h.esz, h.pos⟩, by simp, (Upd.refl _ w).set (p := ⟨b, i * sz + k, none⟩) (fun _ => ⟨_, hA', rfl⟩) v⟩
    · rw [cell_blk hb, List.getElem?_toArray, List.getElem?_eq_getElem (by rw [List.length_append]; omega)]; rfl
    · rw [← flat_set h.esz hk hy l i hx, List.length_set]; exact h.own.len
    · rw [blk_set hb, List.setIfInBounds_toArray, List.set_append_left _ _ hlt, flat_set h.esz hk hy l i hx]
    · rw [← flat_set h.esz hk hy l i hx, List.length_append, List.length_set, ← List.length_append]; exact hcap
theorem flat_drop {α : Type} {enc : α → List Value} (l : List α) (n : Nat) {sz : Nat} (h : ∀ x, (enc x).length = sz) : (l.flatMap enc).drop (n * sz) = (l.drop n).flatMap enc := by
  induction l generalizing n with
  | nil => simp
  | cons x r ih =>
    cases n with
    | zero => simp
    | succ n =>
      simp only [List.flatMap_cons, List.drop_succ_cons]
      rw [List.drop_append, h, List.drop_eq_nil_of_le (by rw [h, Nat.add_mul]; omega), show (n + 1) * sz - sz = n * sz by rw [Nat.add_mul]; omega, ih]
      simp
theorem flat_spl {α : Type} {enc : α → List Value} {sz : Nat} (h : ∀ x, (enc x).length = sz) (l : List α) (rest : List Value) {i : Nat} (hi : i < l.length) (y : α) :
    spl (l.flatMap enc ++ rest) (i * sz) (enc y) = (l.set i y).flatMap enc ++ rest := by
  have hl := flat_len h l
  have h1 : (i + 1) * sz ≤ l.length * sz := Nat.mul_le_mul_right _ hi
  rw [Nat.add_mul, Nat.one_mul] at h1
  rw [spl, h, List.take_append_of_le_length (by omega), List.drop_append_of_le_length (by omega), flat_take l i h, show i * sz + sz = (i + 1) * sz by rw [Nat.add_mul, Nat.one_mul], flat_drop l (i + 1) h,
    List.set_eq_take_append_cons_drop, if_pos hi, List.flatMap_append, List.flatMap_cons]
  simp only [List.append_assoc]
/-- An element of a slice of one's own is exchanged. -/
theorem OwnS.setx {α : Type} {enc : α → List Value} {sz : Nat} {w : World} {s : SV} {l : List α} {T : TypeId} {B : Nat} (h : OwnS enc sz T w B s l) {i : Nat} (hi : i < l.length) {A : Addr} (hA : s.a = some A) (y : α) :
    canSt w (A.add (i * sz)) (enc y).length ∧ OwnS enc sz T (setCells w (A.add (i * sz)) 0 (enc y)) B s (l.set i y) ∧
      (setCells w (A.add (i * sz)) 0 (enc y)).heap.size = w.heap.size ∧ Upd s.blk w (setCells w (A.add (i * sz)) 0 (enc y)) := by
  rcases h.own.is with ⟨h1, _⟩ | ⟨b, rest, ha, hB, hb, hcap, hle⟩
  · rw [h1] at hA; simp at hA
  · have hA' := hA
    rw [ha] at hA
    obtain rfl := Option.some.inj hA
    have hl := flat_len h.esz l
    have h1 : (i + 1) * sz ≤ l.length * sz := Nat.mul_le_mul_right _ hi
    rw [Nat.add_mul, Nat.one_mul] at h1
    have hlen : (l.set i y).flatMap enc = (l.set i y).flatMap enc := rfl
    have hls : ((l.set i y).flatMap enc).length = (l.flatMap enc).length := by rw [flat_len h.esz, flat_len h.esz, List.length_set]
    rw [add_mk, Nat.zero_add]
    refine ⟨canSt_blk hb (by rw [h.esz, List.length_append]; omega), ⟨⟨by rw [hls]; exact h.own.len, .inr ⟨b, rest, ha, hB, ?_, ?_, hle⟩⟩, h.esz, h.pos⟩, by rw [setCells_size], (Upd.refl _ w).setCells (p := ⟨b, i * sz, none⟩) (fun _ => ⟨_, hA', rfl⟩) 0 _⟩
    · rw [setCells_blk (o := i * sz) (enc y) w 0 _ hb (by rw [h.esz, List.length_append]; omega), Nat.add_zero, flat_spl h.esz l rest hi y]
    · rw [List.length_append, hls, ← List.length_append]; exact hcap
end Go.Vc
/- Blocks that hold a variable: what stands in them, what is loaded, stored. Conditions: those that each lemma names. -/
namespace Go.Vc
open Go
/-- A block holds these cells. -/
def BK (w : World) (b : Nat) (T : TypeId) (vs : List Value) : Prop := w.heap[b]? = some (.cells vs.toArray T (0, 0))
theorem BK.new (w : World) (T : TypeId) (vs : List Value) : BK (w.alloc (.cells vs.toArray T)) w.heap.size T vs := blk_new _ _
variable {w w' : World} {b : Nat} {T : TypeId} {vs : List Value}
theorem BK.all (h : BK w b T vs) : cellsAt w ⟨b, 0, none⟩ vs := cellsAt_blk h fun j v hv => by simpa using hv
theorem BK.get (h : BK w b T vs) (i : Nat) {v : Value} (hv : vs[i]? = some v) : w.cell? (Addr.add ⟨b, 0, none⟩ i) = some v := by
  rw [add_mk, cell_blk h, Nat.zero_add]; simpa using hv
theorem BK.upd {M : Nat → Prop} (h : BK w b T vs) (u : Upd M w w') (hm : ¬ M b) : BK w' b T vs := u.get h hm
theorem BK.ext (h : BK w b T vs) (u : Ext w w') : BK w' b T vs := h.upd u id
theorem BK.drew (h : BK w b T vs) : BK w.drew b T vs := h
theorem BK.lt (h : BK w b T vs) : b < w.heap.size := lt_of_blk h
theorem BK.can (h : BK w b T vs) {n : Nat} (hn : n ≤ vs.length) : canSt w ⟨b, 0, none⟩ n := canSt_blk (c := vs) h (by omega)
theorem BK.set (h : BK w b T vs) {us : List Value} (hu : us.length = vs.length) : BK (setCells w ⟨b, 0, none⟩ 0 us) b T us := by
  have := setCells_blk (o := 0) us w 0 vs h (by omega)
  unfold BK
  rw [this]
  simp [spl, hu]
theorem BK.store (h : BK w b T vs) (i : Nat) (hi : i < vs.length) (v : Value) :
    (w.cell? (Addr.add ⟨b, 0, none⟩ i)).isSome = true ∧ w.frozen? (Addr.add ⟨b, 0, none⟩ i) = false ∧ BK (w.setCell (Addr.add ⟨b, 0, none⟩ i) v) b T (vs.set i v) := by
  rw [add_mk, cell_blk h, frozen_blk h, Nat.zero_add]
  refine ⟨by simp [hi], rfl, ?_⟩
  unfold BK
  rw [blk_set h, List.setIfInBounds_toArray]
theorem BK.sets_ne (h : BK w b T vs) {A : Addr} (hc : b ≠ A.block) (i : Nat) (us : List Value) : BK (setCells w A i us) b T vs := by
  unfold BK
  rw [setCells_heap_ne us w A i hc]; exact h
theorem BK.alloc (h : BK w b T vs) (o : Obj) : BK (w.alloc o) b T vs := h.ext (ext_alloc w o)
/-- A variable that is made and filled. -/
theorem bk_mk {w1 w2 w3 : World} {z : List Value} (ha : w1.alloc (.cells z.toArray T) = w2) (hs : setCells w2 ⟨w1.heap.size, 0, none⟩ 0 vs = w3) (hz : z.length = vs.length) :
    canSt w2 ⟨w1.heap.size, 0, none⟩ vs.length ∧ BK w3 w1.heap.size T vs ∧ Ext w1 w3 ∧ w3.heap.size = w1.heap.size + 1 := by
  have h0 : BK w2 w1.heap.size T z := by rw [← ha]; exact BK.new w1 T z
  have e2 : Ext w1 w2 := by rw [← ha]; exact ext_alloc _ _
  refine ⟨h0.can (by omega), by rw [← hs]; exact h0.set hz.symm, by rw [← hs]; exact e2.setCells (p := ⟨w1.heap.size, 0, none⟩) (fun h => by simp at h) 0 vs, ?_⟩
  rw [← hs, setCells_size, ← ha]; simp
/-- What is made. -/
theorem bk_new {w1 w2 : World} (ha : w1.alloc (.cells vs.toArray T) = w2) : BK w2 w1.heap.size T vs ∧ Ext w1 w2 ∧ w2.heap.size = w1.heap.size + 1 :=
  ⟨by rw [← ha]; exact BK.new w1 T vs, by rw [← ha]; exact ext_alloc _ _, by rw [← ha]; simp⟩
/-- A block that is new since w0 is written whole. -/
theorem bk_put {w0 w1 w2 : World} {b : Nat} {us : List Value} (h : BK w1 b T vs) (he : Ext w0 w1) (hb : w0.heap.size ≤ b) (hs : setCells w1 ⟨b, 0, none⟩ 0 us = w2) (hu : us.length = vs.length) :
    canSt w1 ⟨b, 0, none⟩ us.length ∧ BK w2 b T us ∧ Ext w0 w2 ∧ w2.heap.size = w1.heap.size ∧ ∀ c T' vs', c ≠ b → BK w1 c T' vs' → BK w2 c T' vs' := by
  refine ⟨h.can (by omega), by rw [← hs]; exact h.set hu, by rw [← hs]; exact he.setCells (p := ⟨b, 0, none⟩) (fun h => by have h' : b < w0.heap.size := h; omega) 0 us, by rw [← hs, setCells_size], fun c T' vs' hc hk => ?_⟩
  rw [← hs]; exact hk.sets_ne (A := ⟨b, 0, none⟩) hc 0 us
end Go.Vc
/- sector.Seal and sector.Open. Conditions: those of each contract. -/
namespace Go.Vc
open Go
end Go.Vc
namespace Go.Proofs
open Go Go.Vc Go.Crc
/-- A block of bytes. -/
abbrev BB (w : World) (b : Nat) (T : TypeId) (l : List UInt8) : Prop := BK w b T (B8 l)
theorem BB.rd {w : World} {b : Nat} {T : TypeId} {l : List UInt8} (h : BB w b T l) (c : Nat) : RdB w ⟨some ⟨b, 0, none⟩, l.length, c⟩ l :=
  ⟨by rw [B8_length]; simp, fun h => by simp at h, fun A hA => by obtain rfl := Option.some.inj hA; exact h.all⟩
theorem BB.set {w : World} {b T i : Nat} {l : List UInt8} (h : BB w b T l) (x : UInt8) : BB (w.setCell (Addr.add ⟨b, 0, none⟩ i) (.int .u8 x.toNat)) b T (l.set i x) := by
  have := blk_set (o := i) h (.int .u8 x.toNat)
  rw [add_mk, Nat.zero_add]
  refine this.trans ?_
  simp [B8, List.map_set]
/-- New bytes: readable, in a block that was not there. -/
structure NewB (w w' : World) (s : SV) (l : List UInt8) : Prop where
  rd : RdB w' s l
  cap : s.len ≤ s.cap
  new : ∀ b, s.blk b → w.heap.size ≤ b ∧ b < w'.heap.size
theorem NewB.nil (w w' : World) : NewB w w' ⟨none, 0, 0⟩ [] := ⟨Rd.nil' _ _ _, by simp, by rintro b ⟨A, hA, _⟩; simp at hA⟩
theorem OwnB.newB {w w' : World} {s : SV} {l : List UInt8} (h : OwnB w' w.heap.size s l) : NewB w w' s l := ⟨h.rd, h.cap_le, fun _ hb => ⟨h.blk_ge hb, h.blk_lt hb⟩⟩
theorem NewB.ext {w w' w2 : World} {s : SV} {l : List UInt8} (h : NewB w w' s l) (e : Ext w' w2) : NewB w w2 s l := ⟨h.rd.ext e, h.cap, fun b hb => ⟨(h.new b hb).1, by have := (h.new b hb).2; have := e.size; omega⟩⟩
theorem NewB.to {w0 w w' : World} {s : SV} {l : List UInt8} (h : NewB w w' s l) (e : Ext w0 w) : NewB w0 w' s l := ⟨h.rd, h.cap, fun b hb => ⟨by have := (h.new b hb).1; have := e.size; omega, (h.new b hb).2⟩⟩
theorem NewB.upd {M : Nat → Prop} {w w' w2 : World} {s : SV} {l : List UInt8} (h : NewB w w' s l) (u : Upd M w' w2) (hm : ∀ b, s.blk b → ¬ M b) : NewB w w2 s l := ⟨h.rd.upd u hm, h.cap, fun b hb => ⟨(h.new b hb).1, by have := (h.new b hb).2; have := u.size; omega⟩⟩
theorem k_beq (k c : UInt8) : (((k.toNat : Nat) : Int) == ((c.toNat : Nat) : Int)) = (k == c) := by
  rw [Bool.eq_iff_iff, beq_iff_eq, beq_iff_eq, ← UInt8.toNat_inj]; omega
theorem known_walk (k : UInt8) {R : Bool → Prop} (hR : R (knownK k)) : cnd (((k.toNat : Nat) : Int) == 23) (cnd (((k.toNat : Nat) : Int) == 23) (R true) (R false)) (cnd (((k.toNat : Nat) : Int) == 43) (cnd (((k.toNat : Nat) : Int) == 43) (R true) (R false))
    (cnd (((k.toNat : Nat) : Int) == 77) (cnd (((k.toNat : Nat) : Int) == 77) (R true) (R false)) (cnd (((k.toNat : Nat) : Int) == 142) (cnd (((k.toNat : Nat) : Int) == 142) (R true) (R false)) (cnd (((k.toNat : Nat) : Int) == 113) (cnd (((k.toNat : Nat) : Int) == 113) (R true) (R false)) (cnd (((k.toNat : Nat) : Int) == 178) (R true) (R false)))))) := by
  have e1 : (((k.toNat : Nat) : Int) == 23) = (k == 23) := k_beq k 23
  have e2 : (((k.toNat : Nat) : Int) == 43) = (k == 43) := k_beq k 43
  have e3 : (((k.toNat : Nat) : Int) == 77) = (k == 77) := k_beq k 77
  have e4 : (((k.toNat : Nat) : Int) == 142) = (k == 142) := k_beq k 142
  have e5 : (((k.toNat : Nat) : Int) == 113) = (k == 113) := k_beq k 113
  have e6 : (((k.toNat : Nat) : Int) == 178) = (k == 178) := k_beq k 178
  rw [e1, e2, e3, e4, e5, e6]
  unfold knownK at hR
  generalize (k == 23) = b1 at *
  generalize (k == 43) = b2 at *
  generalize (k == 77) = b3 at *
  generalize (k == 142) = b4 at *
  generalize (k == 113) = b5 at *
  generalize (k == 178) = b6 at *
  cases b1
  · cases b2
    · cases b3
      · cases b4
        · cases b5
          · cases b6 <;> exact hR
          · exact hR
        · exact hR
      · exact hR
    · exact hR
  · exact hR
theorem sector_Known.spec (k : UInt8) (w : World) : CallT [.one .bool] Try.prog F.sector_Known [.int .u8 k.toNat] w fun r w' => r = knownK k ∧ w = w' :=
  sector_Known.vc (k.toNat : Int) w _ (known_walk k (R := fun r => r = knownK k ∧ w = w) ⟨rfl, rfl⟩)
theorem ref03_Known.spec (k : UInt8) (w : World) : CallT [.one .bool] Try.prog F.dunnageref03_Known [.int .u8 k.toNat] w fun r w' => r = knownK k ∧ w = w' :=
  dunnageref03_Known.vc (k.toNat : Int) w _ (known_walk k (R := fun r => r = knownK k ∧ w = w) ⟨rfl, rfl⟩)
end Go.Proofs
/- sector.Open, the document's Seal and Open. Conditions: those of each contract. -/
namespace Go.Proofs
open Go Go.Vc Go.Crc
@[reducible] def secV (x : Int × Int × SV) : List Value := [.int .u8 x.1, .int .u64 x.2.1, .slice x.2.2.a x.2.2.len x.2.2.cap]
@[reducible] def zSec : List Value := [.int .u8 0, .int .u64 0, .slice none 0 0]
def SecAns (R : SecR) (w : World) (r : (Int × Int × SV) × Int) (w' : World) : Prop :=
  r.1.1 = (R.1.1.toNat : Int) ∧ r.1.2.1 = (R.1.2.1 : Int) ∧ NewB w w' r.1.2.2 R.1.2.2 ∧ r.2 = R.2 ∧ Ext w w'
theorem right_get {b : List UInt8} (h : b.length = 512) : rightB b = true ↔ leV ((b.drop 508).take 4) = more 0 (b.take 508) := by
  have hq : (b.drop 508).length = 4 := by rw [List.length_drop]; omega
  have hml := more_lt (s := 0) (by decide) (b.take 508)
  have ht4 : (b.drop 508).take 4 = b.drop 508 := List.take_of_length_le (by omega)
  rw [rightB, if_neg (by omega), show b.length - 4 = 508 by omega, beq_iff_eq, behindB, ht4]
  conv => lhs; rhs; rw [← List.take_append_drop 508 b]
  rw [List.append_right_inj]
  constructor
  · intro h1
    rw [← h1, leV_leB, Nat.mod_eq_of_lt hml]
  · intro h1
    have := leB_leV (b.drop 508)
    rw [hq] at this
    rw [← h1, this]
theorem getB_ok {b : List UInt8} (h : b.length = 512) {a n : Nat} (hn : 1 ≤ n ∧ n ≤ 8) (ha : a + n ≤ 512) : getB b (a : Int) (n : Int) = (((leV ((b.drop a).take n) : Nat) : Int), 0) := by
  rw [getB, if_neg (by omega), if_neg (by omega)]; simp
theorem leV_take_lt (l : List UInt8) (n : Nat) : leV (l.take n) < 256 ^ n := by
  have h1 := leV_lt (l.take n)
  have h2 : (l.take n).length ≤ n := by simp; omega
  exact Nat.lt_of_lt_of_le h1 (Nat.pow_le_pow_right (by decide) h2)
def Bad (b : List UInt8) : Prop := knownK (b.getD 0 0) = false ∨ b.getD 1 0 ≠ 0 ∨ 496 < leV ((b.drop 2).take 2) ∨ allZ ((b.drop (12 + leV ((b.drop 2).take 2))).take (496 - leV ((b.drop 2).take 2))) = false
theorem openR_len {b : List UInt8} (h : b.length ≠ 512) : openR b = ((0, 0, []), 1) := by rw [openR, if_pos h]
theorem openR_zero {b : List UInt8} (h : b.length = 512) (hz : allZ b = true) : openR b = ((0, 0, []), 0) := by rw [openR, if_neg (by omega), if_pos hz]
theorem openR_sum {b : List UInt8} (h : b.length = 512) (hz : allZ b = false) (hr : rightB b = false) : openR b = ((0, 0, []), 30) := by rw [openR, if_neg (by omega), if_neg (by rw [hz]; simp), if_pos hr]
theorem openR_bad {b : List UInt8} (h : b.length = 512) (hz : allZ b = false) (hr : rightB b = true) (hb : Bad b) : openR b = ((0, 0, []), 11) := by rw [openR, if_neg (by omega), if_neg (by rw [hz]; simp), if_neg (by rw [hr]; simp)]; exact if_pos hb
theorem openR_ok {b : List UInt8} (h : b.length = 512) (hz : allZ b = false) (hr : rightB b = true) (hb : ¬ Bad b) : openR b = ((b.getD 0 0, leV ((b.drop 4).take 8), (b.drop 12).take (leV ((b.drop 2).take 2))), 0) := by
  rw [openR, if_neg (by omega), if_neg (by rw [hz]; simp), if_neg (by rw [hr]; simp)]; exact if_neg hb
/-- The answer is put into the result's variable. -/
theorem sec_out {w w' : World} {R : SecR} {b : Nat} {q : SV} {k t code : Int} (hb : BK w' b T.api_Sector zSec) (he : Ext w w') (hw : w.heap.size ≤ b) (hq : NewB w w' q R.1.2.2) (hne : ∀ c, q.blk c → c ≠ b) (h1 : k = (R.1.1.toNat : Int)) (h2 : t = (R.1.2.1 : Int)) (h3 : code = R.2) :
    canSt w' ⟨b, 0, none⟩ 3 ∧ ∃ x : Int × Int × SV, cellsAt (setCells w' ⟨b, 0, none⟩ 0 (secV (k, t, q))) ⟨b, 0, none⟩ (secV x) ∧ SecAns R w ((x.1, x.2.1, x.2.2), code) (setCells w' ⟨b, 0, none⟩ 0 (secV (k, t, q))) := by
  have u : Upd (fun x => x = b) w' (setCells w' ⟨b, 0, none⟩ 0 (secV (k, t, q))) := (Upd.refl (fun x => x = b) w').setCells (p := ⟨b, 0, none⟩) (fun _ => rfl) 0 _
  generalize hd : setCells w' _ 0 _ = w2 at *
  obtain ⟨c, b2, e2, z2, _⟩ := bk_put (us := secV (k, t, q)) hb he hw hd rfl
  exact ⟨c, (k, t, q), b2.all, h1, h2, hq.upd u hne, h3, e2⟩
theorem sec_err {w w' : World} {b : Nat} {code : Int} (hb : BK w' b T.api_Sector zSec) (he : Ext w w') (hw : w.heap.size ≤ b) :
    canSt w' ⟨b, 0, none⟩ 3 ∧ ∃ x : Int × Int × SV, cellsAt (setCells w' ⟨b, 0, none⟩ 0 [.int .u8 0, .int .u64 0, .slice none 0 0]) ⟨b, 0, none⟩ [.int .u8 x.1, .int .u64 x.2.1, .slice x.2.2.a x.2.2.len x.2.2.cap] ∧ SecAns ((0, 0, []), code) w ((x.1, x.2.1, x.2.2), code) (setCells w' ⟨b, 0, none⟩ 0 [.int .u8 0, .int .u64 0, .slice none 0 0]) :=
  sec_out (R := ((0, 0, []), code)) (k := 0) (t := 0) (q := ⟨none, 0, 0⟩) hb he hw (NewB.nil _ _) (fun c h => by obtain ⟨A, hA, _⟩ := h; simp at hA) (by simp) (by simp) rfl
set_option maxRecDepth 100000 in
theorem sector_Open.spec {w : World} {s : SV} {b : List UInt8} (hb : RdB w s b) (hc : s.len ≤ s.cap) (_hl : b.length ≤ 140737488351232) :
    CallT [.agg [.int .u8, .int .u64, .slice], .one (.int .i64)] Try.prog F.sector_Open [.slice s.a s.len s.cap] w fun r w' => SecAns (openR b) w r w' := by
  refine sector_Open.vc s w _ ?_
  have hsl := hb.lenB
  generalize hc1 : w.alloc _ = w1
  obtain ⟨b1, e1, z1⟩ := bk_new (T := T.api_Sector) (vs := zSec) hc1
  dsimp only
  refine cnd_bne (fun hne => ?_) (fun h512 => ?_)
  · rw [openR_len (by omega)]
    exact sec_err b1 e1 (Nat.le_refl _)
  have h512 : b.length = 512 := by omega
  refine CallT.mono (word_Zero.spec (hb.ext e1) (by omega)) ?_
  rintro _ w2 ⟨rfl, e2⟩
  have b2 := b1.ext e2
  have e02 := e1.tr e2
  cases hz : allZ b with
  | true =>
    refine cnd_pos rfl ?_
    rw [openR_zero h512 hz]
    exact sec_err b2 e02 (Nat.le_refl _)
  | false =>
  refine cnd_neg rfl ?_
  refine CallT.mono (word_Get.spec (hb.ext e02) hc (by omega) (a := 508) (n := 4) (by decide) (by decide)) ?_
  rintro _ w3 ⟨rfl, e3⟩
  rw [show getB b 508 4 = _ from getB_ok h512 (a := 508) (n := 4) (by decide) (by decide)]
  have e03 := e02.tr e3
  refine ⟨by decide, by omega, ?_⟩
  have hr := (hb.ext e03).subB hc (i := 0) (j := 508) (by decide) (by omega)
  rw [List.drop_zero] at hr
  refine CallT.mono (crc_Sum.spec hr (by simp; omega)) ?_
  rintro _ w4 ⟨rfl, e4⟩
  have e04 := e03.tr e4
  have b4 := (b2.ext e3).ext e4
  have hml := more_lt (s := 0) (by decide) (b.take 508)
  have hw : IntKind.u64.wrap ((more 0 (b.take (508 - 0)) : Nat) : Int) = ((more 0 (b.take 508) : Nat) : Int) := by rw [u64_mod]; simp only [Nat.sub_zero]; omega
  dsimp only
  rw [hw]
  refine cnd_bne (fun hne => ?_) (fun heq => ?_)
  · have hrf : rightB b = false := by
      cases hh : rightB b with
      | false => rfl
      | true => exact absurd (by rw [(right_get h512).1 hh]) hne
    rw [openR_sum h512 hz hrf]
    exact sec_err b4 e04 (Nat.le_refl _)
  have hrt : rightB b = true := (right_get h512).2 (by omega)
  refine CallT.mono (word_Get.spec (hb.ext e04) hc (by omega) (a := 2) (n := 2) (by decide) (by decide)) ?_
  rintro _ w5 ⟨rfl, e5⟩
  rw [show getB b 2 2 = _ from getB_ok h512 (a := 2) (n := 2) (by decide) (by decide)]
  have e05 := e04.tr e5
  have b5 := b4.ext e5
  have hb5 := hb.ext e05
  have hn2 := leV_take_lt (b.drop 2) 2
  have hB : ∀ P : Prop, (knownK (b.getD 0 0) = false → P) → (b.getD 1 0 ≠ 0 → P) → (496 < leV ((b.drop 2).take 2) → P) → (allZ ((b.drop (12 + leV ((b.drop 2).take 2))).take (496 - leV ((b.drop 2).take 2))) = false → P) → Bad b → P := fun P p1 p2 p3 p4 h => by
    rcases h with h | h | h | h
    · exact p1 h
    · exact p2 h
    · exact p3 h
    · exact p4 h
  have hBi : ∀ {P : Prop}, (P → Bad b) → P → Bad b := fun h => h
  have g0 : b[0]? = some (b.getD 0 0) := by rw [List.getD_eq_getElem?_getD, List.getElem?_eq_getElem (by omega)]; rfl
  have g1 : b[1]? = some (b.getD 1 0) := by rw [List.getD_eq_getElem?_getD, List.getElem?_eq_getElem (by omega)]; rfl
  have hbad : Bad b ↔ (knownK (b.getD 0 0) = false ∨ b.getD 1 0 ≠ 0 ∨ 496 < leV ((b.drop 2).take 2) ∨ allZ ((b.drop (12 + leV ((b.drop 2).take 2))).take (496 - leV ((b.drop 2).take 2))) = false) := Iff.rfl
  have hok := openR_ok h512 hz hrt
  have hno := openR_bad h512 hz hrt
  generalize b.getD 0 0 = k0 at *
  generalize b.getD 1 0 = k1 at *
  generalize leV ((b.drop 2).take 2) = n at *
  generalize Bad b = G at *
  have hwn : n ≤ 496 → IntKind.u64.wrap (12 + (n : Int)) = ((12 + n : Nat) : Int) := fun h => by rw [u64_mod]; omega
  refine ⟨fun _ w' => BK w' w.heap.size T.api_Sector zSec ∧ Ext w w' ∧ ¬ G, ⟨fun x w' => BK w' w.heap.size T.api_Sector zSec ∧ Ext w w' ∧ (x = true ↔ G), ⟨by decide, by omega, SV.getB hb5 (i := 0) (by omega) fun A hA => ⟨(k0.toNat : Int), hb5.cellB g0 hA, CallT.mono (sector_Known.spec k0 w5) ?_⟩⟩, ?_⟩, ?_⟩
  · rintro _ _ ⟨rfl, rfl⟩
    refine cnd_not (fun hk => ⟨b5, e05, by rw [hbad]; simp [hk]⟩) (fun hk => ⟨by decide, by omega, SV.getB hb5 (i := 1) (by omega) fun A hA => ⟨(k1.toNat : Int), hb5.cellB g1 hA, cnd_bne (fun h1 => ⟨b5, e05, ?_⟩) fun h1 => cnd_dec (fun h2 => ⟨b5, e05, ?_⟩) fun h2 => ?_⟩⟩)
    · rw [hbad]
      have : k1 ≠ 0 := by rintro rfl; exact h1 rfl
      simp [this]
    · rw [hbad]
      have : 496 < n := by omega
      simp [this]
    · have hn : n ≤ 496 := by omega
      rw [hwn hn]
      refine ⟨by decide, by omega, by omega, by simp; omega, ?_⟩
      have hr2 := hb5.subB hc (i := 12 + n) (j := 508) (by omega) (by omega)
      rw [show 508 - (12 + n) = 496 - n by omega] at hr2
      simp only [Int.toNat_natCast]
      have h508 : Int.toNat 508 - (12 + n) = 496 - n := by simp; omega
      rw [h508]
      refine CallT.mono (word_Zero.spec hr2 (by simp; omega)) ?_
      rintro _ w6 ⟨rfl, e6⟩
      refine ⟨b5.ext e6, e05.tr e6, ?_⟩
      rw [hbad]
      have hk1 : k1 = 0 := by rw [← UInt8.toNat_inj]; simpa using h1
      have hn' : ¬ 496 < n := by omega
      simp [hk, hk1, hn']
  · rintro x _ w6 ⟨b6, e6, hx⟩
    cases x with
    | true =>
      refine cnd_pos rfl ?_
      rw [hno (hx.1 rfl)]
      exact sec_err b6 e6 (Nat.le_refl _)
    | false => exact cnd_neg rfl ⟨b6, e6, fun g => by have := hx.2 g; simp at this⟩
  rintro _ _ w6 ⟨b6, e6, hG⟩
  have hn : n ≤ 496 := by rw [hbad] at hG; omega
  refine CallT.mono (word_Get.spec (hb.ext e6) hc (by omega) (a := 4) (n := 8) (by decide) (by decide)) ?_
  rintro _ w7 ⟨rfl, e7⟩
  rw [show getB b 4 8 = _ from getB_ok h512 (a := 4) (n := 8) (by decide) (by decide), hok hG]
  have e07 := (e6.tr e7).tr (ext_drew w7)
  have b7 := (b6.ext e7).ext (ext_drew w7)
  have hb7 := hb.ext e07
  refine ⟨fun w' => RdB w' s b, hb7, by decide, by omega, SV.getB hb7 (i := 0) (by omega) fun A hA => ⟨(k0.toNat : Int), fun w' hw' => hw'.cellB g0 hA, ?_⟩⟩
  generalize w7.drew = w8 at *
  rw [hwn hn]
  refine ⟨by omega, by omega, by decide, by simp; omega, ?_⟩
  have hr3 := hb7.subB hc (i := 12) (j := 12 + n) (by omega) (by omega)
  simp only [Int.toNat_natCast]
  rw [show 12 + n - 12 = n by omega] at hr3
  rw [show 12 + n - Int.toNat 12 = n by simp]
  refine CallT.mono (slices_Clone_byte_byte.spec hr3 (by simp; omega)) ?_
  rintro q w9 ⟨hq, e9, _⟩
  have e09 := e07.tr e9
  refine ⟨hb7.ext e9, ?_⟩
  refine sec_out (b7.ext e9) e09 (Nat.le_refl _) (hq.newB.to e07) (fun c h hcb => ?_) rfl rfl rfl
  have := hq.blk_ge h
  have := b7.lt
  omega
end Go.Proofs
/- The document's Seal, Open and Good; sector.Good. Conditions: those of each contract. -/
namespace Go.Proofs
open Go Go.Vc Go.Crc
theorem ref03_number.spec {w0 w : World} {s : SV} {l : List UInt8} {v n : Nat} (he : Ext w0 w) (hs : OwnB w w0.heap.size s l) (hn : n ≤ 8) (hl : l.length ≤ 1000000) :
    CallT [.one .slice] Try.prog F.dunnageref03_number [.slice s.a s.len s.cap, .int .u64 v, .int .i64 n] w fun r w' => OwnB w' w0.heap.size r (l ++ leB n v) ∧ Ext w0 w' := by
  refine dunnageref03_number.vc s v n w _ ?_
  refine ⟨fun m x w' => ∃ i : Nat, x.2 = i ∧ m = n - i ∧ i ≤ n ∧ OwnB w' w0.heap.size x.1 (l ++ leB i v) ∧ Ext w0 w',
    ⟨_, 0, rfl, rfl, by omega, by simpa [leB] using hs, he⟩, ?_⟩
  rintro m ⟨o', i'⟩ j w' ⟨i, h2, rfl, hik, ho', he'⟩
  dsimp only at h2 ho' ⊢
  subst h2
  refine cnd_dec (fun hlt => ?_) (fun hge => ?_)
  · have hol := ho'.lenB
    rw [List.length_append, leB_len] at hol
    have hw : IntKind.u64.wrap (8 * IntKind.u64.wrap (i : Int)) = ((8 * i : Nat) : Int) := by rw [u64_id (x := i) (by omega) (by omega), u64_id] <;> omega
    rw [hw, shr_nat (k := .u64) (by simp only [IntKind.bits]; omega), ← pow256]
    have h8 := u8_of (v / 256 ^ i)
    rw [h8]
    refine And.intro (by omega) ?_
    refine app_new (vs := B8 [UInt8.ofNat (v / 256 ^ i)]) appB he' ho' rfl (B8_one _) (by omega) ?_
    intro s' w2 ho2 he2 _ _
    refine ⟨n - (i + 1), by omega, i + 1, by rw [i64_id] <;> omega, rfl, by omega, ?_, he2⟩
    rw [leB_succ, ← List.append_assoc, OwnB, B8_append (l ++ leB i v)]; exact ho2
  · have : i = n := by omega
    subst this
    exact ⟨ho', he'⟩
set_option maxRecDepth 100000 in
theorem ref03_Seal.spec {w : World} (k : UInt8) {t : Nat} {s : SV} {p : List UInt8} (_ht : t < 2 ^ 64) (hp : RdB w s p) :
    CallT [.one .slice, .one (.int .i64)] Try.prog F.dunnageref03_Seal [.int .u8 k.toNat, .int .u64 t, .slice s.a s.len s.cap] w fun r w' => NewB w w' r.1 (sealR k t p).1 ∧ r.2 = (sealR k t p).2 ∧ Ext w w' := by
  refine dunnageref03_Seal.vc (k.toNat : Int) (t : Int) s w _ ?_
  have hpl := hp.lenB
  refine CallT.mono (ref03_Known.spec k w) ?_
  rintro _ _ ⟨rfl, rfl⟩
  refine cnd_not (fun hf => ?_) (fun hk => cnd_dec (fun h => ?_) (fun h => ?_))
  · rw [sealR, if_pos hf]; exact ⟨NewB.nil _ _, rfl, Upd.refl _ _⟩
  · rw [sealR, if_neg (by rw [hk]; simp), if_pos (by omega)]; exact ⟨NewB.nil _ _, rfl, Upd.refl _ _⟩
  rw [sealR, if_neg (by rw [hk]; simp), if_neg (by omega)]
  have hl : p.length ≤ 496 := by omega
  have hn64 : IntKind.u64.wrap (s.len : Int) = (p.length : Int) := by rw [u64_mod]; omega
  rw [hn64]
  have h0 : OwnB (w.alloc (.cells (B8 [k, 0]).toArray T.uint8)) w.heap.size ⟨some ⟨w.heap.size, 0, none⟩, 2, 2⟩ [k, 0] := Own.new w T.uint8 1 2 (B8 [k, 0]) rfl
  have e0 := ext_alloc w (.cells (B8 [k, 0]).toArray T.uint8)
  refine CallT.mono (ref03_number.spec (s := ⟨some ⟨w.heap.size, 0, none⟩, 2, 2⟩) (v := p.length) (n := 2) e0 h0 (by decide) (by simp)) ?_
  rintro a w1 ⟨ha, e1⟩
  refine CallT.mono (ref03_number.spec (v := t) (n := 8) e1 ha (by decide) (by simp [leB_len])) ?_
  rintro b w2 ⟨hb, e2⟩
  have hbl := hb.lenB
  simp only [List.length_append, leB_len, List.length_cons, List.length_nil] at hbl
  refine app_rd appB e2 hb (hp.ext e2) (B8_one _) (fun hlt => ?_) ?_
  · have := nextcap_le hlt; omega
  intro c w3 hc e3 _ _
  rw [← B8_append] at hc
  refine ⟨fun m x w' => ∃ i : Nat, m = 496 - p.length - i ∧ i ≤ 496 - p.length ∧ OwnB w' w.heap.size x ([k, 0] ++ leB 2 p.length ++ leB 8 t ++ p ++ List.replicate i 0) ∧ Ext w w', ⟨_, 0, rfl, by omega, by simpa using hc, e3⟩, ?_⟩
  rintro m x _ w4 ⟨i, rfl, hi, hx, e4⟩
  have hxl := hx.lenB
  simp only [List.length_append, leB_len, List.length_cons, List.length_nil, List.length_replicate] at hxl
  refine cnd_dec (fun hlt => ?_) (fun hge => ?_)
  · refine app_new (vs := B8 [0]) appB e4 hx rfl (B8_one _) (by omega) ?_
    intro s' w5 ho2 e5 _ _
    refine ⟨496 - p.length - (i + 1), by omega, i + 1, rfl, by omega, ?_, e5⟩
    rw [List.replicate_succ', ← List.append_assoc, OwnB, B8_append (_ ++ List.replicate i 0)]; exact ho2
  have hi' : i = 496 - p.length := by omega
  subst hi'
  have hsec : [k, 0] ++ leB 2 p.length ++ leB 8 t ++ p ++ List.replicate (496 - p.length) 0 = secH k t p := rfl
  rw [hsec] at hx
  have hsl := secH_len (k := k) (t := t) hl
  refine CallT.mono (dunnageref02_Sum.spec hx.rd (by rw [hsl]; decide)) ?_
  rintro _ _ ⟨rfl, rfl⟩
  have hml := more_lt (s := 0) (by decide) (secH k t p)
  have hw7 : IntKind.u64.wrap ((more 0 (secH k t p) : Nat) : Int) = ((more 0 (secH k t p) : Nat) : Int) := by rw [u64_mod]; omega
  rw [hw7]
  refine CallT.mono (ref03_number.spec (v := more 0 (secH k t p)) (n := 4) e4 hx (by decide) (by rw [hsl]; decide)) ?_
  rintro d w5 ⟨hd, e5⟩
  exact ⟨OwnB.newB hd, by simp, e5⟩
theorem sector_Good.spec {w : World} {s : SV} {b : List UInt8} (hb : RdB w s b) (hc : s.len ≤ s.cap) (hl : b.length ≤ 140737488351232) :
    CallT [.one .bool] Try.prog F.sector_Good [.slice s.a s.len s.cap] w fun r w' => r = decide ((openR b).2 = 0) ∧ Ext w w' := by
  refine sector_Good.vc s w _ (CallT.mono (sector_Open.spec hb hc hl) ?_)
  rintro ⟨⟨k, t, q⟩, e⟩ w1 ⟨_, _, _, he, e1⟩
  dsimp only at he ⊢
  generalize hc1 : w1.alloc _ = w2
  generalize hd1 : setCells w2 _ 0 _ = w3
  obtain ⟨c3, _, e3, _⟩ := bk_mk (T := T.api_Sector) (z := zSec) (vs := secV (k, t, q)) hc1 hd1 rfl
  refine ⟨c3, ?_, e1.tr e3⟩
  rw [he, Bool.eq_iff_iff]; simp
end Go.Proofs
/- layout: what Plan, Region, Segment, Capacity, Phys, Logic, LogAt tell, by the program and by the reference. Conditions: those of each contract. -/
namespace Go.Proofs
open Go Go.Vc

abbrev L9 := Int × Int × Int × Int × Int × Int × Int × Int × Int
@[reducible] def L9.vs (x : L9) : List Value := [.int .i64 x.1, .int .i64 x.2.1, .int .i64 x.2.2.1, .int .i64 x.2.2.2.1, .int .i64 x.2.2.2.2.1, .int .i64 x.2.2.2.2.2.1, .int .i64 x.2.2.2.2.2.2.1, .int .i64 x.2.2.2.2.2.2.2.1, .int .i64 x.2.2.2.2.2.2.2.2]
@[reducible] def L9.v (x : L9) : Value := .agg x.vs.toArray
/-- A block that holds a layout. -/
def LB (w : World) (b : Nat) (x : L9) : Prop := w.heap[b]? = some (.cells x.vs.toArray T.api_Layout (0, 0))
theorem LB.new (w : World) (x : L9) : LB (w.alloc (.cells x.vs.toArray T.api_Layout)) w.heap.size x := blk_new _ _
theorem LB.all {w : World} {b : Nat} {x : L9} (h : LB w b x) : cellsAt w ⟨b, 0, none⟩ x.vs := cellsAt_blk h fun j v hv => by simpa using hv
theorem LB.get {w : World} {b : Nat} {x : L9} (h : LB w b x) (i : Nat) {v : Value} (hv : x.vs[i]? = some v) : w.cell? (Addr.add ⟨b, 0, none⟩ i) = some v := by
  rw [add_mk, cell_blk h, Nat.zero_add]; simpa using hv
theorem LB.upd {M : Nat → Prop} {w w' : World} {b : Nat} {x : L9} (h : LB w b x) (u : Upd M w w') (hm : ¬ M b) : LB w' b x := u.get h hm
theorem LB.ext {w w' : World} {b : Nat} {x : L9} (h : LB w b x) (u : Ext w w') : LB w' b x := h.upd u id
theorem LB.can {w : World} {b : Nat} {x : L9} (h : LB w b x) : canSt w ⟨b, 0, none⟩ 9 := canSt_blk (c := x.vs) h (by simp)
theorem LB.set {w : World} {b : Nat} {x : L9} (h : LB w b x) (y : L9) : LB (setCells w ⟨b, 0, none⟩ 0 y.vs) b y := by
  have := setCells_blk (o := 0) y.vs w 0 x.vs h (by simp)
  simpa [spl, LB] using this
theorem LB.lt {w : World} {b : Nat} {x : L9} (h : LB w b x) : b < w.heap.size := lt_of_blk h

/-! ### Plan -/
structure PL (n q s : Int) : Prop where
  n1 : 256 ≤ n
  n2 : n ≤ 65536
  q1 : 8 * q ≤ n - 13
  q2 : n - 13 < 8 * q + 8
  s1 : 32 * s ≤ n - 13 - 3 * q
  s2 : n - 13 - 3 * q < 32 * s + 32
@[reducible] def lay (n q s : Int) : L9 := (n, 3, 13, q, 13 + q, 13 + 2 * q, q, 13 + 3 * q, s)
@[reducible] def lay0 : L9 := (0, 0, 0, 0, 0, 0, 0, 0, 0)
def planF (n : Int) : L9 × Int := if n < 256 ∨ n > 65536 then (lay0, 1) else (lay n ((n - 13) / 8) ((n - 13 - 3 * ((n - 13) / 8)) / 32), 0)
theorem planF_bad {n : Int} (h : n < 256 ∨ n > 65536) : planF n = (lay0, 1) := if_pos h
theorem layout_Plan.spec (n : Int) (w : World) :
    CallT [.agg [.int .i64, .int .i64, .int .i64, .int .i64, .int .i64, .int .i64, .int .i64, .int .i64, .int .i64], .one (.int .i64)] Try.prog F.layout_Plan [.int .i64 n] w fun r w' => r = planF n ∧ Ext w w' := by
  refine layout_Plan.vc n w _ ?_
  generalize hw_w1 : w.alloc _ = w1
  have h0 : LB w1 w.heap.size lay0 := by rw [← hw_w1]; exact LB.new w lay0
  have e0 : Ext w w1 := by rw [← hw_w1]; exact ext_alloc _ _
  have es : ∀ y : L9, Ext w (setCells w1 ⟨w.heap.size, 0, none⟩ 0 y.vs) := fun y => e0.setCells (p := ⟨w.heap.size, 0, none⟩) (fun h => by simp at h) 0 y.vs
  refine ⟨fun _ w' => w' = w1 ∧ ¬ (n < 256 ∨ n > 65536), ⟨fun b w' => w' = w1 ∧ (b = true ↔ (n < 256 ∨ n > 65536)), ?_, ?_⟩, ?_⟩
  · exact cnd_dec (fun h => ⟨rfl, by simp [h]⟩) (fun h => ⟨rfl, by simp [h]⟩)
  · rintro b _ _ ⟨rfl, hb⟩
    refine cnd_intro (fun ht => ?_) (fun hf => ⟨rfl, fun h => by rw [hb.2 h] at hf; cases hf⟩)
    refine ⟨h0.can, lay0, (h0.set lay0).all, ?_, es lay0⟩
    rw [planF_bad (hb.1 ht)]
  · rintro _ _ _ ⟨rfl, hn⟩
    have hq : IntKind.i64.wrap ((IntKind.i64.wrap (n - 13)).tdiv 8) = (n - 13) / 8 := by
      rw [i64_id (x := n - 13) (by omega) (by omega), Int.tdiv_eq_ediv_of_nonneg (by omega), i64_id (by omega) (by omega)]
    intro e1
    have he1 : e1 = 3 * ((n - 13) / 8) := by
      show IntKind.i64.wrap (3 * IntKind.i64.wrap ((IntKind.i64.wrap (n - 13)).tdiv 8)) = _
      rw [hq, i64_id (by omega) (by omega)]
    have hs : IntKind.i64.wrap ((IntKind.i64.wrap (n - IntKind.i64.wrap (13 + e1))).tdiv 32) = (n - 13 - 3 * ((n - 13) / 8)) / 32 := by
      rw [he1, i64_id (x := 13 + 3 * ((n - 13) / 8)) (by omega) (by omega), i64_id (x := n - (13 + 3 * ((n - 13) / 8))) (by omega) (by omega), Int.tdiv_eq_ediv_of_nonneg (by omega), i64_id (by omega) (by omega)]
      congr 1; omega
    rw [hs, hq, he1, i64_id (x := 13 + (n - 13) / 8) (by omega) (by omega), i64_id (x := 2 * ((n - 13) / 8)) (by omega) (by omega), i64_id (x := 13 + 2 * ((n - 13) / 8)) (by omega) (by omega), i64_id (x := 13 + 3 * ((n - 13) / 8)) (by omega) (by omega)]
    have hp : planF n = (lay n ((n - 13) / 8) ((n - 13 - 3 * ((n - 13) / 8)) / 32), 0) := if_neg hn
    refine ⟨h0.can, _, (h0.set (lay n ((n - 13) / 8) ((n - 13 - 3 * ((n - 13) / 8)) / 32))).all, ?_, es (lay n ((n - 13) / 8) ((n - 13 - 3 * ((n - 13) / 8)) / 32))⟩
    rw [hp]

/-! ### Region -/
def regP (n q s at_ : Int) : Int :=
  if at_ < 0 ∨ n ≤ at_ then 0 else if at_ < 2 then 1 else if at_ < 3 then 2 else if at_ < 13 then 3 else if at_ < 13 + q then 4 else if at_ < 13 + 2 * q then 5 else if at_ < 13 + 3 * q then 6 else if at_ < 13 + 3 * q + 32 * s then 7 else 0
/-- The regions: kind, from, how many. -/
def regs (q s : Int) : List (Int × Int × Int) := [(1, 0, 2), (2, 2, 1), (3, 3, 10), (4, 13, q), (5, 13 + q, q), (6, 13 + 2 * q, q), (7, 13 + 3 * q, 32 * s)]
def regV (q s : Int) : List Value := (regs q s).flatMap fun r => [.int .i64 r.1, .int .i64 r.2.1, .int .i64 r.2.2]
theorem layout_regions.spec {n q s : Int} (hp : PL n q s) (w : World) :
    CallT [.one .slice] Try.prog F.layout_regions [(lay n q s).v] w fun r w' => Ext w w' ∧ ∃ b, r = ⟨some ⟨b, 0, none⟩, 7, 7⟩ ∧ w.heap.size ≤ b ∧ w'.heap[b]? = some (.cells (regV q s).toArray T.layout_region (0, 0)) := by
  obtain ⟨n1, n2, q1, q2, s1, s2⟩ := hp
  refine layout_regions.vc (lay n q s) w _ ?_
  dsimp only [lay]
  generalize hw_w1 : w.alloc _ = w1
  have h0 : LB w1 w.heap.size (lay n q s) := by rw [← hw_w1]; exact LB.new w (lay n q s)
  have e0 : Ext w w1 := by rw [← hw_w1]; exact ext_alloc _ _
  refine ⟨3, h0.get 1 rfl, 13, h0.get 2 rfl, q, h0.get 3 rfl, by omega, by omega, 13 + q, h0.get 4 rfl, q, h0.get 6 rfl, by omega, by omega, 13 + 2 * q, by rw [add_add]; exact h0.get 5 rfl, q, h0.get 6 rfl, 13 + 3 * q, h0.get 7 rfl, s, h0.get 8 rfl, e0.alloc _, w1.heap.size, rfl, e0.size, ?_⟩
  · rw [blk_new, i64_id (by omega) (by omega), Int.mul_comm s 32]
    rfl
theorem regV_get (q s : Int) {i : Nat} (h : i < 7) (r : Int × Int × Int) (hr : (regs q s)[i]? = some r) : ∀ j v, ([Value.int .i64 r.1, .int .i64 r.2.1, .int .i64 r.2.2] : List Value)[j]? = some v → (regV q s).toArray[i * 3 + j]? = some v := by
  intro j v hv
  have hj : j < 3 := by
    rcases Nat.lt_or_ge j 3 with h | h
    · exact h
    · rw [List.getElem?_eq_none (by simpa using h)] at hv; simp at hv
  match i, h, j, hj with
  | 0, _, 0, _ | 0, _, 1, _ | 0, _, 2, _ | 1, _, 0, _ | 1, _, 1, _ | 1, _, 2, _ | 2, _, 0, _ | 2, _, 1, _ | 2, _, 2, _ | 3, _, 0, _ | 3, _, 1, _ | 3, _, 2, _
  | 4, _, 0, _ | 4, _, 1, _ | 4, _, 2, _ | 5, _, 0, _ | 5, _, 1, _ | 5, _, 2, _ | 6, _, 0, _ | 6, _, 1, _ | 6, _, 2, _ =>
    (have := Option.some.inj hr; subst this; exact hv)
def inR (r : Int × Int × Int) (x : Int) : Prop := r.2.1 ≤ x ∧ x < r.2.1 + r.2.2
theorem regs_mem {q s : Int} {i : Nat} {r : Int × Int × Int} (h : (regs q s)[i]? = some r) :
    (i = 0 ∧ r = (1, 0, 2)) ∨ (i = 1 ∧ r = (2, 2, 1)) ∨ (i = 2 ∧ r = (3, 3, 10)) ∨ (i = 3 ∧ r = (4, 13, q)) ∨ (i = 4 ∧ r = (5, 13 + q, q)) ∨ (i = 5 ∧ r = (6, 13 + 2 * q, q)) ∨ (i = 6 ∧ r = (7, 13 + 3 * q, 32 * s)) := by
  match i with
  | 0 | 1 | 2 | 3 | 4 | 5 | 6 => have := Option.some.inj h; subst this; simp
  | k + 7 => simp [regs] at h
theorem regP_of {n q s x : Int} (hp : PL n q s) {i : Nat} {r : Int × Int × Int} (h : (regs q s)[i]? = some r) (hr : inR r x) : regP n q s x = r.1 := by
  obtain ⟨n1, n2, q1, q2, s1, s2⟩ := hp
  obtain ⟨h1, h2⟩ := hr
  rcases regs_mem h with ⟨_, rfl⟩ | ⟨_, rfl⟩ | ⟨_, rfl⟩ | ⟨_, rfl⟩ | ⟨_, rfl⟩ | ⟨_, rfl⟩ | ⟨_, rfl⟩ <;> simp only at h1 h2 ⊢ <;> unfold regP <;> (repeat' split) <;> omega
theorem regP_none {n q s x : Int} (hp : PL n q s) (h : x < 0 ∨ n ≤ x ∨ ∀ r ∈ regs q s, ¬ inR r x) : regP n q s x = 0 := by
  obtain ⟨n1, n2, q1, q2, s1, s2⟩ := hp
  rcases h with h | h | h
  · unfold regP; rw [if_pos (.inl h)]
  · unfold regP; rw [if_pos (.inr h)]
  · simp only [regs, List.mem_cons, List.not_mem_nil, or_false, forall_eq_or_imp, forall_eq, inR] at h
    unfold regP
    (repeat' split) <;> omega
theorem layout_Region.spec {n q s : Int} (hp : PL n q s) (x : Int) (w : World) :
    CallT [.one (.int .i64)] Try.prog F.layout_Region [(lay n q s).v, .int .i64 x] w fun r w' => r = regP n q s x ∧ Ext w w' := by
  refine layout_Region.vc (lay n q s) x w _ ?_
  dsimp only [lay]
  generalize hw_w1 : w.alloc _ = w1
  have h0 : LB w1 w.heap.size (lay n q s) := by rw [← hw_w1]; exact LB.new w (lay n q s)
  have e0 : Ext w w1 := by rw [← hw_w1]; exact ext_alloc _ _
  refine ⟨_, h0.all, CallT.mono (layout_regions.spec hp w1) ?_⟩
  rintro _ w2 ⟨e2, b, rfl, hbs, hb⟩
  have e02 := e0.tr e2
  refine ⟨fun m i w' => ∃ k : Nat, i = k ∧ m = 7 - k ∧ k ≤ 7 ∧ Ext w2 w' ∧ ∀ j, j < k → ∀ r, (regs q s)[j]? = some r → ¬ inR r x, ⟨_, 0, rfl, rfl, by omega, Upd.refl _ _, fun j hj => by omega⟩, ?_⟩
  rintro m i _ w3 ⟨k, rfl, rfl, hk, e3, hno⟩
  have e03 := e02.tr e3
  have h3 := (h0.ext e2).ext e3
  refine ⟨fun _ w' => k < 7 ∧ w3 = w', ?_, ?_⟩
  · refine cnd_dec (fun hlt => ?_) (fun hge => ?_)
    · have hk7 : k < 7 := by simp at hlt; omega
      refine cnd_dec (fun hx => ?_) (fun hx => ⟨(regP_none hp (.inl (by omega))).symm, e03⟩)
      exact ⟨n, h3.get 0 rfl, cnd_dec (fun hx => ⟨hk7, rfl⟩) (fun hx => ⟨(regP_none hp (.inr (.inl (by omega)))).symm, e03⟩)⟩
    · have hk7 : k = 7 := by simp at hge; omega
      subst hk7
      refine ⟨(regP_none hp (.inr (.inr fun r hr => ?_))).symm, e03⟩
      obtain ⟨j, hj, rfl⟩ := List.getElem_of_mem hr
      exact hno j (by simpa [regs] using hj) _ (List.getElem?_eq_getElem hj)
  · rintro _ _ _ ⟨hk7, rfl⟩
    obtain ⟨r, hr⟩ : ∃ r, (regs q s)[k]? = some r := ⟨_, List.getElem?_eq_getElem (by simpa [regs] using hk7)⟩
    have hb3 := e3.get hb
    refine ⟨by omega, by simp; omega, ?_⟩
    simp only [onP_some, Int.toNat_natCast, add_mk, Nat.zero_add]
    refine ⟨r, cellsAt_blk hb3 (regV_get q s hk7 r hr), ?_⟩
    have hn := blk_new w3 (.cells #[.int .i64 0, .int .i64 0, .int .i64 0] T.layout_region)
    have he := ext_alloc w3 (.cells #[.int .i64 0, .int .i64 0, .int .i64 0] T.layout_region)
    refine ⟨canSt_blk (c := [.int .i64 0, .int .i64 0, .int .i64 0]) hn (by simp), ?_⟩
    have hn2 := setCells_blk (o := 0) [.int .i64 r.1, .int .i64 r.2.1, .int .i64 r.2.2] _ 0 [.int .i64 0, .int .i64 0, .int .i64 0] hn (by simp)
    have he2 := he.setCells (p := ⟨w3.heap.size, 0, none⟩) (fun h => by simp at h) 0 [.int .i64 r.1, .int .i64 r.2.1, .int .i64 r.2.2]
    generalize setCells (w3.alloc (.cells #[.int .i64 0, .int .i64 0, .int .i64 0] T.layout_region)) ⟨w3.heap.size, 0, none⟩ 0 [.int .i64 r.1, .int .i64 r.2.1, .int .i64 r.2.2] = w4 at hn2 he2
    have hw : IntKind.i64.wrap (r.2.1 + r.2.2) = r.2.1 + r.2.2 := by
      obtain ⟨n1, n2, q1, q2, s1, s2⟩ := hp
      rcases regs_mem hr with ⟨_, rfl⟩ | ⟨_, rfl⟩ | ⟨_, rfl⟩ | ⟨_, rfl⟩ | ⟨_, rfl⟩ | ⟨_, rfl⟩ | ⟨_, rfl⟩ <;> simp only <;> rw [i64_id] <;> omega
    have next : ¬ inR r x → ∃ m, m < 7 - k ∧ ∃ k' : Nat, IntKind.i64.wrap ((k : Int) + 1) = k' ∧ m = 7 - k' ∧ k' ≤ 7 ∧ Ext w2 w4 ∧ ∀ j, j < k' → ∀ r, (regs q s)[j]? = some r → ¬ inR r x := fun hx =>
      ⟨_, by omega, k + 1, by rw [i64_id] <;> omega, rfl, by omega, e3.tr he2, fun j hj r' hr' => by
        rcases Nat.lt_succ_iff_lt_or_eq.1 hj with h | rfl
        · exact hno j h r' hr'
        · rw [hr] at hr'; cases hr'; exact hx⟩
    refine ⟨r.2.1, by rw [cell_blk hn2]; rfl, cnd_dec (fun h1 => ?_) (fun h1 => next fun h => by have := h.1; omega)⟩
    refine ⟨r.2.1, by rw [cell_blk hn2]; rfl, r.2.2, by rw [cell_blk hn2]; rfl, ?_⟩
    rw [hw]
    refine cnd_dec (fun h2 => ?_) (fun h2 => next fun h => by have := h.2; omega)
    exact ⟨r.1, by rw [cell_blk hn2]; rfl, (regP_of hp hr ⟨by omega, h2⟩).symm, e03.tr he2⟩
theorem dunnageref05_in.spec {a b c : Int} (h1 : 0 ≤ b) (h2 : b ≤ 1000000) (h3 : 0 ≤ c) (h4 : c ≤ 1000000) (w : World) :
    CallT [.one .bool] Try.prog F.dunnageref05_in [.int .i64 a, .int .i64 b, .int .i64 c] w fun r w' => r = decide (b ≤ a ∧ a < b + c) ∧ w = w' := by
  refine dunnageref05_in.vc a b c w _ ?_
  rw [i64_id (by omega) (by omega)]
  refine cnd_dec (fun h => ⟨by congr 1; simp; omega, rfl⟩) (fun h => ⟨by simp; omega, rfl⟩)
theorem dunnageref05_Region.spec {n q s : Int} (hp : PL n q s) (x : Int) (w : World) :
    CallT [.one (.int .i64)] Try.prog F.dunnageref05_Region [(lay n q s).v, .int .i64 x] w fun r w' => r = regP n q s x ∧ Ext w w' := by
  refine dunnageref05_Region.vc (lay n q s) x w _ ?_
  dsimp only [lay]
  generalize hw_w1 : w.alloc _ = w1
  have h0 : LB w1 w.heap.size (lay n q s) := by rw [← hw_w1]; exact LB.new w (lay n q s)
  have e0 : Ext w w1 := by rw [← hw_w1]; exact ext_alloc _ _
  have hp' := hp
  obtain ⟨n1, n2, q1, q2, s1, s2⟩ := hp'
  have go : ∀ {i : Nat} {r : Int × Int × Int}, (regs q s)[i]? = some r → (decide (r.2.1 ≤ x ∧ x < r.2.1 + r.2.2)) = true → r.1 = regP n q s x := fun hr h => (regP_of hp hr (by simpa [inR] using h)).symm
  refine CallT.mono (dunnageref05_in.spec (by omega) (by omega) (by omega) (by omega) w1) ?_
  rintro _ _ ⟨rfl, rfl⟩
  refine cnd_intro (fun h => ⟨go (i := 0) rfl h, e0⟩) (fun a1 => ?_)
  refine cnd_beq (fun h => ⟨go (i := 1) rfl (by simp; omega), e0⟩) (fun a2 => ?_)
  refine ⟨3, h0.get 1 rfl, CallT.mono (dunnageref05_in.spec (by omega) (by omega) (by omega) (by omega) w1) ?_⟩
  rintro _ _ ⟨rfl, rfl⟩
  refine cnd_intro (fun h => ⟨go (i := 2) rfl h, e0⟩) (fun a3 => ?_)
  refine ⟨13, h0.get 2 rfl, q, h0.get 3 rfl, CallT.mono (dunnageref05_in.spec (by omega) (by omega) (by omega) (by omega) w1) ?_⟩
  rintro _ _ ⟨rfl, rfl⟩
  refine cnd_intro (fun h => ⟨go (i := 3) rfl h, e0⟩) (fun a4 => ?_)
  refine ⟨by omega, by omega, 13 + q, h0.get 4 rfl, q, h0.get 6 rfl, CallT.mono (dunnageref05_in.spec (by omega) (by omega) (by omega) (by omega) w1) ?_⟩
  rintro _ _ ⟨rfl, rfl⟩
  refine cnd_intro (fun h => ⟨go (i := 4) rfl h, e0⟩) (fun a5 => ?_)
  refine ⟨by omega, by omega, 13 + 2 * q, by rw [add_add]; exact h0.get 5 rfl, q, h0.get 6 rfl, CallT.mono (dunnageref05_in.spec (by omega) (by omega) (by omega) (by omega) w1) ?_⟩
  rintro _ _ ⟨rfl, rfl⟩
  refine cnd_intro (fun h => ⟨go (i := 5) rfl h, e0⟩) (fun a6 => ?_)
  refine ⟨13 + 3 * q, h0.get 7 rfl, s, h0.get 8 rfl, ?_⟩
  rw [i64_id (x := s * 32) (by omega) (by omega), Int.mul_comm s 32]
  refine CallT.mono (dunnageref05_in.spec (by omega) (by omega) (by omega) (by omega) w1) ?_
  rintro _ _ ⟨rfl, rfl⟩
  refine cnd_intro (fun h => ⟨go (i := 6) rfl h, e0⟩) (fun a7 => ?_)
  refine ⟨(regP_none hp (.inr (.inr ?_))).symm, e0⟩
  simp only [decide_eq_false_iff_not] at a1 a3 a4 a5 a6 a7
  simp only [regs, List.mem_cons, List.not_mem_nil, or_false, forall_eq_or_imp, forall_eq, inR]
  refine ⟨a1, by omega, a3, a4, a5, a6, a7⟩

/-! ### Segment, Capacity, LogAt -/
/-! ### Phys, Logic -/
/-! ### the reference's Plan; awake -/
theorem LB.store {w : World} {b : Nat} {x : L9} (h : LB w b x) (i : Nat) (hi : i < 9) (v : Value) (y : L9) (hy : x.vs.set i v = y.vs) :
    (w.cell? (Addr.add ⟨b, 0, none⟩ i)).isSome = true ∧ w.frozen? (Addr.add ⟨b, 0, none⟩ i) = false ∧ LB (w.setCell (Addr.add ⟨b, 0, none⟩ i) v) b y := by
  rw [add_mk, cell_blk h, frozen_blk h]
  refine ⟨by simp; omega, rfl, ?_⟩
  unfold LB
  rw [blk_set h, List.setIfInBounds_toArray, Nat.zero_add, hy]
theorem dunnageref05_Plan.spec (n : Int) (w : World) :
    CallT [.agg [.int .i64, .int .i64, .int .i64, .int .i64, .int .i64, .int .i64, .int .i64, .int .i64, .int .i64], .one (.int .i64)] Try.prog F.dunnageref05_Plan [.int .i64 n] w fun r w' => r = planF n ∧ Ext w w' := by
  refine dunnageref05_Plan.vc n w _ ?_
  generalize hw_w1 : w.alloc _ = w1
  have h0 : LB w1 w.heap.size lay0 := by rw [← hw_w1]; exact LB.new w lay0
  have e0 : Ext w w1 := by rw [← hw_w1]; exact ext_alloc _ _
  refine ⟨fun _ w' => w1 = w' ∧ ¬ (n < 256 ∨ n > 65536), ⟨fun b w' => w1 = w' ∧ (b = true ↔ (n < 256 ∨ n > 65536)), ?_, ?_⟩, ?_⟩
  · exact cnd_dec (fun h => ⟨rfl, by simp [h]⟩) (fun h => ⟨rfl, by simp [h]⟩)
  · rintro b _ _ ⟨rfl, hb⟩
    refine cnd_intro (fun ht => ?_) (fun hf => ⟨rfl, fun h => by rw [hb.2 h] at hf; cases hf⟩)
    refine ⟨h0.can, lay0, (h0.set lay0).all, ?_, e0.setCells (p := ⟨w.heap.size, 0, none⟩) (fun h => by simp at h) 0 lay0.vs⟩
    rw [planF_bad (hb.1 ht)]
  · rintro _ _ _ ⟨rfl, hn⟩
    have hq : IntKind.i64.wrap ((IntKind.i64.wrap (n - 13)).tdiv 8) = (n - 13) / 8 := by
      rw [i64_id (x := n - 13) (by omega) (by omega), Int.tdiv_eq_ediv_of_nonneg (by omega), i64_id (by omega) (by omega)]
    rw [hq, i64_id (x := 13 + (n - 13) / 8) (by omega) (by omega), i64_id (x := 2 * ((n - 13) / 8)) (by omega) (by omega), i64_id (x := 13 + 2 * ((n - 13) / 8)) (by omega) (by omega), i64_id (x := 3 * ((n - 13) / 8)) (by omega) (by omega), i64_id (x := 13 + 3 * ((n - 13) / 8)) (by omega) (by omega)]
    have hp : planF n = (lay n ((n - 13) / 8) ((n - 13 - 3 * ((n - 13) / 8)) / 32), 0) := if_neg hn
    have hs : IntKind.i64.wrap ((IntKind.i64.wrap (n - (13 + 3 * ((n - 13) / 8)))).tdiv 32) = (n - 13 - 3 * ((n - 13) / 8)) / 32 := by
      rw [i64_id (x := n - (13 + 3 * ((n - 13) / 8))) (by omega) (by omega), Int.tdiv_eq_ediv_of_nonneg (by omega), i64_id (by omega) (by omega)]
      congr 1; omega
    have hq1 : 30 ≤ (n - 13) / 8 := by omega
    generalize (n - 13) / 8 = q at *
    generalize hw_w2 : w1.alloc _ = w2
    have i0 : LB w2 w1.heap.size lay0 := by rw [← hw_w2]; exact LB.new w1 lay0
    have k0 : Ext w1 w2 := by rw [← hw_w2]; exact ext_alloc _ _
    refine ⟨i0.can, ?_⟩
    have i1 := i0.set (n, 3, 13, q, 0, 0, q, 0, 0)
    have k1 := k0.setCells (p := ⟨w1.heap.size, 0, none⟩) (fun h => by simp at h) 0 (L9.vs (n, 3, 13, q, 0, 0, q, 0, 0))
    dsimp only at i1 k1 ⊢
    generalize setCells w2 ⟨w1.heap.size, 0, none⟩ 0 (L9.vs (n, 3, 13, q, 0, 0, q, 0, 0)) = w3 at i1 k1 ⊢
    refine ⟨by omega, by omega, ?_⟩
    obtain ⟨a, b, i2⟩ := i1.store 4 (by omega) (.int .i64 (13 + q)) (n, 3, 13, q, 13 + q, 0, q, 0, 0) rfl
    have k2 := k1.set (p := Addr.add ⟨w1.heap.size, 0, none⟩ 4) (fun h => by simp at h) (.int .i64 (13 + q))
    refine ⟨a, b, ?_⟩
    change LB (w3.setCell (((Addr.mk w1.heap.size 0 none).add 4).add (Int.toNat 0 * 1)) (.int .i64 (13 + q))) _ _ at i2
    change Ext w1 (w3.setCell (((Addr.mk w1.heap.size 0 none).add 4).add (Int.toNat 0 * 1)) (.int .i64 (13 + q))) at k2
    generalize w3.setCell (((Addr.mk w1.heap.size 0 none).add 4).add (Int.toNat 0 * 1)) (.int .i64 (13 + q)) = w4 at i2 k2 ⊢
    refine ⟨by omega, by omega, ?_⟩
    have e5 : ((Addr.mk w1.heap.size 0 none).add 4).add (Int.toNat 1 * 1) = Addr.add ⟨w1.heap.size, 0, none⟩ 5 := by rw [add_add]; rfl
    rw [e5]
    obtain ⟨a, b, i3⟩ := i2.store 5 (by omega) (.int .i64 (13 + 2 * q)) (n, 3, 13, q, 13 + q, 13 + 2 * q, q, 0, 0) rfl
    have k3 := k2.set (p := Addr.add ⟨w1.heap.size, 0, none⟩ 5) (fun h => by simp at h) (.int .i64 (13 + 2 * q))
    refine ⟨a, b, ?_⟩
    generalize w4.setCell (Addr.add ⟨w1.heap.size, 0, none⟩ 5) (.int .i64 (13 + 2 * q)) = w5 at i3 k3 ⊢
    obtain ⟨a, b, i4⟩ := i3.store 7 (by omega) (.int .i64 (13 + 3 * q)) (n, 3, 13, q, 13 + q, 13 + 2 * q, q, 13 + 3 * q, 0) rfl
    have k4 := k3.set (p := Addr.add ⟨w1.heap.size, 0, none⟩ 7) (fun h => by simp at h) (.int .i64 (13 + 3 * q))
    refine ⟨a, b, ?_⟩
    generalize w5.setCell (Addr.add ⟨w1.heap.size, 0, none⟩ 7) (.int .i64 (13 + 3 * q)) = w6 at i4 k4 ⊢
    refine ⟨_, i4.get 7 rfl, ?_⟩
    rw [hs]
    obtain ⟨a, b, i5⟩ := i4.store 8 (by omega) (.int .i64 ((n - 13 - 3 * q) / 32)) (lay n q ((n - 13 - 3 * q) / 32)) rfl
    have k5 := k4.set (p := Addr.add ⟨w1.heap.size, 0, none⟩ 8) (fun h => by simp at h) (.int .i64 ((n - 13 - 3 * q) / 32))
    refine ⟨a, b, ?_⟩
    generalize w6.setCell (Addr.add ⟨w1.heap.size, 0, none⟩ 8) (.int .i64 ((n - 13 - 3 * q) / 32)) = w7 at i5 k5 ⊢
    have h7 := h0.ext k5
    refine ⟨_, i5.all, h7.can, _, (h7.set (lay n q ((n - 13 - 3 * q) / 32))).all, ?_, (e0.tr k5).setCells (p := ⟨w.heap.size, 0, none⟩) (fun h => by simp at h) 0 _⟩
    rw [hp]
end Go.Proofs
/- disk: a device in memory; ready, has, hit, counted, Arm, Start, Down, Waiting, Flips, Size. Conditions: those of each contract. -/
namespace Go.Proofs
open Go Go.Vc

/-! ### the device, in plain Lean -/
abbrev Sec := {l : List UInt8 // l.length = 512}
def zeroSec : Sec := ⟨List.replicate 512 0, List.length_replicate⟩
abbrev Wr := Nat × Sec
@[reducible] def encSec (x : Sec) : List Value := B8 x.1
@[reducible] def encWr (p : Wr) : List Value := .int .i64 (p.1 : Int) :: B8 p.2.1
theorem encSec_len (x : Sec) : (encSec x).length = 512 := by rw [encSec, B8_length]; exact x.2
theorem encWr_len (p : Wr) : (encWr p).length = 513 := by rw [encWr, List.length_cons, B8_length, p.2.2]
theorem encWr_one (p : Wr) : ∀ v ∈ encWr p, v.oneCell' = true := by
  intro v hv
  rcases List.mem_cons.1 hv with rfl | hv
  · rfl
  · exact B8_one _ v hv
theorem B8_oneV (l : List UInt8) : ∀ v ∈ B8 l, oneV v True := by
  intro v hv
  obtain ⟨b, _, rfl⟩ := List.mem_map.1 hv
  trivial
theorem encWr_oneV (p : Wr) : ∀ v ∈ encWr p, oneV v True := by
  intro v hv
  rcases List.mem_cons.1 hv with rfl | hv
  · trivial
  · exact B8_oneV _ v hv
structure DK where
  kept : List Sec
  waits : List Wr
  down : Bool
  armed : Nat
  flips : Nat
def hitD (D : DK) : DK × Bool := if D.armed = 0 then (D, false) else ({ D with armed := D.armed - 1 }, D.armed - 1 == 0)
def cntD (D : DK) : DK × Int := if (hitD D).2 = true then ({ (hitD D).1 with down := true }, 40) else ((hitD D).1, 0)
/-! ### the device in memory -/
/-- The blocks of a device. -/
def fp (d : Nat) (k s : SV) (b : Nat) : Prop := b = d ∨ k.blk b ∨ s.blk b
@[reducible] def dkVs (k s : SV) (D : DK) : List Value := [.slice k.a k.len k.cap, .slice s.a s.len s.cap, .bool D.down, .int .i64 (D.armed : Int), .int .i64 (D.flips : Int)]
structure DkAt (w : World) (d : Nat) (k s : SV) (D : DK) : Prop where
  blk : BK w d T.disk_Disk (dkVs k s D)
  kept : OwnS encSec 512 T.disk_content w 0 k D.kept
  wait : OwnS encWr 513 T.disk_write w 0 s D.waits
  dk : ¬ k.blk d
  ds : ¬ s.blk d
  ks : ∀ b, k.blk b → ¬ s.blk b
  rng : ∀ p ∈ D.waits, p.1 < D.kept.length
  num : D.kept.length ≤ 65536
  arm : D.armed < 9223372036854775808
theorem DkAt.upd {M : Nat → Prop} {w w' : World} {d : Nat} {k s : SV} {D : DK} (h : DkAt w d k s D) (u : Upd M w w') (hm : ∀ b, fp d k s b → ¬ M b) : DkAt w' d k s D :=
  ⟨h.blk.upd u (hm _ (.inl rfl)), ⟨h.kept.own.upd u fun b hb => hm b (.inr (.inl hb)), h.kept.esz, h.kept.pos⟩, ⟨h.wait.own.upd u fun b hb => hm b (.inr (.inr hb)), h.wait.esz, h.wait.pos⟩, h.dk, h.ds, h.ks, h.rng, h.num, h.arm⟩
theorem DkAt.ext {w w' : World} {d : Nat} {k s : SV} {D : DK} (h : DkAt w d k s D) (u : Ext w w') : DkAt w' d k s D := h.upd u fun _ _ => id
theorem DkAt.lt {w : World} {d : Nat} {k s : SV} {D : DK} (h : DkAt w d k s D) {b : Nat} (hb : fp d k s b) : b < w.heap.size := by
  rcases hb with rfl | hb | hb
  · exact h.blk.lt
  · exact h.kept.own.blk_lt hb
  · exact h.wait.own.blk_lt hb
/-- What a call made of a device. -/
structure DkTo (w w' : World) (d : Nat) (k s s' : SV) (D' : DK) : Prop where
  at_ : DkAt w' d k s' D'
  u : Upd (fp d k s) w w'
  n : ∀ b, s'.blk b → s.blk b ∨ w.heap.size ≤ b
theorem DkAt.to {w : World} {d : Nat} {k s : SV} {D : DK} (h : DkAt w d k s D) : DkTo w w d k s s D := ⟨h, Upd.refl _ _, fun _ hb => .inl hb⟩
theorem DkTo.ext {w w1 w2 : World} {d : Nat} {k s s' : SV} {D' : DK} (h : DkTo w w1 d k s s' D') (e : Ext w1 w2) : DkTo w w2 d k s s' D' :=
  ⟨h.at_.ext e, h.u.trans e fun _ _ h => h.elim, h.n⟩
theorem DkTo.fp' {w w1 : World} {d : Nat} {k s s1 : SV} {D1 : DK} (h : DkTo w w1 d k s s1 D1) {b : Nat} (hb : fp d k s1 b) : fp d k s b ∨ w.heap.size ≤ b := by
  rcases hb with hb | hb | hb
  · exact .inl (.inl hb)
  · exact .inl (.inr (.inl hb))
  · rcases h.n b hb with h | h
    · exact .inl (.inr (.inr h))
    · exact .inr h
theorem DkTo.tr {w w1 w2 : World} {d : Nat} {k s s1 s2 : SV} {D1 D2 : DK} (h : DkTo w w1 d k s s1 D1) (g : DkTo w1 w2 d k s1 s2 D2) : DkTo w w2 d k s s2 D2 :=
  ⟨g.at_, h.u.trans g.u fun x hx hf => (h.fp' hf).resolve_right (by omega), fun b hb => by
    rcases g.n b hb with h1 | h1
    · exact h.n b h1
    · exact .inr (Nat.le_trans h.u.size h1)⟩
theorem DkTo.pre {w w1 w2 : World} {d : Nat} {k s s2 : SV} {D2 : DK} (e : Ext w w1) (g : DkTo w1 w2 d k s s2 D2) : DkTo w w2 d k s s2 D2 :=
  ⟨g.at_, (e.to _).trans g.u fun _ _ h => h, fun b hb => (g.n b hb).imp id fun h => Nat.le_trans e.size h⟩
/-- A plain field is set. -/
theorem DkAt.put {w : World} {d : Nat} {k s : SV} {D : DK} (h : DkAt w d k s D) (i : Nat) (hi : i < 5) (v : Value) (D' : DK) (hl : (dkVs k s D).set i v = dkVs k s D') (hk : D'.kept = D.kept) (hw : D'.waits = D.waits) (ha : D'.armed < 9223372036854775808) :
    (w.cell? (Addr.add ⟨d, 0, none⟩ i)).isSome = true ∧ w.frozen? (Addr.add ⟨d, 0, none⟩ i) = false ∧ DkTo w (w.setCell (Addr.add ⟨d, 0, none⟩ i) v) d k s s D' := by
  obtain ⟨a, b, c⟩ := h.blk.store i hi v
  rw [hl] at c
  have u : Upd (fun b => b = d) w (w.setCell (Addr.add ⟨d, 0, none⟩ i) v) := (Upd.refl _ w).set (p := Addr.add ⟨d, 0, none⟩ i) (fun _ => by simp) v
  refine ⟨a, b, ⟨c, ?_, ?_, h.dk, h.ds, h.ks, by rw [hk, hw]; exact h.rng, by rw [hk]; exact h.num, ha⟩, u.mono fun x _ hx => .inl hx, fun _ hb => .inl hb⟩
  · rw [hk]; exact ⟨h.kept.own.upd u fun b hb e => h.dk (e ▸ hb), h.kept.esz, h.kept.pos⟩
  · rw [hw]; exact ⟨h.wait.own.upd u fun b hb e => h.ds (e ▸ hb), h.wait.esz, h.wait.pos⟩
/-- The list of what waits is exchanged. -/
theorem DkAt.putW {w w1 : World} {d : Nat} {k s s' : SV} {D : DK} {l : List Wr} (h : DkAt w d k s D) (u : Upd s.blk w w1) (ho : OwnS encWr 513 T.disk_write w1 0 s' l) (hn : ∀ b, s'.blk b → s.blk b ∨ w.heap.size ≤ b) (hr : ∀ p ∈ l, p.1 < D.kept.length) :
    (w1.cell? (Addr.add ⟨d, 0, none⟩ 1)).isSome = true ∧ w1.frozen? (Addr.add ⟨d, 0, none⟩ 1) = false ∧ DkTo w (w1.setCell (Addr.add ⟨d, 0, none⟩ 1) (.slice s'.a s'.len s'.cap)) d k s s' { D with waits := l } := by
  have b1 := h.blk.upd u h.ds
  obtain ⟨a, b, c⟩ := b1.store 1 (by simp) (.slice s'.a s'.len s'.cap)
  have hd := h.blk.lt
  have u2 : Upd (fun b => b = d) w1 (w1.setCell (Addr.add ⟨d, 0, none⟩ 1) (.slice s'.a s'.len s'.cap)) := (Upd.refl _ w1).set (p := Addr.add ⟨d, 0, none⟩ 1) (fun _ => by simp) _
  have hds : ¬ s'.blk d := fun hb => by
    rcases hn d hb with h1 | h1
    · exact h.ds h1
    · omega
  refine ⟨a, b, ⟨c, ⟨(h.kept.own.upd u fun b hb => h.ks b hb).upd u2 fun b hb e => h.dk (e ▸ hb), h.kept.esz, h.kept.pos⟩, ⟨ho.own.upd u2 fun b hb e => hds (e ▸ hb), ho.esz, ho.pos⟩, h.dk, hds, fun b hb hs => ?_, hr, h.num, h.arm⟩, ?_, hn⟩
  · rcases hn b hs with h1 | h1
    · exact h.ks b hb h1
    · have := h.kept.own.blk_lt hb; omega
  · exact (u.mono fun x _ hx => .inr (.inr hx)).trans (u2.mono fun x _ hx => .inl hx) fun x _ hx => hx
/-- A kept sector is exchanged. -/
theorem DkAt.setk {w : World} {d : Nat} {k s : SV} {D : DK} (h : DkAt w d k s D) {i : Nat} (hi : i < D.kept.length) {A : Addr} (hA : k.a = some A) (y : Sec) :
    canSt w (A.add (i * 512)) (encSec y).length ∧ DkTo w (setCells w (A.add (i * 512)) 0 (encSec y)) d k s s { D with kept := D.kept.set i y } := by
  obtain ⟨c, ho, z, u⟩ := h.kept.setx hi hA y
  refine ⟨c, ⟨h.blk.upd u h.dk, ho, ⟨h.wait.own.upd u fun b hb hk => h.ks b hk hb, h.wait.esz, h.wait.pos⟩, h.dk, h.ds, h.ks, ?_, ?_, h.arm⟩, u.mono fun x _ hx => .inr (.inl hx), fun _ hb => .inl hb⟩
  · simp only [List.length_set]; exact h.rng
  · simp only [List.length_set]; exact h.num
theorem bigAt {w : World} {A : Addr} {vs : List Value} (h : cellsAt w A vs) : ∀ i, i < vs.length → w.cell? (A.add i) = vs.toArray[i]? := by
  intro i hi
  rw [h i vs[i] (List.getElem?_eq_getElem hi)]
  simp [hi]

/-! ### small calls -/
@[reducible] def dptr (d : Nat) : Value := .pointer (some ⟨d, 0, none⟩)
variable {w : World} {d : Nat} {k s : SV} {D : DK}
theorem disk_ready.spec (h : DkAt w d k s D) : CallT [.one (.int .i64)] Try.prog F.disk_Disk_ready [dptr d] w fun r w' => r = (if D.down = true then 40 else 0) ∧ w = w' := by
  refine disk_Disk_ready.vc (some ⟨d, 0, none⟩) w _ ?_
  refine cnd_neg rfl ⟨D.down, h.blk.get 2 rfl, cnd_intro (fun hd => ⟨by rw [hd]; rfl, rfl⟩) (fun hd => ⟨by rw [hd]; rfl, rfl⟩)⟩
theorem disk_has.spec (h : DkAt w d k s D) (n : Int) : CallT [.one .bool] Try.prog F.disk_Disk_has [dptr d, .int .i64 n] w fun r w' => r = decide (0 ≤ n ∧ n < D.kept.length) ∧ w = w' := by
  refine disk_Disk_has.vc (some ⟨d, 0, none⟩) n w _ ?_
  have hl := h.kept.len
  refine cnd_dec (fun h0 => ⟨k, h.blk.get 0 rfl, ?_, rfl⟩) (fun h0 => ⟨?_, rfl⟩)
  · rw [decide_eq_decide]; omega
  · rw [eq_comm, decide_eq_false_iff_not]; omega
theorem disk_hit.spec (h : DkAt w d k s D) : CallT [.one .bool] Try.prog F.disk_Disk_hit [dptr d] w fun r w' => r = (hitD D).2 ∧ DkTo w w' d k s s (hitD D).1 := by
  refine disk_Disk_hit.vc (some ⟨d, 0, none⟩) w _ ?_
  have ha := h.arm
  refine ⟨(D.armed : Int), h.blk.get 3 rfl, cnd_beq (fun h0 => ?_) (fun h0 => ?_)⟩
  · have : D.armed = 0 := by omega
    rw [hitD, if_pos this]; exact ⟨rfl, h.to⟩
  · have h1 : ¬ D.armed = 0 := by omega
    have hw : IntKind.i64.wrap ((D.armed : Int) - 1) = ((D.armed - 1 : Nat) : Int) := by rw [i64_id] <;> omega
    obtain ⟨a, b, c⟩ := h.put 3 (by omega) (.int .i64 ((D.armed - 1 : Nat) : Int)) { D with armed := D.armed - 1 } rfl rfl rfl (by simp only; omega)
    refine ⟨(D.armed : Int), h.blk.get 3 rfl, a, b, ?_⟩
    rw [hw]
    refine ⟨((D.armed - 1 : Nat) : Int), c.at_.blk.get 3 rfl, ?_, ?_⟩
    · rw [hitD, if_neg h1]
      by_cases h2 : D.armed - 1 = 0
      · rw [h2]; rfl
      · have e1 : ((((D.armed - 1 : Nat) : Int) == 0) : Bool) = false := by simp; omega
        rw [e1]; simp [h2]
    · rw [hitD, if_neg h1]; exact c
theorem disk_counted.spec (h : DkAt w d k s D) : CallT [.one (.int .i64)] Try.prog F.disk_Disk_counted [dptr d, .func (.func F.disk_Disk_hit) #[dptr d] #[]] w fun r w' => r = (cntD D).2 ∧ DkTo w w' d k s s (cntD D).1 := by
  refine disk_Disk_counted.vc (some ⟨d, 0, none⟩) (.func (.func F.disk_Disk_hit) #[dptr d] #[]) w _ ?_
  have hh : callVal [.one .bool] Try.prog (.func (.func F.disk_Disk_hit) #[dptr d] #[]) [] w (fun r w' => r = (hitD D).2 ∧ DkTo w w' d k s s (hitD D).1) := disk_hit.spec h
  refine callVal.mono hh ?_
  rintro _ w1 ⟨rfl, h1⟩
  refine cnd_not (fun hf => ?_) (fun ht => ?_)
  · rw [cntD, if_neg (by rw [hf]; simp)]; exact ⟨rfl, h1⟩
  · obtain ⟨a, b, c⟩ := h1.at_.put 2 (by omega) (.bool true) { (hitD D).1 with down := true } rfl rfl rfl h1.at_.arm
    rw [cntD, if_pos ht]
    exact ⟨a, b, rfl, h1.tr c⟩
theorem disk_Down.spec (h : DkAt w d k s D) : CallT [.one .bool] Try.prog F.disk_Disk_Down [dptr d] w fun r w' => r = D.down ∧ w = w' := by
  refine disk_Disk_Down.vc (some ⟨d, 0, none⟩) w _ ?_
  exact cnd_pos rfl ⟨D.down, h.blk.get 2 rfl, rfl, rfl⟩
theorem disk_Size.spec (h : DkAt w d k s D) : CallT [.one (.int .i64)] Try.prog F.disk_Disk_Size [dptr d] w fun r w' => r = D.kept.length ∧ w = w' := by
  refine disk_Disk_Size.vc (some ⟨d, 0, none⟩) w _ ?_
  exact cnd_neg rfl ⟨k, h.blk.get 0 rfl, by rw [h.kept.len], rfl⟩
end Go.Proofs
/- disk: New, Write, Read, Flush. Conditions: those of each contract. -/
namespace Go.Proofs
open Go Go.Vc
def secOf (b : List UInt8) : Sec := if h : b.length = 512 then ⟨b, h⟩ else zeroSec
theorem secOf_val {b : List UInt8} (h : b.length = 512) : (secOf b).1 = b := by rw [secOf, dif_pos h]
def writeD (D : DK) (at_ : Int) (b : List UInt8) : DK × Int :=
  if D.down = true then (D, 40) else if ¬ (0 ≤ at_ ∧ at_ < D.kept.length) ∨ b.length ≠ 512 then (D, 1) else cntD { D with waits := D.waits ++ [(at_.toNat, secOf b)] }
/-- The last one that was written counts. -/
def lastW (ws : List Wr) (at_ : Nat) (x : Sec) : Sec := ws.foldl (fun acc p => if p.1 = at_ then p.2 else acc) x
def showD (D : DK) (at_ : Nat) : Sec := lastW D.waits at_ (D.kept.getD at_ zeroSec)
def readD (D : DK) (at_ : Int) : List UInt8 × Int :=
  if D.down = true then ([], 40) else if ¬ (0 ≤ at_ ∧ at_ < D.kept.length) then ([], 1) else ((showD D at_.toNat).1, 0)
def applyW (kept : List Sec) (ws : List Wr) : List Sec := ws.foldl (fun k p => k.set p.1 p.2) kept
theorem applyW_len : ∀ (ws : List Wr) (kept : List Sec), (applyW kept ws).length = kept.length
  | [], _ => rfl
  | p :: r, kept => by
    have := applyW_len r (kept.set p.1 p.2)
    rw [List.length_set] at this
    exact this
theorem applyW_snoc (kept : List Sec) (ws : List Wr) (p : Wr) : applyW kept (ws ++ [p]) = (applyW kept ws).set p.1 p.2 := by simp [applyW]
def flushD (D : DK) : DK × Int :=
  if D.down = true then (D, 40) else if (cntD D).2 ≠ 0 then cntD D else ({ (cntD D).1 with kept := applyW D.kept D.waits, waits := [] }, 0)
theorem cntD_kept (D : DK) : (cntD D).1.kept = D.kept ∧ (cntD D).1.waits = D.waits ∧ (cntD D).1.flips = D.flips := by
  unfold cntD hitD
  repeat' split
  all_goals exact ⟨rfl, rfl, rfl⟩

/-! ### New -/
def newD (n : Nat) : DK := ⟨List.replicate n zeroSec, [], false, 0, 0⟩
theorem reps_flat {α : Type} (enc : α → List Value) (x : α) : ∀ n, reps n (enc x) = (List.replicate n x).flatMap enc
  | 0 => rfl
  | n + 1 => by rw [reps, reps_flat enc x n, List.replicate_succ, List.flatMap_cons]
theorem z_content : zeroL Try.prog T.disk_content = some (encSec zeroSec) := by kernel_rfl
theorem z_write : zeroL Try.prog T.disk_write = some (encWr (0, zeroSec)) := by kernel_rfl
theorem u_content : Try.prog.underlying T.sl_disk_content = some (.slice T.disk_content) := by kernel_rfl
theorem u_write : Try.prog.underlying T.sl_disk_write = some (.slice T.disk_write) := by kernel_rfl
theorem disk_New.spec (n : Int) (w : World) : CallT [.one .ptr, .one (.int .i64)] Try.prog F.disk_New [.int .i64 n] w fun r w' =>
    Ext w w' ∧ ((n < 1 ∨ n > 65536) ∧ r = (none, 1) ∨ (1 ≤ n ∧ n ≤ 65536) ∧ ∃ d k s, r = (some ⟨d, 0, none⟩, 0) ∧ DkAt w' d k s (newD n.toNat) ∧ ∀ b, fp d k s b → w.heap.size ≤ b) := by
  refine disk_New.vc n w _ ?_
  refine cnd_dec (fun h => ⟨Upd.refl _ _, .inl ⟨.inl h, rfl⟩⟩) (fun h1 => cnd_dec (fun h => ⟨Upd.refl _ _, .inl ⟨.inr h, rfl⟩⟩) (fun h2 => ?_))
  refine mkSV_own (bt := 512) (sz := 512) u_content (by kernel_rfl) (by kernel_rfl) z_content (encSec_len _) (by omega) (by omega) (by omega) (by omega) ?_
  rw [reps_flat]
  have ho : OwnS encSec 512 T.disk_content (w.alloc (.cells ((List.replicate n.toNat zeroSec).flatMap encSec).toArray T.disk_content)) w.heap.size ⟨some ⟨w.heap.size, 0, none⟩, n.toNat, n.toNat⟩ (List.replicate n.toNat zeroSec) :=
    ⟨Own.new w T.disk_content 512 n.toNat _ (by rw [flat_len encSec_len, List.length_replicate]), encSec_len, by decide⟩
  generalize hw1 : w.alloc (.cells ((List.replicate n.toNat zeroSec).flatMap encSec).toArray T.disk_content) = w1 at ho ⊢
  have e1 : Ext w w1 := by rw [← hw1]; exact ext_alloc _ _
  have z1 : w1.heap.size = w.heap.size + 1 := by rw [← hw1]; simp
  refine ⟨e1.alloc _, .inr ⟨⟨by omega, by omega⟩, w1.heap.size, ⟨some ⟨w.heap.size, 0, none⟩, n.toNat, n.toNat⟩, ⟨none, 0, 0⟩, rfl, ?_, ?_⟩⟩
  · refine ⟨BK.new w1 T.disk_Disk _, ⟨(ho.ext (ext_alloc _ _)).own.mono (Nat.zero_le _), encSec_len, by decide⟩, OwnS.nil encWr_len (by decide) _ _ _, ?_, ?_, ?_, ?_, ?_, by simp [newD]⟩
    · rintro ⟨A, hA, hb⟩; obtain rfl := Option.some.inj hA; simp only at hb; omega
    · rintro ⟨A, hA, hb⟩; simp at hA
    · rintro b _ ⟨A, hA, hb⟩; simp at hA
    · simp [newD]
    · simp [newD]; omega
  · rintro b (rfl | ⟨A, hA, rfl⟩ | ⟨A, hA, _⟩)
    · omega
    · obtain rfl := Option.some.inj hA; exact Nat.le_refl _
    · simp at hA

/-! ### Write -/
theorem app_write : AppT Try.prog [T.sl_disk_write, T.sl_disk_write] T.disk_write 513 520 (encWr (0, zeroSec)) :=
  ⟨⟨T.sl_disk_write, rfl, u_write⟩, ⟨T.sl_disk_write, _, rfl, u_write, .inr ⟨T.disk_write, rfl⟩⟩, by kernel_rfl, by kernel_rfl, by decide, z_write, encWr_len _, encWr_one _⟩
theorem zc_write : zc Try.prog T.disk_write = encWr (0, zeroSec) := by rw [zc, z_write]
theorem write_splice {z : List Value} {x : Value} {l : List Value} (hz : z.length = 513) (hl : l.length = 512) : splL (splL z 0 [x]) 1 l = x :: l := by
  match z, hz with
  | y :: r, hz =>
    have hr : r.length = 512 := by simpa using hz
    simp only [splL, List.take_zero, List.nil_append, List.length_singleton, Nat.zero_add, List.drop_succ_cons, List.drop_zero, List.singleton_append, List.take_succ_cons, hl, show 1 + 512 = 512 + 1 by rfl]
    rw [List.drop_eq_nil_of_le (by omega)]; simp
theorem slot_splice {z l : List Value} (h : z.length = l.length) : splL (repz 1 z) (0 * 513) l = l := by
  have : repz 1 z = z := by simp [repz, reps]
  rw [this, Nat.zero_mul, splL, List.take_zero, List.nil_append, Nat.zero_add, List.drop_eq_nil_of_le (by omega), List.append_nil]
theorem encWr_inj' (at_ : Int) (h : 0 ≤ at_) (x : Sec) : (.int .i64 at_ :: B8 x.1 : List Value) = encWr (at_.toNat, x) := by
  rw [encWr]; congr 2; omega
set_option maxRecDepth 100000 in
theorem disk_Write.spec {w : World} {d : Nat} {k s : SV} {D : DK} (h : DkAt w d k s D) (hn : D.waits.length ≤ 1000000) {at_ : Int} {t : SV} {b : List UInt8} (ht : RdB w t b) (hd : ∀ c, c < w.heap.size → t.blk c → ¬ s.blk c) :
    CallT [.one (.int .i64)] Try.prog F.disk_Disk_Write [dptr d, .int .i64 at_, .slice t.a t.len t.cap] w fun r w' => r = (writeD D at_ b).2 ∧ ∃ s', DkTo w w' d k s s' (writeD D at_ b).1 := by
  refine disk_Disk_Write.vc (some ⟨d, 0, none⟩) at_ t w _ ?_
  have htl := ht.lenB
  refine CallT.mono (disk_ready.spec h) ?_
  rintro _ _ ⟨rfl, rfl⟩
  by_cases hdn : D.down = true
  · rw [if_pos hdn, writeD, if_pos hdn]
    exact cnd_pos rfl ⟨rfl, s, h.to⟩
  rw [if_neg hdn, writeD, if_neg hdn]
  refine cnd_neg rfl ⟨fun _ w' => w = w' ∧ (0 ≤ at_ ∧ at_ < D.kept.length) ∧ b.length = 512, CallT.mono (disk_has.spec h at_) ?_, ?_⟩
  · rintro _ _ ⟨rfl, rfl⟩
    refine cnd_not (fun hf => ?_) (fun htr => cnd_bne (fun hne => ?_) (fun he => ⟨rfl, by simpa using htr, by omega⟩))
    · rw [if_pos (.inl (by simpa using hf))]; exact ⟨rfl, s, h.to⟩
    · rw [if_pos (.inr (by omega))]; exact ⟨rfl, s, h.to⟩
  rintro _ _ _ ⟨rfl, hat, h512⟩
  rw [if_neg (by rintro (h | h); exact h hat; exact h h512)]
  have hcells : ∀ w', RdB w' t b → ∀ A, t.a = some A → ∀ i, i < 512 → w'.cell? (A.add i) = (B8 b).toArray[i]? := fun w' hw A hA i hi => bigAt (hw.at_ A hA) i (by rw [B8_length]; omega)
  have hta : ∃ A, t.a = some A := by
    cases hA : t.a with
    | none => have := ht.nil hA; omega
    | some A => exact ⟨A, rfl⟩
  obtain ⟨A, hA⟩ := hta
  have htb : A.block < w.heap.size := by
    have := ht.at_ A hA
    exact cellsAt_lt this (by intro he; rw [← List.length_eq_zero_iff, B8_length] at he; omega)
  have hz513 : (zc Try.prog T.disk_write).length = 513 := by rw [zc_write]; exact encWr_len _
  have hl512 : (B8 b).length = 512 := by rw [B8_length]; exact h512
  refine ⟨fun w' => BK w' d T.disk_Disk (dkVs k s D) ∧ RdB w' t b, ⟨h.blk, ht.drew⟩, s, fun _ hh => hh.1.get 1 rfl, by omega, ?_⟩
  rw [hA]
  have hspl : splL (splL (zc Try.prog T.disk_write) 0 [.int .i64 at_]) 1 (B8 b).toArray.toList = encWr (at_.toNat, secOf b) := by
    rw [write_splice hz513 (by simpa using hl512), ← encWr_inj' at_ hat.1, secOf_val h512]
  refine ⟨(B8 b).toArray, by simpa using hl512, fun w' hh i hi => hcells w' hh.2 A hA i hi, rfl, by rw [hz513]; omega, by simpa using hl512, ?_, ?_, ?_, ?_⟩
  · rw [splL]; simp only [List.take_zero, List.nil_append, List.length_append, List.length_singleton, List.length_drop, hz513]; omega
  · rw [hspl]; exact encWr_len _
  · simp [repz, reps, hz513]
  rw [hspl, slot_splice (by rw [hz513]; exact (encWr_len _).symm)]
  have d1 : DkAt w.drew d k s D := h.ext (ext_drew _)
  have hal := ext_alloc w.drew (.cells (encWr (at_.toNat, secOf b)).toArray T.disk_write)
  refine ⟨⟨d1.blk.ext hal, (ht.drew).ext hal⟩, ?_⟩
  have hwl := d1.wait.len
  have hd2 : DkAt (w.drew.alloc (.cells (encWr (at_.toNat, secOf b)).toArray T.disk_write)) d k s D := d1.ext hal
  have hsrc : Src Try.prog (w.drew.alloc (.cells (encWr (at_.toNat, secOf b)).toArray T.disk_write)) 513 (.slice (some ⟨w.drew.heap.size, 0, none⟩) 1 1) 1 (encWr (at_.toNat, secOf b)) :=
    (Own.new w.drew T.disk_write 513 1 (encWr (at_.toNat, secOf b)) (encWr_len _)).rd.src (encWr_one _)
  have hz : (w.drew.alloc (.cells (encWr (at_.toNat, secOf b)).toArray T.disk_write)).heap.size = w.heap.size + 1 := by simp
  refine appV_ownL app_write hd2.wait.own hsrc (Nat.zero_le _) (fun hlt => Nat.le_trans (Nat.mul_le_mul_right _ (nextcap_le hlt)) (by omega)) ?_
  generalize hw2 : w.drew.alloc (.cells (encWr (at_.toNat, secOf b)).toArray T.disk_write) = w2 at *
  intro s' w3 ho hlen u3 hnn hloc
  have e2 : Ext w w2 := (ext_drew w).tr hal
  have hloc' : ∀ c, s'.blk c → s.blk c ∨ w2.heap.size ≤ c := by
    rintro c ⟨A', hA', rfl⟩
    rcases hloc with hl | hl
    · exact .inl ⟨A', by rw [← hl]; exact hA', rfl⟩
    · rw [hl] at hA'; obtain rfl := Option.some.inj hA'; exact .inr (Nat.le_refl _)
  have ho' : OwnS encWr 513 T.disk_write w3 0 s' (D.waits ++ [(at_.toNat, secOf b)]) := ⟨by rw [List.flatMap_append]; simpa using ho, encWr_len, by decide⟩
  have ht3 : RdB w3 t b := (((ht.drew).ext hal).keep u3 fun c hc hb hs => by
    obtain ⟨A', hA', rfl⟩ := hb
    rw [hA] at hA'; obtain rfl := Option.some.inj hA'
    exact hd _ htb ⟨A, hA, rfl⟩ hs)
  refine ⟨⟨hd2.blk.upd u3 hd2.ds, ht3⟩, ?_⟩
  obtain ⟨g1, g2, g3⟩ := hd2.putW u3 ho' hloc' (fun p hp => by
    rcases List.mem_append.1 hp with hp | hp
    · exact h.rng p hp
    · rw [List.mem_singleton] at hp; subst hp; simp only; omega)
  refine ⟨g1, g2, CallT.mono (disk_counted.spec g3.at_) ?_⟩
  rintro _ w4 ⟨rfl, h4⟩
  exact ⟨rfl, s', DkTo.pre e2 (g3.tr h4)⟩

/-! ### Read -/
theorem lastW_take {ws : List Wr} {at_ i : Nat} {p : Wr} {x : Sec} (hp : ws[i]? = some p) (he : p.1 = at_) (hno : ∀ q ∈ ws.drop (i + 1), q.1 ≠ at_) : lastW ws at_ x = p.2 := by
  have hi := (List.getElem?_eq_some_iff.1 hp).1
  have h1 : ws = (ws.take i ++ [p]) ++ ws.drop (i + 1) := by
    obtain ⟨_, rfl⟩ := List.getElem?_eq_some_iff.1 hp
    rw [List.append_assoc, List.singleton_append, ← List.drop_eq_getElem_cons hi, List.take_append_drop]
  have h2 : ∀ (l : List Wr) (y : Sec), (∀ q ∈ l, q.1 ≠ at_) → lastW l at_ y = y := by
    intro l
    induction l with
    | nil => intro y _; rfl
    | cons q r ih =>
      intro y hq
      show lastW r at_ (if q.1 = at_ then q.2 else y) = y
      rw [if_neg (hq q (by simp))]
      exact ih y fun z hz => hq z (by simp [hz])
  conv => lhs; rw [h1]
  have h3 : lastW ((ws.take i ++ [p]) ++ ws.drop (i + 1)) at_ x = lastW (ws.drop (i + 1)) at_ (lastW (ws.take i ++ [p]) at_ x) := by simp only [lastW, List.foldl_append]
  rw [h3, h2 _ _ hno]
  simp [lastW, he]
theorem lastW_none {ws : List Wr} {at_ : Nat} {x : Sec} (hno : ∀ q ∈ ws, q.1 ≠ at_) : lastW ws at_ x = x := by
  induction ws generalizing x with
  | nil => rfl
  | cons q r ih =>
    show lastW r at_ (if q.1 = at_ then q.2 else x) = x
    rw [if_neg (hno q (by simp))]
    exact ih fun z hz => hno z (by simp [hz])
theorem subA_lo (a : Option Addr) (m : Nat) (hm : m ≠ 0) : subA a 0 1 m = a := by
  unfold subA; rw [if_neg hm]; cases a <;> rfl
theorem disk_Read.spec {w : World} {d : Nat} {k s : SV} {D : DK} (h : DkAt w d k s D) (hn : D.waits.length ≤ 2000000) (at_ : Int) :
    CallT [.one .slice, .one (.int .i64)] Try.prog F.disk_Disk_Read [dptr d, .int .i64 at_] w fun r w' => OwnB w' w.heap.size r.1 (readD D at_).1 ∧ r.2 = (readD D at_).2 ∧ Ext w w' := by
  refine disk_Disk_Read.vc (some ⟨d, 0, none⟩) at_ w _ ?_
  refine CallT.mono (disk_ready.spec h) ?_
  rintro _ _ ⟨rfl, rfl⟩
  by_cases hdn : D.down = true
  · rw [if_pos hdn, readD, if_pos hdn]
    exact cnd_pos rfl ⟨Own.nil _ _ _ _, rfl, Upd.refl _ _⟩
  rw [if_neg hdn, readD, if_neg hdn]
  refine cnd_neg rfl (CallT.mono (disk_has.spec h at_) ?_)
  rintro _ _ ⟨rfl, rfl⟩
  refine cnd_not (fun hf => ?_) (fun htr => ?_)
  · rw [if_pos (by simpa using hf)]; exact ⟨Own.nil _ _ _ _, rfl, Upd.refl _ _⟩
  have hat : 0 ≤ at_ ∧ at_ < D.kept.length := by simpa using htr
  rw [if_neg (by simpa using htr)]
  obtain ⟨i, rfl⟩ : ∃ i : Nat, at_ = i := ⟨at_.toNat, by omega⟩
  rw [Int.toNat_natCast]
  have hwl := h.wait.len
  have hw0 : IntKind.i64.wrap ((s.len : Int) - 1) = (s.len : Int) - 1 := by rw [i64_id] <;> omega
  -- a copy of a sector
  have copy : ∀ (P : Prop) (_ : P) (x : Sec) (A : Addr), cellsAt w A (B8 x.1) → CallT [.one .slice] Try.prog F.slices_Clone_byte_byte [.slice (subA (some A) 0 1 512) (512 - 0) (512 - 0)] w fun r w' => OwnB w' w.heap.size r x.1 ∧ P ∧ Ext w w' := by
    intro P hP x A hA
    rw [subA_lo _ _ (by decide)]
    have hr : RdB w ⟨some A, 512, 512⟩ x.1 := ⟨by rw [B8_length, x.2]; rfl, fun h => by simp at h, fun A' hA' => by obtain rfl := Option.some.inj hA'; exact hA⟩
    refine CallT.mono (slices_Clone_byte_byte.spec hr (by rw [x.2]; decide)) ?_
    rintro o w' ⟨ho, e, _⟩
    exact ⟨ho, hP, e⟩
  refine ⟨s, h.blk.get 1 rfl, ?_⟩
  rw [hw0]
  refine ⟨fun n x w' => w = w' ∧ ∃ j : Nat, x = (j : Int) - 1 ∧ j ≤ D.waits.length ∧ n = j ∧ ∀ q ∈ D.waits.drop j, q.1 ≠ i, ⟨_, rfl, D.waits.length, by omega, Nat.le_refl _, rfl, by simp⟩, ?_⟩
  rintro n _ _ _ ⟨rfl, j, rfl, hj, rfl, hno⟩
  refine cnd_dec (fun hge => ?_) (fun hlt => ?_)
  · obtain ⟨m, rfl⟩ : ∃ m, n = m + 1 := ⟨n - 1, by omega⟩
    have hml : m < D.waits.length := by omega
    have hx : D.waits[m]? = some D.waits[m] := List.getElem?_eq_getElem hml
    have hdr : D.waits.drop m = D.waits[m] :: D.waits.drop (m + 1) := List.drop_eq_getElem_cons hml
    generalize D.waits[m] = p at hx hdr
    have hm1 : (((m + 1 : Nat) : Int) - 1) = (m : Int) := by omega
    rw [hm1]
    simp only [Int.toNat_natCast]
    refine ⟨s, h.blk.get 1 rfl, by omega, by omega, h.wait.rd.get hml fun A hA => ⟨(p.1 : Int), h.wait.rd.fld hx hA (k := 0) rfl, cnd_beq (fun he => ?_) (fun hne => ?_)⟩⟩
    · refine ⟨s, h.blk.get 1 rfl, by omega, by omega, ?_⟩
      rw [hA]
      have hc : cellsAt w ((A.add (m * 513)).add 1) (B8 p.2.1) := (h.wait.rd.at_ hx hA).drop 1
      have hs : showD D i = p.2 := lastW_take hx (by omega) hno
      rw [hs]
      exact copy _ trivial p.2 _ hc
    · refine ⟨m, by omega, trivial, m, ?_, by omega, rfl, fun q hq => ?_⟩
      · rw [i64_id] <;> omega
      · rw [hdr] at hq
        rcases List.mem_cons.1 hq with rfl | hq
        · intro he; exact hne (by omega)
        · exact hno q hq
  · have hn0 : n = 0 := by omega
    subst hn0
    have hil : i < D.kept.length := by omega
    have hx : D.kept[i]? = some D.kept[i] := List.getElem?_eq_getElem hil
    have hs : showD D i = D.kept[i] := by
      rw [showD, lastW_none (by simpa using hno), List.getD_eq_getElem?_getD, hx]; rfl
    rw [hs]
    generalize D.kept[i] = x at hx
    have hkl := h.kept.len
    refine ⟨k, h.blk.get 0 rfl, by omega, by omega, h.kept.rd.get hil fun A hA => ?_⟩
    exact copy _ rfl x _ (h.kept.rd.at_ hx hA)
end Go.Proofs
/- disk: Flush, Crash, Flip, Fork. Conditions: those of each contract. -/
namespace Go.Proofs
open Go Go.Vc
theorem applyW_take {kept : List Sec} {ws : List Wr} {i : Nat} {p : Wr} (hp : ws[i]? = some p) : applyW kept (ws.take (i + 1)) = (applyW kept (ws.take i)).set p.1 p.2 := by
  rw [List.take_add_one, hp, Option.toList_some, applyW_snoc]
set_option maxRecDepth 100000 in
theorem disk_Flush.spec {w : World} {d : Nat} {k s : SV} {D : DK} (h : DkAt w d k s D) (hn : D.waits.length ≤ 2000000) :
    CallT [.one (.int .i64)] Try.prog F.disk_Disk_Flush [dptr d] w fun r w' => r = (flushD D).2 ∧ ∃ s', DkTo w w' d k s s' (flushD D).1 := by
  refine disk_Disk_Flush.vc (some ⟨d, 0, none⟩) w _ ?_
  refine CallT.mono (disk_ready.spec h) ?_
  rintro _ _ ⟨rfl, rfl⟩
  by_cases hdn : D.down = true
  · rw [if_pos hdn, flushD, if_pos hdn]
    exact cnd_pos rfl ⟨rfl, s, h.to⟩
  rw [if_neg hdn, flushD, if_neg hdn]
  refine cnd_neg rfl (CallT.mono (disk_counted.spec h) ?_)
  rintro _ w1 ⟨rfl, h1⟩
  refine cnd_bne (fun hne => ?_) (fun he => ?_)
  · rw [if_pos hne]; exact ⟨rfl, s, h1⟩
  rw [if_neg (by rw [he]; simp)]
  obtain ⟨ck, cw, cf⟩ := cntD_kept D
  generalize hD1 : (cntD D).1 = D1 at *
  have a1 := h1.at_
  have hsl := a1.wait.len
  refine ⟨s, a1.blk.get 1 rfl, fun n x w' => ∃ i : Nat, x = i ∧ i ≤ D.waits.length ∧ n = D.waits.length - i ∧ DkTo w1 w' d k s s { D1 with kept := applyW D.kept (D.waits.take i) }, ⟨_, 0, rfl, by omega, rfl, ?_⟩, ?_⟩
  · have : ({ D1 with kept := applyW D.kept (D.waits.take 0) } : DK) = D1 := by rw [List.take_zero, applyW, List.foldl_nil, ← ck]
    rw [this]; exact a1.to
  rintro n _ _ w2 ⟨i, rfl, hi, rfl, h2⟩
  have a2 := h2.at_
  rw [cw] at hsl
  refine cnd_dec (fun hlt => ?_) (fun hge => ?_)
  · have hil : i < D.waits.length := by omega
    have hx : D.waits[i]? = some D.waits[i] := List.getElem?_eq_getElem hil
    generalize D.waits[i] = p at hx
    have hx1 : D1.waits[i]? = some p := by rw [cw]; exact hx
    have hw : IntKind.i64.wrap ((i : Int) + 1) = ((i + 1 : Nat) : Int) := by rw [i64_id] <;> omega
    have hpr : p.1 < D.kept.length := h.rng p (List.mem_of_getElem? hx)
    refine ⟨by omega, by omega, a2.wait.rd.get (i := i) (by simp only [cw]; exact hil) fun A hA => ?_⟩
    rw [Int.toNat_natCast]
    refine ⟨(encWr p).toArray, by simpa using encWr_len p, fun j hj => bigAt (a2.wait.rd.at_ hx1 hA) j (by rw [encWr_len]; exact hj), ?_⟩
    generalize hc : w2.alloc _ = w3
    dsimp only
    generalize hd : setCells w3 _ 0 _ = w4
    obtain ⟨c4, b4, e4, z4⟩ := bk_mk (T := T.disk_write) (z := zc Try.prog T.disk_write) (vs := encWr p) hc hd (by rw [zc_write, encWr_len, encWr_len])
    have a4 : DkAt w4.drew d k s { D1 with kept := applyW D.kept (D.waits.take i) } := a2.ext e4.drew
    have b4d : BK w4.drew w2.heap.size T.disk_write (encWr p) := b4
    have hkl := a4.kept.len
    simp only [applyW_len] at hkl
    refine ⟨encWr_len p, encWr_oneV p, c4, ?_⟩
    refine ⟨k, a4.blk.get 0 rfl, (p.1 : Int), b4d.get 0 rfl, (B8 p.2.1).toArray, by simpa using encSec_len p.2, fun j hj => bigAt (b4d.all.drop 1) j (by rw [show (encWr p).drop 1 = B8 p.2.1 from rfl, B8_length, p.2.2]; exact hj), by omega, by omega, a4.kept.rd.get (i := p.1) (by simp only [applyW_len]; exact hpr) fun A' hA' => ?_⟩
    rw [Int.toNat_natCast]
    obtain ⟨cc, h5⟩ := a4.setk (i := p.1) (by simp only [applyW_len]; exact hpr) hA' p.2
    refine ⟨encSec_len p.2, B8_oneV _, cc, D.waits.length - (i + 1), by omega, i + 1, hw, by omega, rfl, ?_⟩
    rw [applyW_take hx]
    exact (h2.ext e4.drew).tr h5
  · have : i = D.waits.length := by omega
    subst this
    rw [List.take_length] at h2 a2
    obtain ⟨g1, g2, g3⟩ := a2.putW (s' := ⟨none, 0, 0⟩) (l := []) (Upd.refl _ w2) (OwnS.nil encWr_len (by decide) _ _ _) (fun b hb => by obtain ⟨A, hA, _⟩ := hb; simp at hA) (by simp)
    exact ⟨g1, g2, rfl, _, (h1.tr h2).tr g3⟩

/-! ### Crash -/
/-! ### Flip -/
def bitB (bit : Nat) : UInt8 := UInt8.ofNat (2 ^ (bit % 8))
def flipS (x : Sec) (bit : Nat) : Sec := ⟨x.1.set (bit / 8) (x.1.getD (bit / 8) 0 ^^^ bitB bit), by rw [List.length_set]; exact x.2⟩
def flipD (D : DK) (at_ bit : Int) : DK × Int :=
  if ¬ (0 ≤ at_ ∧ at_ < D.kept.length) ∨ bit < 0 ∨ 4096 ≤ bit then (D, 1) else ({ D with kept := D.kept.set at_.toNat (flipS (D.kept.getD at_.toNat zeroSec) bit.toNat), flips := D.flips + 1 }, 0)
theorem bit_xor {c : UInt8} {m : Nat} (hm : m < 8) : bxor .u8 (c.toNat : Int) (shl .u8 1 (m : Int)) = ((c ^^^ UInt8.ofNat (2 ^ m)).toNat : Int) := by
  have hlt : 2 ^ m < 256 := by
    have : 2 ^ m < 2 ^ 8 := Nat.pow_lt_pow_right (by decide) hm
    omega
  have h1 : shl .u8 1 (m : Int) = ((2 ^ m : Nat) : Int) := by
    have := shl_nat (k := .u8) (a := 1) (b := m) rfl (by simp only [IntKind.bits]; omega)
    rw [Nat.one_mul, Nat.mod_eq_of_lt (by simpa [IntKind.bits] using hlt)] at this
    exact this
  have h2 : (UInt8.ofNat (2 ^ m)).toNat = 2 ^ m := by simp; omega
  rw [h1]
  have := bxor_nat (k := .u8) rfl (a := c.toNat) (b := 2 ^ m) c.toNat_lt (by simpa [IntKind.bits] using hlt)
  rw [UInt8.toNat_xor, h2]; exact this
set_option maxRecDepth 100000 in
theorem disk_Flip.spec {w : World} {d : Nat} {k s : SV} {D : DK} (h : DkAt w d k s D) (hf : D.flips ≤ 1000000) (at_ bit : Int) :
    CallT [.one (.int .i64)] Try.prog F.disk_Disk_Flip [dptr d, .int .i64 at_, .int .i64 bit] w fun r w' => r = (flipD D at_ bit).2 ∧ DkTo w w' d k s s (flipD D at_ bit).1 := by
  refine disk_Disk_Flip.vc (some ⟨d, 0, none⟩) at_ bit w _ ?_
  refine cnd_neg rfl ⟨fun _ w' => w = w' ∧ (0 ≤ at_ ∧ at_ < D.kept.length) ∧ 0 ≤ bit ∧ bit < 4096, CallT.mono (disk_has.spec h at_) ?_, ?_⟩
  · rintro _ _ ⟨rfl, rfl⟩
    have bad : (¬ (0 ≤ at_ ∧ at_ < D.kept.length) ∨ bit < 0 ∨ 4096 ≤ bit) → (1 : Int) = (flipD D at_ bit).2 ∧ DkTo w w d k s s (flipD D at_ bit).1 := fun hb => by
      rw [flipD, if_pos hb]; exact ⟨rfl, h.to⟩
    exact cnd_not (fun hff => bad (.inl (by simpa using hff))) (fun htr => cnd_dec (fun h0 => bad (.inr (.inl h0))) (fun h0 => cnd_dec (fun h1 => bad (.inr (.inr (by omega)))) (fun h1 => ⟨rfl, by simpa using htr, by omega, by omega⟩)))
  rintro _ _ _ ⟨rfl, hat, hb0, hb1⟩
  obtain ⟨i, rfl⟩ : ∃ i : Nat, at_ = i := ⟨at_.toNat, by omega⟩
  obtain ⟨b, rfl⟩ : ∃ b : Nat, bit = b := ⟨bit.toNat, by omega⟩
  rw [flipD, if_neg (by omega)]
  have hil : i < D.kept.length := by omega
  have hd : DkAt w.drew d k s D := h.ext (ext_drew _)
  have hkl := hd.kept.len
  have hx : D.kept[i]? = some D.kept[i] := List.getElem?_eq_getElem hil
  have hgd : D.kept.getD i zeroSec = D.kept[i] := by rw [List.getD_eq_getElem?_getD, hx]; rfl
  generalize D.kept[i] = x at hx hgd
  have hq : IntKind.i64.wrap ((b : Int).tdiv 8) = ((b / 8 : Nat) : Int) := by
    rw [Int.tdiv_eq_ediv_of_nonneg (by omega), i64_id (by omega) (by omega)]; omega
  have hm : (b : Int).tmod 8 = ((b % 8 : Nat) : Int) := by rw [Int.tmod_eq_emod_of_nonneg (by omega)]; omega
  rw [hq, hm]
  simp only [Int.toNat_natCast, Nat.mul_one]
  rw [hgd]
  have h8 : b / 8 < x.1.length := by rw [x.2]; omega
  have hcell : (encSec x)[b / 8]? = some (.int .u8 ((x.1.getD (b / 8) 0).toNat : Int)) := by
    simp only [encSec, B8, List.getElem?_map, List.getElem?_eq_getElem h8, Option.map_some, List.getD_eq_getElem?_getD, Option.getD_some]
  refine ⟨k, hd.blk.get 0 rfl, by omega, by omega, hd.kept.rd.get hil fun A hA => ⟨by omega, by omega, ((x.1.getD (b / 8) 0).toNat : Int), hd.kept.rd.fld hx hA hcell, by omega, by omega, by omega, ?_⟩⟩
  rw [hA, bit_xor (by omega)]
  obtain ⟨c1, c2, c3, c4, c5⟩ := hd.kept.setf hx hA (k := b / 8) (by omega) (v := .int .u8 ((x.1.getD (b / 8) 0 ^^^ UInt8.ofNat (2 ^ (b % 8))).toNat : Int)) (y := flipS x b) (by
    simp only [encSec, flipS, B8, List.map_set]; rfl)
  refine ⟨by omega, by omega, c1, c2, ?_⟩
  generalize w.drew.setCell ((A.add (i * 512)).add (b / 8)) (.int .u8 ((x.1.getD (b / 8) 0 ^^^ UInt8.ofNat (2 ^ (b % 8))).toNat : Int)) = w2 at c3 c4 c5 ⊢
  have a2 : DkAt w2 d k s { D with kept := D.kept.set i (flipS x b) } :=
    ⟨hd.blk.upd c5 hd.dk, c3, ⟨hd.wait.own.upd c5 fun b hb hk => hd.ks b hk hb, hd.wait.esz, hd.wait.pos⟩, hd.dk, hd.ds, hd.ks, by simp only [List.length_set]; exact hd.rng, by simp only [List.length_set]; exact hd.num, hd.arm⟩
  have t2 : DkTo w w2 d k s s { D with kept := D.kept.set i (flipS x b) } := DkTo.pre (ext_drew w) ⟨a2, c5.mono fun x _ hx => .inr (.inl hx), fun _ hb => .inl hb⟩
  obtain ⟨g1, g2, g3⟩ := a2.put 4 (by omega) (.int .i64 ((D.flips + 1 : Nat) : Int)) { D with kept := D.kept.set i (flipS x b), flips := D.flips + 1 } rfl rfl rfl a2.arm
  have hw : IntKind.i64.wrap ((D.flips : Int) + 1) = ((D.flips + 1 : Nat) : Int) := by rw [i64_id] <;> omega
  refine ⟨(D.flips : Int), a2.blk.get 4 rfl, g1, g2, trivial, ?_⟩
  rw [hw]
  exact t2.tr g3

/-! ### Fork -/
end Go.Proofs
/- Which sectors are bad, in plain Lean. Conditions: those of each lemma. -/
namespace Go.Proofs
open Go Go.Vc Go.Crc
abbrev LY : L9 := lay 256 30 4
theorem pl256 : PL 256 30 4 := ⟨by decide, by decide, by decide, by decide, by decide, by decide⟩
theorem plan256 : planF 256 = (LY, 0) := by rw [planF, if_neg (by decide)]; rfl
theorem leq_self (x : L9) : (x.1 == x.1 && (x.2.1 == x.2.1 && (x.2.2.1 == x.2.2.1 && (x.2.2.2.1 == x.2.2.2.1 && ((x.2.2.2.2.1 == x.2.2.2.2.1 && (x.2.2.2.2.2.1 == x.2.2.2.2.2.1 && true)) && (x.2.2.2.2.2.2.1 == x.2.2.2.2.2.2.1 && (x.2.2.2.2.2.2.2.1 == x.2.2.2.2.2.2.2.1 && (x.2.2.2.2.2.2.2.2 == x.2.2.2.2.2.2.2.2 && true)))))))) = true := by simp
theorem leq_ne {x y : L9} (h : x ≠ y) : (x.1 == y.1 && (x.2.1 == y.2.1 && (x.2.2.1 == y.2.2.1 && (x.2.2.2.1 == y.2.2.2.1 && ((x.2.2.2.2.1 == y.2.2.2.2.1 && (x.2.2.2.2.2.1 == y.2.2.2.2.2.1 && true)) && (x.2.2.2.2.2.2.1 == y.2.2.2.2.2.2.1 && (x.2.2.2.2.2.2.2.1 == y.2.2.2.2.2.2.2.1 && (x.2.2.2.2.2.2.2.2 == y.2.2.2.2.2.2.2.2 && true)))))))) = false := by
  cases hb : (x.1 == y.1 && (x.2.1 == y.2.1 && (x.2.2.1 == y.2.2.1 && (x.2.2.2.1 == y.2.2.2.1 && ((x.2.2.2.2.1 == y.2.2.2.2.1 && (x.2.2.2.2.2.1 == y.2.2.2.2.2.1 && true)) && (x.2.2.2.2.2.2.1 == y.2.2.2.2.2.2.1 && (x.2.2.2.2.2.2.2.1 == y.2.2.2.2.2.2.2.1 && (x.2.2.2.2.2.2.2.2 == y.2.2.2.2.2.2.2.2 && true)))))))) with
  | false => rfl
  | true =>
    exfalso
    apply h
    simp only [Bool.and_eq_true, beq_iff_eq, and_true] at hb
    obtain ⟨h1, h2, h3, h4, ⟨h5, h6⟩, h7, h8, h9⟩ := hb
    exact Prod.ext h1 (Prod.ext h2 (Prod.ext h3 (Prod.ext h4 (Prod.ext h5 (Prod.ext h6 (Prod.ext h7 (Prod.ext h8 h9)))))))
abbrev Bd := Int × Int
@[reducible] def encBad (x : Bd) : List Value := [.int .i64 x.1, .int .i64 x.2]
theorem encBad_len (x : Bd) : (encBad x).length = 2 := rfl
theorem slbad_u : Try.prog.underlying T.sl_api_Bad = some (.slice T.api_Bad) := by kernel_rfl
theorem appBad : AppT Try.prog [T.sl_api_Bad, T.sl_api_Bad] T.api_Bad 2 16 [.int .i64 0, .int .i64 0] :=
  ⟨⟨T.sl_api_Bad, rfl, slbad_u⟩, ⟨T.sl_api_Bad, _, rfl, slbad_u, .inr ⟨T.api_Bad, rfl⟩⟩, by kernel_rfl, by kernel_rfl, by decide, by kernel_rfl, rfl, by decide⟩
def goodB (b : List UInt8) : Bool := decide ((openR b).2 = 0)
def badAt (i : Nat) : Bd := ((i : Int), regP 256 30 4 (i : Int))
def badsD (D : DK) (f n : Nat) : List Bd := ((List.range n).filter fun i => !goodB (showD D (f + i)).1).map fun i => badAt (f + i)
theorem badsD_succ (D : DK) (f n : Nat) : badsD D f (n + 1) = badsD D f n ++ (if goodB (showD D (f + n)).1 = true then [] else [badAt (f + n)]) := by
  unfold badsD
  rw [List.range_succ, List.filter_append, List.map_append]
  congr 1
  by_cases h : goodB (showD D (f + n)).1 = true
  · rw [if_pos h]; simp [h]
  · rw [if_neg h]; simp [h]
theorem badsD_len (D : DK) (f n : Nat) : (badsD D f n).length ≤ n := by
  unfold badsD
  rw [List.length_map]
  exact Nat.le_trans (List.length_filter_le _ _) (by simp)
open Classical in
noncomputable def partR (D : DK) (x : L9) (f n : Int) : List Bd × Int :=
  if x ≠ LY then ([], 1) else if D.down = true then ([], 40) else if f < 0 ∨ n < 0 ∨ f > 256 ∨ n > 256 - f then ([], 1) else (badsD D f.toNat n.toNat, 0)
/-! ### sectors that are good, and what turned bits make of them -/
theorem allZ_reps (n : Nat) : allZ (List.replicate n 0) = true := by simp [allZ]
theorem good_zero : goodB (List.replicate 512 0) = true := by
  rw [goodB, openR_zero List.length_replicate (allZ_reps 512)]; rfl
theorem good_seal {k : UInt8} {t : Nat} {p : List UInt8} (hk : knownK k = true) (hp : p.length ≤ 496) (ht : t < 2 ^ 64) : goodB (sealB k t p) = true := by
  rw [goodB, open_seal hk hp ht]; rfl
theorem three_low : ∀ a b c : Fin 9, knownK ((if a.val < 8 then UInt8.ofNat (2 ^ a.val) else 0) ^^^ (if b.val < 8 then UInt8.ofNat (2 ^ b.val) else 0) ^^^ (if c.val < 8 then UInt8.ofNat (2 ^ c.val) else 0)) = false := by decide +kernel
theorem turned_zero {ks : List Int} (hb : Bits3 4096 ks) : goodB (turns (List.replicate 512 0) ks) = false := by
  have hl0 : (List.replicate 512 (0 : UInt8)).length = 512 := List.length_replicate
  have hfirst : (List.replicate 512 (0 : UInt8)).getD 0 0 = 0 := rfl
  generalize hL : List.replicate 512 (0 : UInt8) = l at *
  have hl : (turns l ks).length = 512 := by rw [turns_len, hl0]
  have hers : ers 512 ks ≠ 0 := by
    rcases hb with ⟨i, hi, rfl⟩ | ⟨i, j, k, ⟨hi, hj, hk⟩, _, rfl⟩
    · exact ers1 hi
    · exact ers3 hi hj hk
  have hz : allZ (turns l ks) = false := by
    cases hz : allZ (turns l ks) with
    | false => rfl
    | true =>
      exfalso
      have he : turns l ks = l := by
        rw [← hL]
        refine List.eq_replicate_iff.2 ⟨by rw [hL]; exact hl, fun b hb => ?_⟩
        rw [hL] at hb
        have := List.all_eq_true.1 hz b hb
        simpa using this
      have h1 := raw_turns ks l M
      rw [he, hl0] at h1
      have h2 := congrArg (raw M l ^^^ ·) h1
      simp only [← Nat.xor_assoc, Nat.xor_self, Nat.zero_xor] at h2
      exact hers h2.symm
  have hk : knownK ((turns l ks).getD 0 0) = false := by
    rcases hb with ⟨i, _, rfl⟩ | ⟨i, j, k, _, _, rfl⟩
    · rw [show turns l [(i : Int)] = turn1 l i from rfl, turn1_zero (by omega), hfirst]
      obtain ⟨a, ha⟩ := bitOf_cases i
      rw [ha, UInt8.zero_xor]
      have h9 := three_low a 8 8
      have e8 : (if (8 : Fin 9).val < 8 then UInt8.ofNat (2 ^ (8 : Fin 9).val) else 0) = (0 : UInt8) := rfl
      rw [e8, UInt8.xor_zero, UInt8.xor_zero] at h9
      exact h9
    · rw [show turns l [(i : Int), (j : Int), (k : Int)] = turn1 (turn1 (turn1 l i) j) k from rfl, turn1_zero (by rw [turn1_len, turn1_len]; omega), turn1_zero (by rw [turn1_len]; omega), turn1_zero (by omega), hfirst]
      obtain ⟨a, ha⟩ := bitOf_cases i
      obtain ⟨b, hb⟩ := bitOf_cases j
      obtain ⟨c, hc⟩ := bitOf_cases k
      rw [ha, hb, hc, UInt8.zero_xor]
      exact three_low a b c
  cases hr : rightB (turns l ks) with
  | false => rw [goodB, openR_sum hl hz hr]; rfl
  | true => rw [goodB, openR_bad hl hz hr (.inl hk)]; rfl
theorem flip_turn (x : Sec) {n : Nat} (hn : n < 4096) : (flipS x n).1 = turns x.1 [(n : Int)] := by
  have hx := x.2
  show x.1.set (n / 8) (x.1.getD (n / 8) 0 ^^^ bitB n) = turn1 x.1 (n : Int)
  unfold turn1
  rw [if_pos (by omega)]
  have e1 : ((n : Int) / 8).toNat = n / 8 := by omega
  have e2 : ((n : Int) % 8).toNat = n % 8 := by omega
  rw [e1, e2]; rfl
end Go.Proofs
