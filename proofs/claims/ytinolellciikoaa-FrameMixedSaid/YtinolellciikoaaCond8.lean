/- The conditions of the seat's functions, written by a program (VcTool, genvc.py) off 'vc' reduced; each is tied to 'vc' by the kernel. Conditions: none. -/
import Derived.Test.YtinolellciikoaaVcSound5
import Derived.Test.YtinolellciikoaaProg
set_option linter.unusedVariables false
set_option maxRecDepth 100000
namespace Go.Proofs
open Go Go.Vc
/-- (*dunnage/disk.Disk).Crash -/
theorem disk_Disk_Crash.vc (p0 : Option Addr) (s1 : SV) (w : World) (R : Int → World → Prop)
  (h : cnd p0.isNone (R (2 : Int) w)
      (onP p0 fun (a : Addr) =>
        (w.cell? (a.add (2 : Nat))).isSome = true ∧
          w.frozen? (a.add (2 : Nat)) = false ∧
            let w1 := w.setCell (a.add (2 : Nat)) (Value.bool true);
            onP p0 fun (a : Addr) =>
              ∃ (x : SV),
                w1.cell? (a.add (1 : Nat)) = some (Value.slice x.a x.len x.cap) ∧
                  ∃ (I : Nat → Int → World → Prop),
                    (∃ (n : Nat), I n (0 : Int) w1) ∧
                      ∀ (n : Nat) (x_1 : Int) (j : Nat → Value) (w' : World),
                        I n x_1 w' →
                          cnd (decide (x_1 < (↑x.len : Int)))
                            ((0 : Int) ≤ x_1 ∧
                              x_1 < (↑x.len : Int) ∧
                                onP x.a fun (A : Addr) =>
                                  ∃ (cs : Array Value),
                                    cs.size = (513 : Nat) ∧
                                      (∀ (i : Nat),
                                          i < (513 : Nat) → w'.cell? ((A.add (x_1.toNat * (513 : Nat))).add i) = cs[i]?) ∧
                                        let w1 := w'.alloc (Obj.cells (zc Try.prog (156 : Nat)).toArray (156 : Nat));
                                        cs.toList.length = (513 : Nat) ∧
                                          (∀ (v : Value), v ∈ cs.toList → oneV v True) ∧
                                            canSt w1 (Addr.mk w'.heap.size (0 : Nat) none) cs.toList.length ∧
                                              let w1 :=
                                                setCells w1 (Addr.mk w'.heap.size (0 : Nat) none) (0 : Nat) cs.toList;
                                              ∃ (R : Bool → World → Prop),
                                                cnd (decide (x_1 < (↑s1.len : Int)))
                                                    ((0 : Int) ≤ x_1 ∧
                                                      x_1 < (↑s1.len : Int) ∧
                                                        onP s1.a fun (A : Addr) =>
                                                          ∃ (x : Bool),
                                                            w1.cell? (A.add (x_1.toNat * (1 : Nat))) = some (Value.bool x) ∧
                                                              R x w1)
                                                    (R false w1) ∧
                                                  ∀ (x : Bool) (j : Nat → Value) (w'_1 : World),
                                                    R x w'_1 →
                                                      cnd x
                                                        (onP p0 fun (a : Addr) =>
                                                          ∃ (x : SV),
                                                            w'_1.drew.cell? (a.add (0 : Nat)) =
                                                                some (Value.slice x.a x.len x.cap) ∧
                                                              ∃ (x_2 : Int),
                                                                w'_1.drew.cell?
                                                                      ((Addr.mk w'.heap.size (0 : Nat) none).add
                                                                        (0 : Nat)) =
                                                                    some (Value.int IntKind.i64 x_2) ∧
                                                                  ∃ (cs : Array Value),
                                                                    cs.size = (512 : Nat) ∧
                                                                      (∀ (i : Nat),
                                                                          i < (512 : Nat) →
                                                                            w'_1.drew.cell?
                                                                                (((Addr.mk w'.heap.size (0 : Nat) none).add
                                                                                      (1 : Nat)).add
                                                                                  i) =
                                                                              cs[i]?) ∧
                                                                        (0 : Int) ≤ x_2 ∧
                                                                          x_2 < (↑x.len : Int) ∧
                                                                            onP x.a fun (A : Addr) =>
                                                                              cs.toList.length = (512 : Nat) ∧
                                                                                (∀ (v : Value),
                                                                                    v ∈ cs.toList → oneV v True) ∧
                                                                                  canSt w'_1.drew
                                                                                      (A.add (x_2.toNat * (512 : Nat)))
                                                                                      cs.toList.length ∧
                                                                                    ∃ (m : Nat),
                                                                                      m < n ∧
                                                                                        I m
                                                                                          (IntKind.i64.wrap
                                                                                            (x_1 + (1 : Int)))
                                                                                          (setCells w'_1.drew
                                                                                            (A.add
                                                                                              (x_2.toNat * (512 : Nat)))
                                                                                            (0 : Nat) cs.toList))
                                                        (∃ (m : Nat),
                                                          m < n ∧ I m (IntKind.i64.wrap (x_1 + (1 : Int))) w'_1))
                            (onP p0 fun (a : Addr) =>
                              (w'.cell? (a.add (1 : Nat))).isSome = true ∧
                                w'.frozen? (a.add (1 : Nat)) = false ∧
                                  R (0 : Int) (w'.setCell (a.add (1 : Nat)) (Value.slice none (0 : Nat) (0 : Nat))))))
  : CallT [Ty.one (Sh.int IntKind.i64)] Try.prog 54 [Value.pointer p0, Value.slice s1.a s1.len s1.cap] w R :=
  fnV_sound (h := HT.z.sq
  (HT.z.sq
    (HT.z.sq
      ((HT.z.sq
            (HT.lp [((17 : Nat), Ty.one (Sh.int IntKind.i64))]
                (HT.z.sq
                  (HT.z.sq
                    ((HT.z.sq (HT.jn [((31 : Nat), Ty.one Sh.bool)] HT.z ((HT.rg (9 : Nat)).cd HT.z))).bl.sq
                      HT.z)))).bl).sq
        HT.z)))) Try.func54 (by kernel_rfl) (by kernel_rfl) (Eq.mp (by kernel_rfl) h)

/-- (*dunnage/disk.Disk).Waiting -/
theorem disk_Disk_Waiting.vc (p0 : Option Addr) (w : World) (R : Int → World → Prop)
  (h : cnd p0.isNone (R (0 : Int) w)
      (onP p0 fun (a : Addr) =>
        ∃ (x : SV), w.cell? (a.add (1 : Nat)) = some (Value.slice x.a x.len x.cap) ∧ R (↑x.len : Int) w))
  : CallT [Ty.one (Sh.int IntKind.i64)] Try.prog 55 [Value.pointer p0] w R :=
  fnV_sound (h := HT.z) Try.func55 (by kernel_rfl) (by kernel_rfl) (Eq.mp (by kernel_rfl) h)

/-- (*dunnage/disk.Disk).Fork -/
theorem disk_Disk_Fork.vc (p0 : Option Addr) (w : World) (R : Option Addr → World → Prop)
  (h : cnd p0.isNone (R none w)
      (onP p0 fun (a : Addr) =>
        ∃ (x : SV × SV × Bool × Int × Int),
          cellsAt w a
              [Value.slice x.fst.a x.fst.len x.fst.cap, Value.slice x.snd.fst.a x.snd.fst.len x.snd.fst.cap,
                Value.bool x.snd.snd.fst, Value.int IntKind.i64 x.snd.snd.snd.fst,
                Value.int IntKind.i64 x.snd.snd.snd.snd] ∧
            let w1 :=
              w.alloc
                (Obj.cells
                  #[Value.slice none (0 : Nat) (0 : Nat), Value.slice none (0 : Nat) (0 : Nat), Value.bool false,
                    Value.int IntKind.i64 (0 : Int), Value.int IntKind.i64 (0 : Int)]
                  (151 : Nat));
            canSt w1 (Addr.mk w.heap.size (0 : Nat) none) (5 : Nat) ∧
              let w1 :=
                setCells w1 (Addr.mk w.heap.size (0 : Nat) none) (0 : Nat)
                  [Value.slice x.fst.a x.fst.len x.fst.cap, Value.slice x.snd.fst.a x.snd.fst.len x.snd.fst.cap,
                    Value.bool x.snd.snd.fst, Value.int IntKind.i64 x.snd.snd.snd.fst,
                    Value.int IntKind.i64 x.snd.snd.snd.snd];
              ∃ (S : World → Prop),
                S w1.drew ∧
                  onP p0 fun (a : Addr) =>
                    ∃ (x : SV),
                      (∀ (w : World), S w → w.cell? (a.add (0 : Nat)) = some (Value.slice x.a x.len x.cap)) ∧
                        onP p0 fun (a : Addr) =>
                          ∃ (x_1 : SV),
                            (∀ (w : World), S w → w.cell? (a.add (1 : Nat)) = some (Value.slice x_1.a x_1.len x_1.cap)) ∧
                              CallT [Ty.one Sh.slice] Try.prog (121 : Nat) [Value.slice x.a x.len x.cap] w1.drew
                                fun (x : SV) (w' : World) =>
                                S w' ∧
                                  CallT [Ty.one Sh.slice] Try.prog (122 : Nat) [Value.slice x_1.a x_1.len x_1.cap] w'
                                    fun (x_2 : SV) (w' : World) =>
                                    S w' ∧
                                      (w'.cell? ((Addr.mk w.heap.size (0 : Nat) none).add (0 : Nat))).isSome = true ∧
                                        w'.frozen? ((Addr.mk w.heap.size (0 : Nat) none).add (0 : Nat)) = false ∧
                                          let w1 :=
                                            w'.setCell ((Addr.mk w.heap.size (0 : Nat) none).add (0 : Nat))
                                              (Value.slice x.a x.len x.cap);
                                          (w1.cell? ((Addr.mk w.heap.size (0 : Nat) none).add (1 : Nat))).isSome = true ∧
                                            w1.frozen? ((Addr.mk w.heap.size (0 : Nat) none).add (1 : Nat)) = false ∧
                                              R (some (Addr.mk w.heap.size (0 : Nat) none))
                                                (w1.setCell ((Addr.mk w.heap.size (0 : Nat) none).add (1 : Nat))
                                                  (Value.slice x_2.a x_2.len x_2.cap))))
  : CallT [Ty.one Sh.ptr] Try.prog 56 [Value.pointer p0] w R :=
  fnV_sound (h := HT.z.sq
  (HT.z.sq
    (HT.z.sq
      ((HT.dr
            (DT.take (0 : Nat)
              (DT.take (1 : Nat)
                (DT.take (2 : Nat)
                  (DT.take (3 : Nat)
                    (DT.take (5 : Nat)
                      (DT.take (6 : Nat)
                        (DT.take (7 : Nat)
                          (DT.take (8 : Nat)
                            (DT.alt (4 : Nat)
                              (DT.alt (9 : Nat)
                                (DT.take (10 : Nat)
                                  (DT.alt (11 : Nat) (DT.take (12 : Nat) (DT.alt (13 : Nat) DT.fin DT.fin)) DT.fin))
                                DT.fin)
                              DT.fin)))))))))).sq
        HT.z)))) Try.func56 (by kernel_rfl) (by kernel_rfl) (Eq.mp (by kernel_rfl) h)

/-- (*dunnage/disk.Disk).Flip -/
theorem disk_Disk_Flip.vc (p0 : Option Addr) (n1 : Int) (n2 : Int) (w : World) (R : Int → World → Prop)
  (h : cnd p0.isNone (R (2 : Int) w)
      (∃ (R_1 : PUnit → World → Prop),
        (CallT [Ty.one Sh.bool] Try.prog (110 : Nat) [Value.pointer p0, Value.int IntKind.i64 n1] w
            fun (x : Bool) (w' : World) =>
            cnd (!x) (R (1 : Int) w')
              (cnd (decide (n2 < (0 : Int))) (R (1 : Int) w')
                (cnd (decide (n2 ≥ (4096 : Int))) (R (1 : Int) w') (R_1 () w')))) ∧
          ∀ (x : PUnit) (j : Nat → Value) (w' : World),
            R_1 x w' →
              onP p0 fun (a : Addr) =>
                ∃ (x : SV),
                  w'.drew.cell? (a.add (0 : Nat)) = some (Value.slice x.a x.len x.cap) ∧
                    (0 : Int) ≤ n1 ∧
                      n1 < (↑x.len : Int) ∧
                        onP x.a fun (A : Addr) =>
                          (0 : Int) ≤ IntKind.i64.wrap (n2.tdiv (8 : Int)) ∧
                            IntKind.i64.wrap (n2.tdiv (8 : Int)) < (↑(512 : Nat) : Int) ∧
                              ∃ (x_1 : Int),
                                w'.drew.cell?
                                      ((A.add (n1.toNat * (512 : Nat))).add
                                        ((IntKind.i64.wrap (n2.tdiv (8 : Int))).toNat * (1 : Nat))) =
                                    some (Value.int IntKind.u8 x_1) ∧
                                  (0 : Int) ≤ n2.tmod (8 : Int) ∧
                                    (0 : Int) ≤ n1 ∧
                                      n1 < (↑x.len : Int) ∧
                                        onP x.a fun (A : Addr) =>
                                          (0 : Int) ≤ IntKind.i64.wrap (n2.tdiv (8 : Int)) ∧
                                            IntKind.i64.wrap (n2.tdiv (8 : Int)) < (↑(512 : Nat) : Int) ∧
                                              (w'.drew.cell?
                                                      ((A.add (n1.toNat * (512 : Nat))).add
                                                        ((IntKind.i64.wrap (n2.tdiv (8 : Int))).toNat *
                                                          (1 : Nat)))).isSome =
                                                  true ∧
                                                w'.drew.frozen?
                                                      ((A.add (n1.toNat * (512 : Nat))).add
                                                        ((IntKind.i64.wrap (n2.tdiv (8 : Int))).toNat * (1 : Nat))) =
                                                    false ∧
                                                  let w1 :=
                                                    w'.drew.setCell
                                                      ((A.add (n1.toNat * (512 : Nat))).add
                                                        ((IntKind.i64.wrap (n2.tdiv (8 : Int))).toNat * (1 : Nat)))
                                                      (Value.int IntKind.u8
                                                        (bxor IntKind.u8 x_1
                                                          (shl IntKind.u8 (1 : Int) (n2.tmod (8 : Int)))));
                                                  onP p0 fun (a : Addr) =>
                                                    ∃ (x : Int),
                                                      w1.cell? (a.add (4 : Nat)) = some (Value.int IntKind.i64 x) ∧
                                                        onP p0 fun (a : Addr) =>
                                                          (w1.cell? (a.add (4 : Nat))).isSome = true ∧
                                                            w1.frozen? (a.add (4 : Nat)) = false ∧
                                                              R (0 : Int)
                                                                (w1.setCell (a.add (4 : Nat))
                                                                  (Value.int IntKind.i64
                                                                    (IntKind.i64.wrap (x + (1 : Int)))))))
  : CallT [Ty.one (Sh.int IntKind.i64)] Try.prog 57 [Value.pointer p0, Value.int IntKind.i64 n1, Value.int IntKind.i64 n2] w R :=
  fnV_sound (h := HT.z.sq (HT.z.sq (HT.jn [] HT.z ((HT.rg (16 : Nat)).sq HT.z)))) Try.func57 (by kernel_rfl) (by kernel_rfl) (Eq.mp (by kernel_rfl) h)

/-- dunnage/dunnageref04.New -/
theorem dunnageref04_New.vc (n0 : Int) (w : World) (R : Option Addr × Int → World → Prop)
  (h : cnd (decide (n0 < (1 : Int))) (R (none, (1 : Int)) w)
      (cnd (decide (n0 > (65536 : Int))) (R (none, (1 : Int)) w)
        (mkMV Try.prog (170 : Nat) none w fun (s : Option Nat) (w' : World) =>
          R (some (Addr.mk w'.heap.size (0 : Nat) none), (0 : Int))
            (w'.alloc
              (Obj.cells
                #[Value.int IntKind.i64 n0, Value.map s, Value.slice none (0 : Nat) (0 : Nat),
                  Value.int IntKind.i64 (0 : Int), Value.bool false, Value.int IntKind.i64 (0 : Int)]
                (173 : Nat))))))
  : CallT [Ty.one Sh.ptr, Ty.one (Sh.int IntKind.i64)] Try.prog 58 [Value.int IntKind.i64 n0] w R :=
  fnV_sound (h := HT.z) Try.func58 (by kernel_rfl) (by kernel_rfl) (Eq.mp (by kernel_rfl) h)

/-- dunnage/dunnagelaw04.step -/
theorem dunnagelaw04_step.vc (p0 : Option Addr) (p1 : Option Addr) (x2 : Int × Int × Int × Int × Bool × SV) (w : World) (R : Bool → World → Prop)
  (h : let w1 :=
      w.alloc
        (Obj.cells
          #[Value.int IntKind.i64 x2.fst, Value.int IntKind.i64 x2.snd.fst, Value.int IntKind.i64 x2.snd.snd.fst,
            Value.int IntKind.u8 x2.snd.snd.snd.fst, Value.bool x2.snd.snd.snd.snd.fst,
            Value.slice x2.snd.snd.snd.snd.snd.a x2.snd.snd.snd.snd.snd.len x2.snd.snd.snd.snd.snd.cap]
          (62 : Nat));
    ∃ (x : Int),
      w1.cell? ((Addr.mk w.heap.size (0 : Nat) none).add (0 : Nat)) = some (Value.int IntKind.i64 x) ∧
        cnd (x == (1 : Int))
          (∃ (x : Int),
            w1.cell? ((Addr.mk w.heap.size (0 : Nat) none).add (1 : Nat)) = some (Value.int IntKind.i64 x) ∧
              CallT [Ty.one Sh.slice, Ty.one (Sh.int IntKind.i64)] Try.prog (44 : Nat)
                [Value.pointer p0, Value.int IntKind.i64 x] w1 fun (x : SV × Int) (w' : World) =>
                ∃ (x_1 : Int),
                  w'.cell? ((Addr.mk w.heap.size (0 : Nat) none).add (1 : Nat)) = some (Value.int IntKind.i64 x_1) ∧
                    CallT [Ty.one Sh.slice, Ty.one (Sh.int IntKind.i64)] Try.prog (123 : Nat)
                      [Value.pointer p1, Value.int IntKind.i64 x_1] w' fun (x_2 : SV × Int) (w' : World) =>
                      CallT [Ty.one Sh.bool] Try.prog (33 : Nat)
                        [Value.slice x.fst.a x.fst.len x.fst.cap, Value.slice x_2.fst.a x_2.fst.len x_2.fst.cap] w'
                        fun (x_3 : Bool) (w' : World) => cnd x_3 (R (x.snd == x_2.snd) w') (R false w'))
          (cnd (x == (2 : Int))
            (CallT [Ty.one (Sh.int IntKind.i64)] Try.prog (40 : Nat) [Value.pointer p0] w1 fun (x : Int) (w' : World) =>
              CallT [Ty.one (Sh.int IntKind.i64)] Try.prog (124 : Nat) [Value.pointer p1] w' fun (x_1 : Int) (w' : World) =>
                R (x == x_1) w')
            (cnd (x == (3 : Int))
              (∃ (S : World → Prop),
                S w1.drew ∧
                  ∃ (x : Int),
                    (∀ (w_1 : World),
                        S w_1 →
                          w_1.cell? ((Addr.mk w.heap.size (0 : Nat) none).add (2 : Nat)) = some (Value.int IntKind.i64 x)) ∧
                      ∃ (x_1 : Int),
                        (∀ (w_1 : World),
                            S w_1 →
                              w_1.cell? ((Addr.mk w.heap.size (0 : Nat) none).add (2 : Nat)) =
                                some (Value.int IntKind.i64 x_1)) ∧
                          CallT [Ty.one (Sh.int IntKind.i64)] Try.prog (39 : Nat)
                            [Value.pointer p0, Value.int IntKind.i64 x] w1.drew fun (x : Int) (w' : World) =>
                            S w' ∧
                              CallT [Ty.one (Sh.int IntKind.i64)] Try.prog (125 : Nat)
                                [Value.pointer p1, Value.int IntKind.i64 x_1] w' fun (x_2 : Int) (w' : World) =>
                                S w' ∧ R (x == x_2) w')
              (cnd (x == (4 : Int))
                (∃ (x : SV),
                  w1.cell? ((Addr.mk w.heap.size (0 : Nat) none).add (5 : Nat)) = some (Value.slice x.a x.len x.cap) ∧
                    CallT [Ty.one Sh.slice] Try.prog (126 : Nat) [Value.slice x.a x.len x.cap, Value.bool true] w1
                      fun (x : SV) (w' : World) =>
                      ∃ (S : World → Prop),
                        S w'.drew ∧
                          ∃ (x_1 : SV),
                            (∀ (w_1 : World),
                                S w_1 →
                                  w_1.cell? ((Addr.mk w.heap.size (0 : Nat) none).add (5 : Nat)) =
                                    some (Value.slice x_1.a x_1.len x_1.cap)) ∧
                              CallT [Ty.one (Sh.int IntKind.i64)] Try.prog (54 : Nat)
                                [Value.pointer p0, Value.slice x.a x.len x.cap] w'.drew fun (x_2 : Int) (w' : World) =>
                                S w' ∧
                                  CallT [Ty.one (Sh.int IntKind.i64)] Try.prog (127 : Nat)
                                    [Value.pointer p1, Value.slice x_1.a x_1.len x_1.cap] w' fun (x_3 : Int) (w' : World) =>
                                    S w' ∧
                                      cnd (x_2 == x_3)
                                        (∃ (x_4 : SV),
                                          (∀ (w_1 : World),
                                              S w_1 →
                                                w_1.cell? ((Addr.mk w.heap.size (0 : Nat) none).add (5 : Nat)) =
                                                  some (Value.slice x_4.a x_4.len x_4.cap)) ∧
                                            CallT [Ty.one Sh.bool] Try.prog (128 : Nat)
                                              [Value.slice x.a x.len x.cap, Value.slice x_4.a x_4.len x_4.cap,
                                                Value.bool true]
                                              w' fun (x : Bool) (w' : World) => S w' ∧ R x w')
                                        (S w' ∧ R false w'))
                (cnd (x == (5 : Int))
                  (CallT [Ty.one (Sh.int IntKind.i64)] Try.prog (45 : Nat) [Value.pointer p0] w1
                    fun (x : Int) (w' : World) =>
                    CallT [Ty.one (Sh.int IntKind.i64)] Try.prog (129 : Nat) [Value.pointer p1] w'
                      fun (x_1 : Int) (w' : World) => R (x == x_1) w')
                  (cnd (x == (6 : Int))
                    (∃ (S : World → Prop),
                      S w1.drew ∧
                        ∃ (x : Int),
                          (∀ (w_1 : World),
                              S w_1 →
                                w_1.cell? ((Addr.mk w.heap.size (0 : Nat) none).add (1 : Nat)) =
                                  some (Value.int IntKind.i64 x)) ∧
                            ∃ (x_1 : Int),
                              (∀ (w_1 : World),
                                  S w_1 →
                                    w_1.cell? ((Addr.mk w.heap.size (0 : Nat) none).add (2 : Nat)) =
                                      some (Value.int IntKind.i64 x_1)) ∧
                                ∃ (x_2 : Int),
                                  (∀ (w_1 : World),
                                      S w_1 →
                                        w_1.cell? ((Addr.mk w.heap.size (0 : Nat) none).add (1 : Nat)) =
                                          some (Value.int IntKind.i64 x_2)) ∧
                                    ∃ (x_3 : Int),
                                      (∀ (w_1 : World),
                                          S w_1 →
                                            w_1.cell? ((Addr.mk w.heap.size (0 : Nat) none).add (2 : Nat)) =
                                              some (Value.int IntKind.i64 x_3)) ∧
                                        CallT [Ty.one (Sh.int IntKind.i64)] Try.prog (57 : Nat)
                                          [Value.pointer p0, Value.int IntKind.i64 x, Value.int IntKind.i64 x_1] w1.drew
                                          fun (x : Int) (w' : World) =>
                                          S w' ∧
                                            CallT [Ty.one (Sh.int IntKind.i64)] Try.prog (130 : Nat)
                                              [Value.pointer p1, Value.int IntKind.i64 x_2, Value.int IntKind.i64 x_3] w'
                                              fun (x_4 : Int) (w' : World) => S w' ∧ R (x == x_4) w')
                    (∃ (x : Int),
                      w1.cell? ((Addr.mk w.heap.size (0 : Nat) none).add (3 : Nat)) = some (Value.int IntKind.u8 x) ∧
                        ∃ (x_1 : Bool),
                          w1.cell? ((Addr.mk w.heap.size (0 : Nat) none).add (4 : Nat)) = some (Value.bool x_1) ∧
                            CallT [Ty.one Sh.slice] Try.prog (42 : Nat) [Value.int IntKind.u8 x, Value.bool x_1] w1
                              fun (x : SV) (w' : World) =>
                              CallT [Ty.one Sh.slice] Try.prog (27 : Nat)
                                [Value.slice x.a x.len x.cap, Value.int IntKind.u8 (71 : Int)] w'
                                fun (x_2 : SV) (w' : World) =>
                                ∃ (x_3 : Int),
                                  w'.cell? ((Addr.mk w.heap.size (0 : Nat) none).add (1 : Nat)) =
                                      some (Value.int IntKind.i64 x_3) ∧
                                    CallT [Ty.one (Sh.int IntKind.i64)] Try.prog (41 : Nat)
                                      [Value.pointer p0, Value.int IntKind.i64 x_3, Value.slice x_2.a x_2.len x_2.cap] w'
                                      fun (x_4 : Int) (w' : World) =>
                                      CallT [Ty.one Sh.bool] Try.prog (34 : Nat)
                                        [Value.slice x_2.a x_2.len x_2.cap, Value.slice x.a x.len x.cap,
                                          Value.int IntKind.u8 (71 : Int)]
                                        w' fun (x_5 : Bool) (w' : World) =>
                                        CallT [] Try.prog (32 : Nat) [Value.slice x_2.a x_2.len x_2.cap] w'
                                          fun (x_6 : PUnit) (w' : World) =>
                                          ∃ (x_7 : Int),
                                            w'.cell? ((Addr.mk w.heap.size (0 : Nat) none).add (1 : Nat)) =
                                                some (Value.int IntKind.i64 x_7) ∧
                                              CallT [Ty.one (Sh.int IntKind.i64)] Try.prog (131 : Nat)
                                                [Value.pointer p1, Value.int IntKind.i64 x_7, Value.slice x.a x.len x.cap]
                                                w' fun (x : Int) (w' : World) =>
                                                cnd (x_4 == x) (R x_5 w') (R false w'))))))))
  : CallT [Ty.one Sh.bool] Try.prog 59 [Value.pointer p0, Value.pointer p1,
  Value.agg
    #[Value.int IntKind.i64 x2.fst, Value.int IntKind.i64 x2.snd.fst, Value.int IntKind.i64 x2.snd.snd.fst,
      Value.int IntKind.u8 x2.snd.snd.snd.fst, Value.bool x2.snd.snd.snd.snd.fst,
      Value.slice x2.snd.snd.snd.snd.snd.a x2.snd.snd.snd.snd.snd.len x2.snd.snd.snd.snd.snd.cap]] w R :=
  fnV_sound (h := HT.z.sq
  ((HT.z.sq
        (HT.z.sq
            (HT.z.cd
              (HT.z.sq
                (HT.z.cd
                  (HT.z.sq
                    (((HT.dr
                              (DT.take (0 : Nat)
                                (DT.take (1 : Nat)
                                  (DT.take (2 : Nat)
                                    (DT.take (4 : Nat)
                                      (DT.take (5 : Nat)
                                        (DT.take (6 : Nat)
                                          (DT.alt (3 : Nat)
                                            (DT.alt (7 : Nat) (DT.take (8 : Nat) (DT.take (9 : Nat) DT.fin)) DT.fin)
                                            DT.fin)))))))).sq
                          HT.z).cd
                      (HT.z.sq
                        ((HT.z.sq
                              ((HT.dr
                                    (DT.take (0 : Nat)
                                      (DT.take (1 : Nat)
                                        (DT.take (3 : Nat)
                                          (DT.take (4 : Nat)
                                            (DT.take (5 : Nat)
                                              (DT.alt (2 : Nat)
                                                (DT.alt (6 : Nat)
                                                  (DT.take (7 : Nat)
                                                    (DT.take (8 : Nat)
                                                      (DT.take (9 : Nat)
                                                        (DT.take (10 : Nat)
                                                          (DT.take (11 : Nat)
                                                            (DT.alt (12 : Nat)
                                                              (DT.take (13 : Nat) (DT.take (14 : Nat) DT.fin))
                                                              DT.fin))))))
                                                  DT.fin)
                                                DT.fin))))))).sq
                                HT.z)).cd
                          (HT.z.sq
                            (HT.z.cd
                              (HT.z.sq
                                (((HT.dr
                                          (DT.take (0 : Nat)
                                            (DT.take (1 : Nat)
                                              (DT.take (2 : Nat)
                                                (DT.take (3 : Nat)
                                                  (DT.take (4 : Nat)
                                                    (DT.take (6 : Nat)
                                                      (DT.take (7 : Nat)
                                                        (DT.take (8 : Nat)
                                                          (DT.take (9 : Nat)
                                                            (DT.take (10 : Nat)
                                                              (DT.alt (5 : Nat)
                                                                (DT.alt (11 : Nat)
                                                                  (DT.take (12 : Nat) (DT.take (13 : Nat) DT.fin))
                                                                  DT.fin)
                                                                DT.fin)))))))))))).sq
                                      HT.z).cd
                                  HT.z)))))))))))).bl).sq
    HT.z)) Try.func59 (by kernel_rfl) (by kernel_rfl) (Eq.mp (by kernel_rfl) h)

/-- dunnage/dunnagelaw04.alike -/
theorem dunnagelaw04_alike.vc (p0 : Option Addr) (p1 : Option Addr) (w : World) (R : Bool → World → Prop)
  (h : ∃ (R_1 : PUnit → World → Prop),
      (∃ (S : World → Prop),
          S w.drew ∧
            onP p1 fun (a : Addr) =>
              ∃ (x : Bool),
                (∀ (w : World), S w → w.cell? (a.add (4 : Nat)) = some (Value.bool x)) ∧
                  CallT [Ty.one Sh.bool] Try.prog (43 : Nat) [Value.pointer p0] w.drew fun (x_1 : Bool) (w' : World) =>
                    S w' ∧
                      cnd (!x_1 == x) (S w' ∧ S w' ∧ S w' ∧ R false w')
                        (onP p1 fun (a : Addr) =>
                          ∃ (x : SV),
                            (∀ (w : World), S w → w.cell? (a.add (2 : Nat)) = some (Value.slice x.a x.len x.cap)) ∧
                              CallT [Ty.one (Sh.int IntKind.i64)] Try.prog (55 : Nat) [Value.pointer p0] w'
                                fun (x_2 : Int) (w' : World) =>
                                S w' ∧
                                  cnd (x_2 != (↑x.len : Int)) (S w' ∧ S w' ∧ R false w')
                                    (onP p1 fun (a : Addr) =>
                                      ∃ (x : Int),
                                        (∀ (w : World), S w → w.cell? (a.add (5 : Nat)) = some (Value.int IntKind.i64 x)) ∧
                                          CallT [Ty.one (Sh.int IntKind.i64)] Try.prog (62 : Nat) [Value.pointer p0] w'
                                            fun (x_3 : Int) (w' : World) =>
                                            S w' ∧
                                              cnd (x_3 != x) (S w' ∧ R false w')
                                                (onP p1 fun (a : Addr) =>
                                                  ∃ (x : Int),
                                                    (∀ (w : World),
                                                        S w → w.cell? (a.add (0 : Nat)) = some (Value.int IntKind.i64 x)) ∧
                                                      CallT [Ty.one (Sh.int IntKind.i64)] Try.prog (61 : Nat)
                                                        [Value.pointer p0] w' fun (x_4 : Int) (w' : World) =>
                                                        S w' ∧ cnd (x_4 != x) (R false w') (R_1 () w'))))) ∧
        ∀ (x : PUnit) (j : Nat → Value) (w' : World),
          R_1 x w' →
            ∃ (I : Nat → Int → World → Prop),
              (∃ (n : Nat), I n (0 : Int) w') ∧
                ∀ (n : Nat) (x : Int) (j : Nat → Value) (w' : World),
                  I n x w' →
                    ∃ (R_2 : PUnit → World → Prop),
                      (onP p1 fun (a : Addr) =>
                          ∃ (x_1 : Int),
                            w'.cell? (a.add (0 : Nat)) = some (Value.int IntKind.i64 x_1) ∧
                              cnd (decide (x < x_1)) (cnd (decide (x < (8 : Int))) (R_2 () w') (R true w')) (R true w')) ∧
                        ∀ (x_1 : PUnit) (j : Nat → Value) (w' : World),
                          R_2 x_1 w' →
                            CallT [Ty.one Sh.slice, Ty.one (Sh.int IntKind.i64)] Try.prog (44 : Nat)
                              [Value.pointer p0, Value.int IntKind.i64 x] w' fun (x_2 : SV × Int) (w' : World) =>
                              CallT [Ty.one Sh.slice, Ty.one (Sh.int IntKind.i64)] Try.prog (123 : Nat)
                                [Value.pointer p1, Value.int IntKind.i64 x] w' fun (x_3 : SV × Int) (w' : World) =>
                                ∃ (R_3 : PUnit → World → Prop),
                                  (CallT [Ty.one Sh.bool] Try.prog (33 : Nat)
                                      [Value.slice x_2.fst.a x_2.fst.len x_2.fst.cap,
                                        Value.slice x_3.fst.a x_3.fst.len x_3.fst.cap]
                                      w' fun (x : Bool) (w' : World) =>
                                      cnd (!x) (R false w') (cnd (x_2.snd != x_3.snd) (R false w') (R_3 () w'))) ∧
                                    ∀ (x_4 : PUnit) (j : Nat → Value) (w' : World),
                                      R_3 x_4 w' →
                                        CallT [] Try.prog (32 : Nat) [Value.slice x_2.fst.a x_2.fst.len x_2.fst.cap] w'
                                          fun (x_5 : PUnit) (w' : World) =>
                                          ∃ (m : Nat), m < n ∧ I m (IntKind.i64.wrap (x + (1 : Int))) w')
  : CallT [Ty.one Sh.bool] Try.prog 60 [Value.pointer p0, Value.pointer p1] w R :=
  fnV_sound (h := HT.z.sq
  (HT.jn []
    ((HT.dr
          (DT.take (0 : Nat)
            (DT.take (2 : Nat)
              (DT.take (3 : Nat)
                (DT.take (4 : Nat)
                  (DT.take (5 : Nat)
                    (DT.alt (1 : Nat)
                      (DT.take (6 : Nat)
                        (DT.take (7 : Nat)
                          (DT.take (8 : Nat)
                            (DT.take (10 : Nat)
                              (DT.take (11 : Nat)
                                (DT.take (12 : Nat)
                                  (DT.take (13 : Nat)
                                    (DT.take (14 : Nat)
                                      (DT.alt (9 : Nat)
                                        (DT.take (15 : Nat)
                                          (DT.take (16 : Nat)
                                            (DT.take (17 : Nat)
                                              (DT.take (18 : Nat)
                                                (DT.take (20 : Nat)
                                                  (DT.take (21 : Nat)
                                                    (DT.take (22 : Nat)
                                                      (DT.take (23 : Nat)
                                                        (DT.alt (19 : Nat)
                                                          (DT.take (24 : Nat)
                                                            (DT.take (25 : Nat)
                                                              (DT.take (26 : Nat)
                                                                (DT.take (27 : Nat)
                                                                  (DT.take (29 : Nat)
                                                                    (DT.take (30 : Nat)
                                                                      (DT.take (31 : Nat)
                                                                        (DT.take (32 : Nat)
                                                                          (DT.alt (28 : Nat)
                                                                            (DT.take (33 : Nat)
                                                                              (DT.take (34 : Nat) DT.fin))
                                                                            DT.fin)))))))))
                                                          DT.fin)))))))))
                                        DT.fin)))))))))
                      DT.fin))))))).sq
      HT.z)
    ((HT.z.sq
          (HT.lp [((5 : Nat), Ty.one (Sh.int IntKind.i64))]
              (HT.jn [] HT.z ((HT.z.sq (HT.z.sq (HT.jn [] HT.z HT.z))).bl.sq HT.z))).bl).sq
      HT.z))) Try.func60 (by kernel_rfl) (by kernel_rfl) (Eq.mp (by kernel_rfl) h)

/-- (*dunnage/disk.Disk).Size -/
theorem disk_Disk_Size.vc (p0 : Option Addr) (w : World) (R : Int → World → Prop)
  (h : cnd p0.isNone (R (0 : Int) w)
      (onP p0 fun (a : Addr) =>
        ∃ (x : SV), w.cell? (a.add (0 : Nat)) = some (Value.slice x.a x.len x.cap) ∧ R (↑x.len : Int) w))
  : CallT [Ty.one (Sh.int IntKind.i64)] Try.prog 61 [Value.pointer p0] w R :=
  fnV_sound (h := HT.z) Try.func61 (by kernel_rfl) (by kernel_rfl) (Eq.mp (by kernel_rfl) h)

/-- (*dunnage/disk.Disk).Flips -/
theorem disk_Disk_Flips.vc (p0 : Option Addr) (w : World) (R : Int → World → Prop)
  (h : cnd p0.isNone (R (0 : Int) w)
      (onP p0 fun (a : Addr) => ∃ (x : Int), w.cell? (a.add (4 : Nat)) = some (Value.int IntKind.i64 x) ∧ R x w))
  : CallT [Ty.one (Sh.int IntKind.i64)] Try.prog 62 [Value.pointer p0] w R :=
  fnV_sound (h := HT.z) Try.func62 (by kernel_rfl) (by kernel_rfl) (Eq.mp (by kernel_rfl) h)

/-- dunnage/dunnagelaw06.read -/
theorem dunnagelaw06_read.vc (s0 : SV) (w : World) (R : SV × Bool → World → Prop)
  (h : ∃ (I : Nat → SV × Int → World → Prop),
      (∃ (n : Nat), I n (SV.mk none (0 : Nat) (0 : Nat), (0 : Int)) w) ∧
        ∀ (n : Nat) (x : SV × Int) (j : Nat → Value) (w' : World),
          I n x w' →
            let e1 := x.snd;
            cnd (decide (e1 < (↑s0.len : Int)))
              (let e1 := x.snd;
              (0 : Int) ≤ e1 ∧
                e1 < (↑s0.len : Int) ∧
                  onP s0.a fun (A : Addr) =>
                    ∃ (x_1 : SV),
                      w'.cell? (A.add (e1.toNat * (1 : Nat))) = some (Value.slice x_1.a x_1.len x_1.cap) ∧
                        CallT
                          [Ty.agg [Sh.int IntKind.u64, Sh.int IntKind.u64, Sh.int IntKind.i64, Sh.slice],
                            Ty.one (Sh.int IntKind.i64)]
                          Try.prog (48 : Nat) [Value.slice x_1.a x_1.len x_1.cap] w'
                          fun (x_2 : (Int × Int × Int × SV) × Int) (w' : World) =>
                          let w1 :=
                            w'.alloc
                              (Obj.cells
                                #[Value.int IntKind.u64 (0 : Int), Value.int IntKind.u64 (0 : Int),
                                  Value.int IntKind.i64 (0 : Int), Value.slice none (0 : Nat) (0 : Nat)]
                                (51 : Nat));
                          canSt w1 (Addr.mk w'.heap.size (0 : Nat) none) (4 : Nat) ∧
                            let w1 :=
                              setCells w1 (Addr.mk w'.heap.size (0 : Nat) none) (0 : Nat)
                                [Value.int IntKind.u64 x_2.fst.fst, Value.int IntKind.u64 x_2.fst.snd.fst,
                                  Value.int IntKind.i64 x_2.fst.snd.snd.fst,
                                  Value.slice x_2.fst.snd.snd.snd.a x_2.fst.snd.snd.snd.len x_2.fst.snd.snd.snd.cap];
                            cnd (x_2.snd != (0 : Int)) (R (SV.mk none (0 : Nat) (0 : Nat), false) w1)
                              (∃ (x_3 : Int × Int × Int × SV),
                                cellsAt w1 (Addr.mk w'.heap.size (0 : Nat) none)
                                    [Value.int IntKind.u64 x_3.fst, Value.int IntKind.u64 x_3.snd.fst,
                                      Value.int IntKind.i64 x_3.snd.snd.fst,
                                      Value.slice x_3.snd.snd.snd.a x_3.snd.snd.snd.len x_3.snd.snd.snd.cap] ∧
                                  appV Try.prog [(35 : Nat), (35 : Nat)] (35 : Nat)
                                    [Value.slice x.fst.a x.fst.len x.fst.cap,
                                      Value.slice (some (Addr.mk w1.heap.size (0 : Nat) none)) (1 : Nat) (1 : Nat)]
                                    (w1.alloc
                                      (Obj.cells
                                        #[Value.int IntKind.u64 x_3.fst, Value.int IntKind.u64 x_3.snd.fst,
                                          Value.int IntKind.i64 x_3.snd.snd.fst,
                                          Value.slice x_3.snd.snd.snd.a x_3.snd.snd.snd.len x_3.snd.snd.snd.cap]
                                        (51 : Nat)))
                                    fun (s : SV) (w' : World) =>
                                    ∃ (m : Nat), m < n ∧ I m (s, IntKind.i64.wrap (x.snd + (1 : Int))) w'))
              (R (x.fst, true) w'))
  : CallT [Ty.one Sh.slice, Ty.one Sh.bool] Try.prog 63 [Value.slice s0.a s0.len s0.cap] w R :=
  fnV_sound (h := HT.z.sq
  (HT.z.sq ((HT.z.sq (HT.lp [((4 : Nat), Ty.one Sh.slice), ((5 : Nat), Ty.one (Sh.int IntKind.i64))] HT.z).bl).sq HT.z))) Try.func63 (by kernel_rfl) (by kernel_rfl) (Eq.mp (by kernel_rfl) h)

/-- dunnage/dunnageref05.Plan -/
theorem dunnageref05_Plan.vc (n0 : Int) (w : World) (R : (Int × Int × Int × Int × Int × Int × Int × Int × Int) × Int → World → Prop)
  (h : let w1 :=
      w.alloc
        (Obj.cells
          #[Value.int IntKind.i64 (0 : Int), Value.int IntKind.i64 (0 : Int), Value.int IntKind.i64 (0 : Int),
            Value.int IntKind.i64 (0 : Int), Value.int IntKind.i64 (0 : Int), Value.int IntKind.i64 (0 : Int),
            Value.int IntKind.i64 (0 : Int), Value.int IntKind.i64 (0 : Int), Value.int IntKind.i64 (0 : Int)]
          (83 : Nat));
    ∃ (R_1 : PUnit → World → Prop),
      (∃ (R_2 : Bool → World → Prop),
          cnd (decide (n0 < (256 : Int))) (R_2 true w1) (R_2 (decide (n0 > (65536 : Int))) w1) ∧
            ∀ (x : Bool) (j : Nat → Value) (w' : World),
              R_2 x w' →
                cnd x
                  (canSt w' (Addr.mk w.heap.size (0 : Nat) none) (9 : Nat) ∧
                    let w1 :=
                      setCells w' (Addr.mk w.heap.size (0 : Nat) none) (0 : Nat)
                        [Value.int IntKind.i64 (0 : Int), Value.int IntKind.i64 (0 : Int), Value.int IntKind.i64 (0 : Int),
                          Value.int IntKind.i64 (0 : Int), Value.int IntKind.i64 (0 : Int), Value.int IntKind.i64 (0 : Int),
                          Value.int IntKind.i64 (0 : Int), Value.int IntKind.i64 (0 : Int),
                          Value.int IntKind.i64 (0 : Int)];
                    ∃ (x : Int × Int × Int × Int × Int × Int × Int × Int × Int),
                      cellsAt w1 (Addr.mk w.heap.size (0 : Nat) none)
                          [Value.int IntKind.i64 x.fst, Value.int IntKind.i64 x.snd.fst,
                            Value.int IntKind.i64 x.snd.snd.fst, Value.int IntKind.i64 x.snd.snd.snd.fst,
                            Value.int IntKind.i64 x.snd.snd.snd.snd.fst, Value.int IntKind.i64 x.snd.snd.snd.snd.snd.fst,
                            Value.int IntKind.i64 x.snd.snd.snd.snd.snd.snd.fst,
                            Value.int IntKind.i64 x.snd.snd.snd.snd.snd.snd.snd.fst,
                            Value.int IntKind.i64 x.snd.snd.snd.snd.snd.snd.snd.snd] ∧
                        R
                          ((x.fst, x.snd.fst, x.snd.snd.fst, x.snd.snd.snd.fst, x.snd.snd.snd.snd.fst,
                              x.snd.snd.snd.snd.snd.fst, x.snd.snd.snd.snd.snd.snd.fst, x.snd.snd.snd.snd.snd.snd.snd.fst,
                              x.snd.snd.snd.snd.snd.snd.snd.snd),
                            (1 : Int))
                          w1)
                  (R_1 () w')) ∧
        ∀ (x : PUnit) (j : Nat → Value) (w' : World),
          R_1 x w' →
            let w1 :=
              w'.alloc
                (Obj.cells
                  #[Value.int IntKind.i64 (0 : Int), Value.int IntKind.i64 (0 : Int), Value.int IntKind.i64 (0 : Int),
                    Value.int IntKind.i64 (0 : Int), Value.int IntKind.i64 (0 : Int), Value.int IntKind.i64 (0 : Int),
                    Value.int IntKind.i64 (0 : Int), Value.int IntKind.i64 (0 : Int), Value.int IntKind.i64 (0 : Int)]
                  (83 : Nat));
            canSt w1 (Addr.mk w'.heap.size (0 : Nat) none) (9 : Nat) ∧
              let w1 :=
                setCells w1 (Addr.mk w'.heap.size (0 : Nat) none) (0 : Nat)
                  [Value.int IntKind.i64 n0, Value.int IntKind.i64 (3 : Int), Value.int IntKind.i64 (13 : Int),
                    Value.int IntKind.i64 (IntKind.i64.wrap ((IntKind.i64.wrap (n0 - (13 : Int))).tdiv (8 : Int))),
                    Value.int IntKind.i64 (0 : Int), Value.int IntKind.i64 (0 : Int),
                    Value.int IntKind.i64 (IntKind.i64.wrap ((IntKind.i64.wrap (n0 - (13 : Int))).tdiv (8 : Int))),
                    Value.int IntKind.i64 (0 : Int), Value.int IntKind.i64 (0 : Int)];
              (0 : Int) ≤ (0 : Int) ∧
                (0 : Int) < (↑(2 : Nat) : Int) ∧
                  (w1.cell?
                          (((Addr.mk w'.heap.size (0 : Nat) none).add (4 : Nat)).add
                            (Int.toNat (0 : Int) * (1 : Nat)))).isSome =
                      true ∧
                    w1.frozen?
                          (((Addr.mk w'.heap.size (0 : Nat) none).add (4 : Nat)).add (Int.toNat (0 : Int) * (1 : Nat))) =
                        false ∧
                      let w1 :=
                        w1.setCell
                          (((Addr.mk w'.heap.size (0 : Nat) none).add (4 : Nat)).add (Int.toNat (0 : Int) * (1 : Nat)))
                          (Value.int IntKind.i64
                            (IntKind.i64.wrap
                              ((13 : Int) + IntKind.i64.wrap ((IntKind.i64.wrap (n0 - (13 : Int))).tdiv (8 : Int)))));
                      (0 : Int) ≤ (1 : Int) ∧
                        (1 : Int) < (↑(2 : Nat) : Int) ∧
                          (w1.cell?
                                  (((Addr.mk w'.heap.size (0 : Nat) none).add (4 : Nat)).add
                                    (Int.toNat (1 : Int) * (1 : Nat)))).isSome =
                              true ∧
                            w1.frozen?
                                  (((Addr.mk w'.heap.size (0 : Nat) none).add (4 : Nat)).add
                                    (Int.toNat (1 : Int) * (1 : Nat))) =
                                false ∧
                              let w1 :=
                                w1.setCell
                                  (((Addr.mk w'.heap.size (0 : Nat) none).add (4 : Nat)).add
                                    (Int.toNat (1 : Int) * (1 : Nat)))
                                  (Value.int IntKind.i64
                                    (IntKind.i64.wrap
                                      ((13 : Int) +
                                        IntKind.i64.wrap
                                          ((2 : Int) *
                                            IntKind.i64.wrap ((IntKind.i64.wrap (n0 - (13 : Int))).tdiv (8 : Int))))));
                              (w1.cell? ((Addr.mk w'.heap.size (0 : Nat) none).add (7 : Nat))).isSome = true ∧
                                w1.frozen? ((Addr.mk w'.heap.size (0 : Nat) none).add (7 : Nat)) = false ∧
                                  let w1 :=
                                    w1.setCell ((Addr.mk w'.heap.size (0 : Nat) none).add (7 : Nat))
                                      (Value.int IntKind.i64
                                        (IntKind.i64.wrap
                                          ((13 : Int) +
                                            IntKind.i64.wrap
                                              ((3 : Int) *
                                                IntKind.i64.wrap ((IntKind.i64.wrap (n0 - (13 : Int))).tdiv (8 : Int))))));
                                  ∃ (x : Int),
                                    w1.cell? ((Addr.mk w'.heap.size (0 : Nat) none).add (7 : Nat)) =
                                        some (Value.int IntKind.i64 x) ∧
                                      (w1.cell? ((Addr.mk w'.heap.size (0 : Nat) none).add (8 : Nat))).isSome = true ∧
                                        w1.frozen? ((Addr.mk w'.heap.size (0 : Nat) none).add (8 : Nat)) = false ∧
                                          let w1 :=
                                            w1.setCell ((Addr.mk w'.heap.size (0 : Nat) none).add (8 : Nat))
                                              (Value.int IntKind.i64
                                                (IntKind.i64.wrap ((IntKind.i64.wrap (n0 - x)).tdiv (32 : Int))));
                                          ∃ (x : Int × Int × Int × Int × Int × Int × Int × Int × Int),
                                            cellsAt w1 (Addr.mk w'.heap.size (0 : Nat) none)
                                                [Value.int IntKind.i64 x.fst, Value.int IntKind.i64 x.snd.fst,
                                                  Value.int IntKind.i64 x.snd.snd.fst,
                                                  Value.int IntKind.i64 x.snd.snd.snd.fst,
                                                  Value.int IntKind.i64 x.snd.snd.snd.snd.fst,
                                                  Value.int IntKind.i64 x.snd.snd.snd.snd.snd.fst,
                                                  Value.int IntKind.i64 x.snd.snd.snd.snd.snd.snd.fst,
                                                  Value.int IntKind.i64 x.snd.snd.snd.snd.snd.snd.snd.fst,
                                                  Value.int IntKind.i64 x.snd.snd.snd.snd.snd.snd.snd.snd] ∧
                                              canSt w1 (Addr.mk w.heap.size (0 : Nat) none) (9 : Nat) ∧
                                                let w1 :=
                                                  setCells w1 (Addr.mk w.heap.size (0 : Nat) none) (0 : Nat)
                                                    [Value.int IntKind.i64 x.fst, Value.int IntKind.i64 x.snd.fst,
                                                      Value.int IntKind.i64 x.snd.snd.fst,
                                                      Value.int IntKind.i64 x.snd.snd.snd.fst,
                                                      Value.int IntKind.i64 x.snd.snd.snd.snd.fst,
                                                      Value.int IntKind.i64 x.snd.snd.snd.snd.snd.fst,
                                                      Value.int IntKind.i64 x.snd.snd.snd.snd.snd.snd.fst,
                                                      Value.int IntKind.i64 x.snd.snd.snd.snd.snd.snd.snd.fst,
                                                      Value.int IntKind.i64 x.snd.snd.snd.snd.snd.snd.snd.snd];
                                                ∃ (x : Int × Int × Int × Int × Int × Int × Int × Int × Int),
                                                  cellsAt w1 (Addr.mk w.heap.size (0 : Nat) none)
                                                      [Value.int IntKind.i64 x.fst, Value.int IntKind.i64 x.snd.fst,
                                                        Value.int IntKind.i64 x.snd.snd.fst,
                                                        Value.int IntKind.i64 x.snd.snd.snd.fst,
                                                        Value.int IntKind.i64 x.snd.snd.snd.snd.fst,
                                                        Value.int IntKind.i64 x.snd.snd.snd.snd.snd.fst,
                                                        Value.int IntKind.i64 x.snd.snd.snd.snd.snd.snd.fst,
                                                        Value.int IntKind.i64 x.snd.snd.snd.snd.snd.snd.snd.fst,
                                                        Value.int IntKind.i64 x.snd.snd.snd.snd.snd.snd.snd.snd] ∧
                                                    R
                                                      ((x.fst, x.snd.fst, x.snd.snd.fst, x.snd.snd.snd.fst,
                                                          x.snd.snd.snd.snd.fst, x.snd.snd.snd.snd.snd.fst,
                                                          x.snd.snd.snd.snd.snd.snd.fst, x.snd.snd.snd.snd.snd.snd.snd.fst,
                                                          x.snd.snd.snd.snd.snd.snd.snd.snd),
                                                        (0 : Int))
                                                      w1)
  : CallT [Ty.agg
    [Sh.int IntKind.i64, Sh.int IntKind.i64, Sh.int IntKind.i64, Sh.int IntKind.i64, Sh.int IntKind.i64,
      Sh.int IntKind.i64, Sh.int IntKind.i64, Sh.int IntKind.i64, Sh.int IntKind.i64],
  Ty.one (Sh.int IntKind.i64)] Try.prog 64 [Value.int IntKind.i64 n0] w R :=
  fnV_sound (h := HT.z.sq (HT.jn [] (HT.jn [((12 : Nat), Ty.one Sh.bool)] HT.z HT.z) HT.z)) Try.func64 (by kernel_rfl) (by kernel_rfl) (Eq.mp (by kernel_rfl) h)

/-- dunnage/scrub.Look -/
theorem scrub_Look.vc (p0 : Option Addr) (x1 : Int × Int × Int × Int × Int × Int × Int × Int × Int) (w : World) (R : SV × Int → World → Prop)
  (h : let w1 :=
      w.alloc
        (Obj.cells
          #[Value.int IntKind.i64 x1.fst, Value.int IntKind.i64 x1.snd.fst, Value.int IntKind.i64 x1.snd.snd.fst,
            Value.int IntKind.i64 x1.snd.snd.snd.fst, Value.int IntKind.i64 x1.snd.snd.snd.snd.fst,
            Value.int IntKind.i64 x1.snd.snd.snd.snd.snd.fst, Value.int IntKind.i64 x1.snd.snd.snd.snd.snd.snd.fst,
            Value.int IntKind.i64 x1.snd.snd.snd.snd.snd.snd.snd.fst,
            Value.int IntKind.i64 x1.snd.snd.snd.snd.snd.snd.snd.snd]
          (83 : Nat));
    ∃ (S : World → Prop),
      S w1.drew ∧
        ∃ (x : Int × Int × Int × Int × Int × Int × Int × Int × Int),
          (∀ (w_1 : World),
              S w_1 →
                cellsAt w_1 (Addr.mk w.heap.size (0 : Nat) none)
                  [Value.int IntKind.i64 x.fst, Value.int IntKind.i64 x.snd.fst, Value.int IntKind.i64 x.snd.snd.fst,
                    Value.int IntKind.i64 x.snd.snd.snd.fst, Value.int IntKind.i64 x.snd.snd.snd.snd.fst,
                    Value.int IntKind.i64 x.snd.snd.snd.snd.snd.fst, Value.int IntKind.i64 x.snd.snd.snd.snd.snd.snd.fst,
                    Value.int IntKind.i64 x.snd.snd.snd.snd.snd.snd.snd.fst,
                    Value.int IntKind.i64 x.snd.snd.snd.snd.snd.snd.snd.snd]) ∧
            CallT [Ty.one (Sh.int IntKind.i64)] Try.prog (61 : Nat) [Value.pointer p0] w1.drew
              fun (x_1 : Int) (w' : World) =>
              S w' ∧
                CallT [Ty.one Sh.slice, Ty.one (Sh.int IntKind.i64)] Try.prog (66 : Nat)
                  [Value.pointer p0,
                    Value.agg
                      #[Value.int IntKind.i64 x.fst, Value.int IntKind.i64 x.snd.fst, Value.int IntKind.i64 x.snd.snd.fst,
                        Value.int IntKind.i64 x.snd.snd.snd.fst, Value.int IntKind.i64 x.snd.snd.snd.snd.fst,
                        Value.int IntKind.i64 x.snd.snd.snd.snd.snd.fst,
                        Value.int IntKind.i64 x.snd.snd.snd.snd.snd.snd.fst,
                        Value.int IntKind.i64 x.snd.snd.snd.snd.snd.snd.snd.fst,
                        Value.int IntKind.i64 x.snd.snd.snd.snd.snd.snd.snd.snd],
                    Value.int IntKind.i64 (0 : Int), Value.int IntKind.i64 x_1]
                  w' fun (x : SV × Int) (w' : World) => R (x.fst, x.snd) w')
  : CallT [Ty.one Sh.slice, Ty.one (Sh.int IntKind.i64)] Try.prog 65 [Value.pointer p0,
  Value.agg
    #[Value.int IntKind.i64 x1.fst, Value.int IntKind.i64 x1.snd.fst, Value.int IntKind.i64 x1.snd.snd.fst,
      Value.int IntKind.i64 x1.snd.snd.snd.fst, Value.int IntKind.i64 x1.snd.snd.snd.snd.fst,
      Value.int IntKind.i64 x1.snd.snd.snd.snd.snd.fst, Value.int IntKind.i64 x1.snd.snd.snd.snd.snd.snd.fst,
      Value.int IntKind.i64 x1.snd.snd.snd.snd.snd.snd.snd.fst,
      Value.int IntKind.i64 x1.snd.snd.snd.snd.snd.snd.snd.snd]] w R :=
  fnV_sound (h := HT.z.sq
  ((HT.dr
        (DT.take (0 : Nat)
          (DT.take (1 : Nat)
            (DT.take (2 : Nat)
              (DT.alt (3 : Nat)
                (DT.alt (4 : Nat) (DT.take (5 : Nat) (DT.take (6 : Nat) (DT.take (7 : Nat) (DT.take (8 : Nat) DT.fin))))
                  DT.fin)
                DT.fin))))).sq
    HT.z)) Try.func65 (by kernel_rfl) (by kernel_rfl) (Eq.mp (by kernel_rfl) h)

/-- dunnage/scrub.Part -/
theorem scrub_Part.vc (p0 : Option Addr) (x1 : Int × Int × Int × Int × Int × Int × Int × Int × Int) (n2 : Int) (n3 : Int) (w : World) (R : SV × Int → World → Prop)
  (h : let w1 :=
      w.alloc
        (Obj.cells
          #[Value.int IntKind.i64 x1.fst, Value.int IntKind.i64 x1.snd.fst, Value.int IntKind.i64 x1.snd.snd.fst,
            Value.int IntKind.i64 x1.snd.snd.snd.fst, Value.int IntKind.i64 x1.snd.snd.snd.snd.fst,
            Value.int IntKind.i64 x1.snd.snd.snd.snd.snd.fst, Value.int IntKind.i64 x1.snd.snd.snd.snd.snd.snd.fst,
            Value.int IntKind.i64 x1.snd.snd.snd.snd.snd.snd.snd.fst,
            Value.int IntKind.i64 x1.snd.snd.snd.snd.snd.snd.snd.snd]
          (83 : Nat));
    cnd p0.isNone (R (SV.mk none (0 : Nat) (0 : Nat), (2 : Int)) w1)
      (∃ (R_1 : PUnit → World → Prop),
        (CallT [Ty.one (Sh.int IntKind.i64)] Try.prog (61 : Nat) [Value.pointer p0] w1 fun (x : Int) (w' : World) =>
            CallT
              [Ty.agg
                  [Sh.int IntKind.i64, Sh.int IntKind.i64, Sh.int IntKind.i64, Sh.int IntKind.i64, Sh.int IntKind.i64,
                    Sh.int IntKind.i64, Sh.int IntKind.i64, Sh.int IntKind.i64, Sh.int IntKind.i64],
                Ty.one (Sh.int IntKind.i64)]
              Try.prog (132 : Nat) [Value.int IntKind.i64 x] w'
              fun (x : (Int × Int × Int × Int × Int × Int × Int × Int × Int) × Int) (w' : World) =>
              let w1 :=
                w'.alloc
                  (Obj.cells
                    #[Value.int IntKind.i64 (0 : Int), Value.int IntKind.i64 (0 : Int), Value.int IntKind.i64 (0 : Int),
                      Value.int IntKind.i64 (0 : Int), Value.int IntKind.i64 (0 : Int), Value.int IntKind.i64 (0 : Int),
                      Value.int IntKind.i64 (0 : Int), Value.int IntKind.i64 (0 : Int), Value.int IntKind.i64 (0 : Int)]
                    (83 : Nat));
              canSt w1 (Addr.mk w'.heap.size (0 : Nat) none) (9 : Nat) ∧
                let w1 :=
                  setCells w1 (Addr.mk w'.heap.size (0 : Nat) none) (0 : Nat)
                    [Value.int IntKind.i64 x.fst.fst, Value.int IntKind.i64 x.fst.snd.fst,
                      Value.int IntKind.i64 x.fst.snd.snd.fst, Value.int IntKind.i64 x.fst.snd.snd.snd.fst,
                      Value.int IntKind.i64 x.fst.snd.snd.snd.snd.fst, Value.int IntKind.i64 x.fst.snd.snd.snd.snd.snd.fst,
                      Value.int IntKind.i64 x.fst.snd.snd.snd.snd.snd.snd.fst,
                      Value.int IntKind.i64 x.fst.snd.snd.snd.snd.snd.snd.snd.fst,
                      Value.int IntKind.i64 x.fst.snd.snd.snd.snd.snd.snd.snd.snd];
                cnd (x.snd != (0 : Int)) (R (SV.mk none (0 : Nat) (0 : Nat), (1 : Int)) w1)
                  (∃ (x : Int × Int × Int × Int × Int × Int × Int × Int × Int),
                    cellsAt w1 (Addr.mk w'.heap.size (0 : Nat) none)
                        [Value.int IntKind.i64 x.fst, Value.int IntKind.i64 x.snd.fst, Value.int IntKind.i64 x.snd.snd.fst,
                          Value.int IntKind.i64 x.snd.snd.snd.fst, Value.int IntKind.i64 x.snd.snd.snd.snd.fst,
                          Value.int IntKind.i64 x.snd.snd.snd.snd.snd.fst,
                          Value.int IntKind.i64 x.snd.snd.snd.snd.snd.snd.fst,
                          Value.int IntKind.i64 x.snd.snd.snd.snd.snd.snd.snd.fst,
                          Value.int IntKind.i64 x.snd.snd.snd.snd.snd.snd.snd.snd] ∧
                      ∃ (x_1 : Int × Int × Int × Int × Int × Int × Int × Int × Int),
                        cellsAt w1 (Addr.mk w.heap.size (0 : Nat) none)
                            [Value.int IntKind.i64 x_1.fst, Value.int IntKind.i64 x_1.snd.fst,
                              Value.int IntKind.i64 x_1.snd.snd.fst, Value.int IntKind.i64 x_1.snd.snd.snd.fst,
                              Value.int IntKind.i64 x_1.snd.snd.snd.snd.fst,
                              Value.int IntKind.i64 x_1.snd.snd.snd.snd.snd.fst,
                              Value.int IntKind.i64 x_1.snd.snd.snd.snd.snd.snd.fst,
                              Value.int IntKind.i64 x_1.snd.snd.snd.snd.snd.snd.snd.fst,
                              Value.int IntKind.i64 x_1.snd.snd.snd.snd.snd.snd.snd.snd] ∧
                          cnd
                            (!(x.fst == x_1.fst &&
                                (x.snd.fst == x_1.snd.fst &&
                                  (x.snd.snd.fst == x_1.snd.snd.fst &&
                                    (x.snd.snd.snd.fst == x_1.snd.snd.snd.fst &&
                                      (x.snd.snd.snd.snd.fst == x_1.snd.snd.snd.snd.fst &&
                                          (x.snd.snd.snd.snd.snd.fst == x_1.snd.snd.snd.snd.snd.fst && true) &&
                                        (x.snd.snd.snd.snd.snd.snd.fst == x_1.snd.snd.snd.snd.snd.snd.fst &&
                                          (x.snd.snd.snd.snd.snd.snd.snd.fst == x_1.snd.snd.snd.snd.snd.snd.snd.fst &&
                                            (x.snd.snd.snd.snd.snd.snd.snd.snd == x_1.snd.snd.snd.snd.snd.snd.snd.snd &&
                                              true)))))))))
                            (R (SV.mk none (0 : Nat) (0 : Nat), (1 : Int)) w1) (R_1 () w1))) ∧
          ∀ (x : PUnit) (j : Nat → Value) (w' : World),
            R_1 x w' →
              CallT [Ty.one Sh.bool] Try.prog (43 : Nat) [Value.pointer p0] w' fun (x : Bool) (w' : World) =>
                cnd x (R (SV.mk none (0 : Nat) (0 : Nat), (40 : Int)) w')
                  (∃ (R_2 : PUnit → World → Prop),
                    cnd (decide (n2 < (0 : Int))) (R (SV.mk none (0 : Nat) (0 : Nat), (1 : Int)) w')
                        (cnd (decide (n3 < (0 : Int))) (R (SV.mk none (0 : Nat) (0 : Nat), (1 : Int)) w')
                          (∃ (x : Int),
                            w'.cell? ((Addr.mk w.heap.size (0 : Nat) none).add (0 : Nat)) = some (Value.int IntKind.i64 x) ∧
                              cnd (decide (n2 > x)) (R (SV.mk none (0 : Nat) (0 : Nat), (1 : Int)) w')
                                (∃ (x : Int),
                                  w'.cell? ((Addr.mk w.heap.size (0 : Nat) none).add (0 : Nat)) =
                                      some (Value.int IntKind.i64 x) ∧
                                    cnd (decide (n3 > IntKind.i64.wrap (x - n2)))
                                      (R (SV.mk none (0 : Nat) (0 : Nat), (1 : Int)) w') (R_2 () w')))) ∧
                      ∀ (x : PUnit) (j : Nat → Value) (w' : World),
                        R_2 x w' →
                          ∃ (I : Nat → SV × Int → World → Prop),
                            (∃ (n : Nat), I n (SV.mk none (0 : Nat) (0 : Nat), (0 : Int)) w') ∧
                              ∀ (n : Nat) (x : SV × Int) (j : Nat → Value) (w' : World),
                                I n x w' →
                                  cnd (decide (x.snd < n3))
                                    (let e1 := x.snd;
                                    CallT [Ty.one Sh.slice, Ty.one (Sh.int IntKind.i64)] Try.prog (44 : Nat)
                                      [Value.pointer p0, Value.int IntKind.i64 (IntKind.i64.wrap (n2 + e1))] w'
                                      fun (x_1 : SV × Int) (w' : World) =>
                                      cnd (x_1.snd != (0 : Int)) (R (SV.mk none (0 : Nat) (0 : Nat), x_1.snd) w')
                                        (CallT [Ty.one Sh.bool] Try.prog (133 : Nat)
                                          [Value.slice x_1.fst.a x_1.fst.len x_1.fst.cap] w'
                                          fun (x_2 : Bool) (w' : World) =>
                                          cnd (!x_2)
                                            (∃ (x_3 : Int × Int × Int × Int × Int × Int × Int × Int × Int),
                                              cellsAt w' (Addr.mk w.heap.size (0 : Nat) none)
                                                  [Value.int IntKind.i64 x_3.fst, Value.int IntKind.i64 x_3.snd.fst,
                                                    Value.int IntKind.i64 x_3.snd.snd.fst,
                                                    Value.int IntKind.i64 x_3.snd.snd.snd.fst,
                                                    Value.int IntKind.i64 x_3.snd.snd.snd.snd.fst,
                                                    Value.int IntKind.i64 x_3.snd.snd.snd.snd.snd.fst,
                                                    Value.int IntKind.i64 x_3.snd.snd.snd.snd.snd.snd.fst,
                                                    Value.int IntKind.i64 x_3.snd.snd.snd.snd.snd.snd.snd.fst,
                                                    Value.int IntKind.i64 x_3.snd.snd.snd.snd.snd.snd.snd.snd] ∧
                                                CallT [Ty.one (Sh.int IntKind.i64)] Try.prog (134 : Nat)
                                                  [Value.agg
                                                      #[Value.int IntKind.i64 x_3.fst, Value.int IntKind.i64 x_3.snd.fst,
                                                        Value.int IntKind.i64 x_3.snd.snd.fst,
                                                        Value.int IntKind.i64 x_3.snd.snd.snd.fst,
                                                        Value.int IntKind.i64 x_3.snd.snd.snd.snd.fst,
                                                        Value.int IntKind.i64 x_3.snd.snd.snd.snd.snd.fst,
                                                        Value.int IntKind.i64 x_3.snd.snd.snd.snd.snd.snd.fst,
                                                        Value.int IntKind.i64 x_3.snd.snd.snd.snd.snd.snd.snd.fst,
                                                        Value.int IntKind.i64 x_3.snd.snd.snd.snd.snd.snd.snd.snd],
                                                    Value.int IntKind.i64 (IntKind.i64.wrap (n2 + e1))]
                                                  w' fun (x_4 : Int) (w' : World) =>
                                                  appV Try.prog [(86 : Nat), (86 : Nat)] (86 : Nat)
                                                    [Value.slice x.fst.a x.fst.len x.fst.cap,
                                                      Value.slice (some (Addr.mk w'.heap.size (0 : Nat) none)) (1 : Nat)
                                                        (1 : Nat)]
                                                    (w'.alloc
                                                      (Obj.cells
                                                        #[Value.int IntKind.i64 (IntKind.i64.wrap (n2 + e1)),
                                                          Value.int IntKind.i64 x_4]
                                                        (111 : Nat)))
                                                    fun (s : SV) (w' : World) =>
                                                    ∃ (m : Nat), m < n ∧ I m (s, IntKind.i64.wrap (x.snd + (1 : Int))) w')
                                            (∃ (m : Nat), m < n ∧ I m (x.fst, IntKind.i64.wrap (x.snd + (1 : Int))) w')))
                                    (R (x.fst, (0 : Int)) w'))))
  : CallT [Ty.one Sh.slice, Ty.one (Sh.int IntKind.i64)] Try.prog 66 [Value.pointer p0,
  Value.agg
    #[Value.int IntKind.i64 x1.fst, Value.int IntKind.i64 x1.snd.fst, Value.int IntKind.i64 x1.snd.snd.fst,
      Value.int IntKind.i64 x1.snd.snd.snd.fst, Value.int IntKind.i64 x1.snd.snd.snd.snd.fst,
      Value.int IntKind.i64 x1.snd.snd.snd.snd.snd.fst, Value.int IntKind.i64 x1.snd.snd.snd.snd.snd.snd.fst,
      Value.int IntKind.i64 x1.snd.snd.snd.snd.snd.snd.snd.fst,
      Value.int IntKind.i64 x1.snd.snd.snd.snd.snd.snd.snd.snd],
  Value.int IntKind.i64 n2, Value.int IntKind.i64 n3] w R :=
  fnV_sound (h := HT.z.sq
  (HT.z.sq
    (HT.jn [] HT.z
      (HT.z.sq
        (HT.jn [] HT.z
          (HT.z.sq
            ((HT.z.sq (HT.lp [((12 : Nat), Ty.one Sh.slice), ((54 : Nat), Ty.one (Sh.int IntKind.i64))] HT.z).bl).sq
              HT.z))))))) Try.func66 (by kernel_rfl) (by kernel_rfl) (Eq.mp (by kernel_rfl) h)

/-- dunnage/dunnagelaw29.awake -/
theorem dunnagelaw29_awake.vc (w : World) (R : Bool → World → Prop)
  (h : CallT [Ty.one Sh.ptr, Ty.one (Sh.int IntKind.i64)] Try.prog (37 : Nat) [Value.int IntKind.i64 (256 : Int)] w
      fun (x : Option Addr × Int) (w' : World) =>
      CallT
        [Ty.agg
            [Sh.int IntKind.i64, Sh.int IntKind.i64, Sh.int IntKind.i64, Sh.int IntKind.i64, Sh.int IntKind.i64,
              Sh.int IntKind.i64, Sh.int IntKind.i64, Sh.int IntKind.i64, Sh.int IntKind.i64],
          Ty.one (Sh.int IntKind.i64)]
        Try.prog (64 : Nat) [Value.int IntKind.i64 (256 : Int)] w'
        fun (x_1 : (Int × Int × Int × Int × Int × Int × Int × Int × Int) × Int) (w' : World) =>
        let w1 :=
          w'.alloc
            (Obj.cells
              #[Value.int IntKind.i64 (0 : Int), Value.int IntKind.i64 (0 : Int), Value.int IntKind.i64 (0 : Int),
                Value.int IntKind.i64 (0 : Int), Value.int IntKind.i64 (0 : Int), Value.int IntKind.i64 (0 : Int),
                Value.int IntKind.i64 (0 : Int), Value.int IntKind.i64 (0 : Int), Value.int IntKind.i64 (0 : Int)]
              (83 : Nat));
        canSt w1 (Addr.mk w'.heap.size (0 : Nat) none) (9 : Nat) ∧
          let w1 :=
            setCells w1 (Addr.mk w'.heap.size (0 : Nat) none) (0 : Nat)
              [Value.int IntKind.i64 x_1.fst.fst, Value.int IntKind.i64 x_1.fst.snd.fst,
                Value.int IntKind.i64 x_1.fst.snd.snd.fst, Value.int IntKind.i64 x_1.fst.snd.snd.snd.fst,
                Value.int IntKind.i64 x_1.fst.snd.snd.snd.snd.fst, Value.int IntKind.i64 x_1.fst.snd.snd.snd.snd.snd.fst,
                Value.int IntKind.i64 x_1.fst.snd.snd.snd.snd.snd.snd.fst,
                Value.int IntKind.i64 x_1.fst.snd.snd.snd.snd.snd.snd.snd.fst,
                Value.int IntKind.i64 x_1.fst.snd.snd.snd.snd.snd.snd.snd.snd];
          ∃ (R_1 : PUnit → World → Prop),
            cnd (Option.isNone x.fst) (R false w1)
                (CallT [Ty.one (Sh.int IntKind.i64)] Try.prog (57 : Nat)
                  [Value.pointer x.fst, Value.int IntKind.i64 (104 : Int), Value.int IntKind.i64 (3 : Int)] w1
                  fun (x : Int) (w' : World) => cnd (x != (0 : Int)) (R false w') (R_1 () w')) ∧
              ∀ (x_2 : PUnit) (j : Nat → Value) (w'_1 : World),
                R_1 x_2 w'_1 →
                  ∃ (x_3 : Int × Int × Int × Int × Int × Int × Int × Int × Int),
                    cellsAt w'_1 (Addr.mk w'.heap.size (0 : Nat) none)
                        [Value.int IntKind.i64 x_3.fst, Value.int IntKind.i64 x_3.snd.fst,
                          Value.int IntKind.i64 x_3.snd.snd.fst, Value.int IntKind.i64 x_3.snd.snd.snd.fst,
                          Value.int IntKind.i64 x_3.snd.snd.snd.snd.fst, Value.int IntKind.i64 x_3.snd.snd.snd.snd.snd.fst,
                          Value.int IntKind.i64 x_3.snd.snd.snd.snd.snd.snd.fst,
                          Value.int IntKind.i64 x_3.snd.snd.snd.snd.snd.snd.snd.fst,
                          Value.int IntKind.i64 x_3.snd.snd.snd.snd.snd.snd.snd.snd] ∧
                      CallT [Ty.one Sh.slice, Ty.one (Sh.int IntKind.i64)] Try.prog (65 : Nat)
                        [Value.pointer x.fst,
                          Value.agg
                            #[Value.int IntKind.i64 x_3.fst, Value.int IntKind.i64 x_3.snd.fst,
                              Value.int IntKind.i64 x_3.snd.snd.fst, Value.int IntKind.i64 x_3.snd.snd.snd.fst,
                              Value.int IntKind.i64 x_3.snd.snd.snd.snd.fst,
                              Value.int IntKind.i64 x_3.snd.snd.snd.snd.snd.fst,
                              Value.int IntKind.i64 x_3.snd.snd.snd.snd.snd.snd.fst,
                              Value.int IntKind.i64 x_3.snd.snd.snd.snd.snd.snd.snd.fst,
                              Value.int IntKind.i64 x_3.snd.snd.snd.snd.snd.snd.snd.snd]]
                        w'_1 fun (x : SV × Int) (w' : World) =>
                        cnd (x.snd == (0 : Int))
                          (cnd ((↑x.fst.len : Int) == (1 : Int))
                            ((0 : Int) ≤ (0 : Int) ∧
                              (0 : Int) < (↑x.fst.len : Int) ∧
                                onP x.fst.a fun (A : Addr) =>
                                  ∃ (x : Int × Int),
                                    cellsAt w' (A.add (Int.toNat (0 : Int) * (2 : Nat)))
                                        [Value.int IntKind.i64 x.fst, Value.int IntKind.i64 x.snd] ∧
                                      R (x.fst == (104 : Int) && (x.snd == (7 : Int) && true)) w')
                            (R false w'))
                          (R false w'))
  : CallT [Ty.one Sh.bool] Try.prog 67 [] w R :=
  fnV_sound (h := HT.z.sq (HT.z.sq (HT.z.sq (HT.jn [] HT.z HT.z)))) Try.func67 (by kernel_rfl) (by kernel_rfl) (Eq.mp (by kernel_rfl) h)

/-- dunnage/manifest.Write -/
theorem manifest_Write.vc (x0 : Int × Int × Int × Int × Int × Int × Int × Int × Int) (w : World) (R : SV × Int → World → Prop)
  (h : let w1 :=
      w.alloc
        (Obj.cells
          #[Value.int IntKind.u64 x0.fst, Value.int IntKind.u64 x0.snd.fst, Value.int IntKind.i64 x0.snd.snd.fst,
            Value.int IntKind.i64 x0.snd.snd.snd.fst, Value.int IntKind.u64 x0.snd.snd.snd.snd.fst,
            Value.int IntKind.u64 x0.snd.snd.snd.snd.snd.fst, Value.int IntKind.u64 x0.snd.snd.snd.snd.snd.snd.fst,
            Value.int IntKind.u64 x0.snd.snd.snd.snd.snd.snd.snd.fst,
            Value.int IntKind.u64 x0.snd.snd.snd.snd.snd.snd.snd.snd]
          (92 : Nat));
    ∃ (x : Int × Int × Int × Int × Int × Int × Int × Int × Int),
      cellsAt w1 (Addr.mk w.heap.size (0 : Nat) none)
          [Value.int IntKind.u64 x.fst, Value.int IntKind.u64 x.snd.fst, Value.int IntKind.i64 x.snd.snd.fst,
            Value.int IntKind.i64 x.snd.snd.snd.fst, Value.int IntKind.u64 x.snd.snd.snd.snd.fst,
            Value.int IntKind.u64 x.snd.snd.snd.snd.snd.fst, Value.int IntKind.u64 x.snd.snd.snd.snd.snd.snd.fst,
            Value.int IntKind.u64 x.snd.snd.snd.snd.snd.snd.snd.fst,
            Value.int IntKind.u64 x.snd.snd.snd.snd.snd.snd.snd.snd] ∧
        CallT [Ty.one Sh.bool] Try.prog (70 : Nat)
          [Value.agg
              #[Value.int IntKind.u64 x.fst, Value.int IntKind.u64 x.snd.fst, Value.int IntKind.i64 x.snd.snd.fst,
                Value.int IntKind.i64 x.snd.snd.snd.fst, Value.int IntKind.u64 x.snd.snd.snd.snd.fst,
                Value.int IntKind.u64 x.snd.snd.snd.snd.snd.fst, Value.int IntKind.u64 x.snd.snd.snd.snd.snd.snd.fst,
                Value.int IntKind.u64 x.snd.snd.snd.snd.snd.snd.snd.fst,
                Value.int IntKind.u64 x.snd.snd.snd.snd.snd.snd.snd.snd]]
          w1 fun (x : Bool) (w' : World) =>
          cnd (!x) (R (SV.mk none (0 : Nat) (0 : Nat), (11 : Int)) w')
            (let w1 := w'.alloc (Obj.cells #[Value.slice none (0 : Nat) (0 : Nat)] (179 : Nat));
            ∃ (x : Int × Int × Int × Int × Int × Int × Int × Int × Int),
              cellsAt w1 (Addr.mk w.heap.size (0 : Nat) none)
                  [Value.int IntKind.u64 x.fst, Value.int IntKind.u64 x.snd.fst, Value.int IntKind.i64 x.snd.snd.fst,
                    Value.int IntKind.i64 x.snd.snd.snd.fst, Value.int IntKind.u64 x.snd.snd.snd.snd.fst,
                    Value.int IntKind.u64 x.snd.snd.snd.snd.snd.fst, Value.int IntKind.u64 x.snd.snd.snd.snd.snd.snd.fst,
                    Value.int IntKind.u64 x.snd.snd.snd.snd.snd.snd.snd.fst,
                    Value.int IntKind.u64 x.snd.snd.snd.snd.snd.snd.snd.snd] ∧
                CallT [] Try.prog (135 : Nat)
                  [Value.agg
                      #[Value.int IntKind.u64 x.fst, Value.int IntKind.u64 x.snd.fst, Value.int IntKind.i64 x.snd.snd.fst,
                        Value.int IntKind.i64 x.snd.snd.snd.fst, Value.int IntKind.u64 x.snd.snd.snd.snd.fst,
                        Value.int IntKind.u64 x.snd.snd.snd.snd.snd.fst,
                        Value.int IntKind.u64 x.snd.snd.snd.snd.snd.snd.fst,
                        Value.int IntKind.u64 x.snd.snd.snd.snd.snd.snd.snd.fst,
                        Value.int IntKind.u64 x.snd.snd.snd.snd.snd.snd.snd.snd],
                    Value.func (Fn.func (136 : Nat)) #[Value.pointer (some (Addr.mk w'.heap.size (0 : Nat) none))] #[]]
                  w1 fun (x : PUnit) (w'_1 : World) =>
                  ∃ (S : World → Prop),
                    S w'_1.drew ∧
                      ∃ (x : Int),
                        (∀ (w_1 : World),
                            S w_1 →
                              w_1.cell? ((Addr.mk w.heap.size (0 : Nat) none).add (0 : Nat)) =
                                some (Value.int IntKind.u64 x)) ∧
                          ∃ (x_1 : SV),
                            (∀ (w : World),
                                S w →
                                  w.cell? ((Addr.mk w'.heap.size (0 : Nat) none).add (0 : Nat)) =
                                    some (Value.slice x_1.a x_1.len x_1.cap)) ∧
                              CallT [Ty.one Sh.slice, Ty.one (Sh.int IntKind.i64)] Try.prog (137 : Nat)
                                [Value.int IntKind.u8 (23 : Int), Value.int IntKind.u64 x,
                                  Value.slice x_1.a x_1.len x_1.cap]
                                w'_1.drew fun (x : SV × Int) (w' : World) => R (x.fst, x.snd) w'))
  : CallT [Ty.one Sh.slice, Ty.one (Sh.int IntKind.i64)] Try.prog 68 [Value.agg
    #[Value.int IntKind.u64 x0.fst, Value.int IntKind.u64 x0.snd.fst, Value.int IntKind.i64 x0.snd.snd.fst,
      Value.int IntKind.i64 x0.snd.snd.snd.fst, Value.int IntKind.u64 x0.snd.snd.snd.snd.fst,
      Value.int IntKind.u64 x0.snd.snd.snd.snd.snd.fst, Value.int IntKind.u64 x0.snd.snd.snd.snd.snd.snd.fst,
      Value.int IntKind.u64 x0.snd.snd.snd.snd.snd.snd.snd.fst,
      Value.int IntKind.u64 x0.snd.snd.snd.snd.snd.snd.snd.snd]] w R :=
  fnV_sound (h := HT.z.sq
  (HT.z.sq
    (HT.z.sq
      (HT.z.sq
        ((HT.dr
              (DT.take (0 : Nat)
                (DT.take (1 : Nat)
                  (DT.take (2 : Nat)
                    (DT.take (3 : Nat)
                      (DT.take (4 : Nat)
                        (DT.take (5 : Nat)
                          (DT.alt (6 : Nat)
                            (DT.take (7 : Nat) (DT.take (8 : Nat) (DT.take (9 : Nat) (DT.take (10 : Nat) DT.fin))))
                            DT.fin)))))))).sq
          HT.z))))) Try.func68 (by kernel_rfl) (by kernel_rfl) (Eq.mp (by kernel_rfl) h)

/-- dunnage/dunnagelaw27.awake -/
theorem dunnagelaw27_awake.vc (w : World) (R : Bool → World → Prop)
  (h : CallT [Ty.one Sh.slice, Ty.one (Sh.int IntKind.i64)] Try.prog (68 : Nat)
      [Value.agg
          #[Value.int IntKind.u64 (1 : Int), Value.int IntKind.u64 (0 : Int), Value.int IntKind.i64 (0 : Int),
            Value.int IntKind.i64 (0 : Int), Value.int IntKind.u64 (0 : Int), Value.int IntKind.u64 (0 : Int),
            Value.int IntKind.u64 (0 : Int), Value.int IntKind.u64 (0 : Int), Value.int IntKind.u64 (1 : Int)]]
      w fun (x : SV × Int) (w' : World) =>
      cnd (x.snd == (0 : Int))
        (cnd ((↑x.fst.len : Int) == (512 : Int))
          (CallT [Ty.one Sh.bool] Try.prog (70 : Nat)
            [Value.agg
                #[Value.int IntKind.u64 (0 : Int), Value.int IntKind.u64 (0 : Int), Value.int IntKind.i64 (0 : Int),
                  Value.int IntKind.i64 (0 : Int), Value.int IntKind.u64 (0 : Int), Value.int IntKind.u64 (0 : Int),
                  Value.int IntKind.u64 (0 : Int), Value.int IntKind.u64 (0 : Int), Value.int IntKind.u64 (0 : Int)]]
            w' fun (x : Bool) (w' : World) => R (!x) w')
          (R false w'))
        (R false w'))
  : CallT [Ty.one Sh.bool] Try.prog 69 [] w R :=
  fnV_sound (h := HT.z) Try.func69 (by kernel_rfl) (by kernel_rfl) (Eq.mp (by kernel_rfl) h)

/-- dunnage/manifest.May -/
theorem manifest_May.vc (x0 : Int × Int × Int × Int × Int × Int × Int × Int × Int) (w : World) (R : Bool → World → Prop)
  (h : let w1 :=
      w.alloc
        (Obj.cells
          #[Value.int IntKind.u64 x0.fst, Value.int IntKind.u64 x0.snd.fst, Value.int IntKind.i64 x0.snd.snd.fst,
            Value.int IntKind.i64 x0.snd.snd.snd.fst, Value.int IntKind.u64 x0.snd.snd.snd.snd.fst,
            Value.int IntKind.u64 x0.snd.snd.snd.snd.snd.fst, Value.int IntKind.u64 x0.snd.snd.snd.snd.snd.snd.fst,
            Value.int IntKind.u64 x0.snd.snd.snd.snd.snd.snd.snd.fst,
            Value.int IntKind.u64 x0.snd.snd.snd.snd.snd.snd.snd.snd]
          (92 : Nat));
    ∃ (R_1 : PUnit → World → Prop),
      (∃ (x : Int),
          w1.cell? ((Addr.mk w.heap.size (0 : Nat) none).add (0 : Nat)) = some (Value.int IntKind.u64 x) ∧
            cnd (decide (x < (1 : Int))) (R false w1)
              (∃ (x : Int),
                w1.cell? ((Addr.mk w.heap.size (0 : Nat) none).add (0 : Nat)) = some (Value.int IntKind.u64 x) ∧
                  cnd (decide (x > (4611686018427387904 : Int))) (R false w1)
                    (∃ (x : Int),
                      w1.cell? ((Addr.mk w.heap.size (0 : Nat) none).add (2 : Nat)) = some (Value.int IntKind.i64 x) ∧
                        cnd (decide (x < (0 : Int))) (R false w1)
                          (∃ (x : Int),
                            w1.cell? ((Addr.mk w.heap.size (0 : Nat) none).add (2 : Nat)) = some (Value.int IntKind.i64 x) ∧
                              cnd (decide (x > (1 : Int))) (R false w1)
                                (∃ (x : Int),
                                  w1.cell? ((Addr.mk w.heap.size (0 : Nat) none).add (3 : Nat)) =
                                      some (Value.int IntKind.i64 x) ∧
                                    cnd (decide (x < (0 : Int))) (R false w1)
                                      (∃ (x : Int),
                                        w1.cell? ((Addr.mk w.heap.size (0 : Nat) none).add (3 : Nat)) =
                                            some (Value.int IntKind.i64 x) ∧
                                          cnd (decide (x > (65536 : Int))) (R false w1) (R_1 () w1))))))) ∧
        ∀ (x : PUnit) (j : Nat → Value) (w' : World),
          R_1 x w' →
            ∃ (x : Int),
              w'.cell? ((Addr.mk w.heap.size (0 : Nat) none).add (1 : Nat)) = some (Value.int IntKind.u64 x) ∧
                ∃ (x_1 : Int),
                  w'.cell? ((Addr.mk w.heap.size (0 : Nat) none).add (4 : Nat)) = some (Value.int IntKind.u64 x_1) ∧
                    ∃ (x_2 : Int),
                      w'.cell? ((Addr.mk w.heap.size (0 : Nat) none).add (5 : Nat)) = some (Value.int IntKind.u64 x_2) ∧
                        ∃ (x_3 : Int),
                          w'.cell? ((Addr.mk w.heap.size (0 : Nat) none).add (6 : Nat)) = some (Value.int IntKind.u64 x_3) ∧
                            ∃ (x_4 : Int),
                              w'.cell? ((Addr.mk w.heap.size (0 : Nat) none).add (7 : Nat)) =
                                  some (Value.int IntKind.u64 x_4) ∧
                                ∃ (x_5 : Int),
                                  w'.cell? ((Addr.mk w.heap.size (0 : Nat) none).add (8 : Nat)) =
                                      some (Value.int IntKind.u64 x_5) ∧
                                    R
                                      (decide
                                        (max (max (max (max (max x x_1) x_2) x_3) x_4) x_5 ≤ (4611686018427387904 : Int)))
                                      w')
  : CallT [Ty.one Sh.bool] Try.prog 70 [Value.agg
    #[Value.int IntKind.u64 x0.fst, Value.int IntKind.u64 x0.snd.fst, Value.int IntKind.i64 x0.snd.snd.fst,
      Value.int IntKind.i64 x0.snd.snd.snd.fst, Value.int IntKind.u64 x0.snd.snd.snd.snd.fst,
      Value.int IntKind.u64 x0.snd.snd.snd.snd.snd.fst, Value.int IntKind.u64 x0.snd.snd.snd.snd.snd.snd.fst,
      Value.int IntKind.u64 x0.snd.snd.snd.snd.snd.snd.snd.fst,
      Value.int IntKind.u64 x0.snd.snd.snd.snd.snd.snd.snd.snd]] w R :=
  fnV_sound (h := HT.z.sq (HT.jn [] HT.z HT.z)) Try.func70 (by kernel_rfl) (by kernel_rfl) (Eq.mp (by kernel_rfl) h)

end Go.Proofs
