/- The conditions of the seat's functions, written by a program (VcTool, genvc.py) off 'vc' reduced; each is tied to 'vc' by the kernel. Conditions: none. -/
import Derived.Test.YtinolellciikoaaVcSound5
import Derived.Test.YtinolellciikoaaProg
set_option linter.unusedVariables false
set_option maxRecDepth 100000
namespace Go.Proofs
open Go Go.Vc
/-- dunnage/manifest.fields -/
theorem manifest_fields.vc (x0 : Int × Int × Int × Int × Int × Int × Int × Int × Int) (v1 : Value) (w : World) (R : PUnit → World → Prop)
  (h : let w1 :=
      w.alloc
        (Obj.cells
          #[Value.int IntKind.u64 x0.fst, Value.int IntKind.u64 x0.snd.fst, Value.int IntKind.i64 x0.snd.snd.fst,
            Value.int IntKind.i64 x0.snd.snd.snd.fst, Value.int IntKind.u64 x0.snd.snd.snd.snd.fst,
            Value.int IntKind.u64 x0.snd.snd.snd.snd.snd.fst, Value.int IntKind.u64 x0.snd.snd.snd.snd.snd.snd.fst,
            Value.int IntKind.u64 x0.snd.snd.snd.snd.snd.snd.snd.fst,
            Value.int IntKind.u64 x0.snd.snd.snd.snd.snd.snd.snd.snd]
          (92 : Nat));
    ∃ (x : Int),
      w1.cell? ((Addr.mk w.heap.size (0 : Nat) none).add (1 : Nat)) = some (Value.int IntKind.u64 x) ∧
        ∃ (x_1 : Int),
          w1.cell? ((Addr.mk w.heap.size (0 : Nat) none).add (2 : Nat)) = some (Value.int IntKind.i64 x_1) ∧
            ∃ (x_2 : Int),
              w1.cell? ((Addr.mk w.heap.size (0 : Nat) none).add (3 : Nat)) = some (Value.int IntKind.i64 x_2) ∧
                ∃ (x_3 : Int),
                  w1.cell? ((Addr.mk w.heap.size (0 : Nat) none).add (4 : Nat)) = some (Value.int IntKind.u64 x_3) ∧
                    ∃ (x_4 : Int),
                      w1.cell? ((Addr.mk w.heap.size (0 : Nat) none).add (5 : Nat)) = some (Value.int IntKind.u64 x_4) ∧
                        ∃ (x_5 : Int),
                          w1.cell? ((Addr.mk w.heap.size (0 : Nat) none).add (6 : Nat)) = some (Value.int IntKind.u64 x_5) ∧
                            ∃ (x_6 : Int),
                              w1.cell? ((Addr.mk w.heap.size (0 : Nat) none).add (7 : Nat)) =
                                  some (Value.int IntKind.u64 x_6) ∧
                                ∃ (x_7 : Int),
                                  w1.cell? ((Addr.mk w.heap.size (0 : Nat) none).add (8 : Nat)) =
                                      some (Value.int IntKind.u64 x_7) ∧
                                    ∃ (I : Nat → Int → World → Prop),
                                      (∃ (n : Nat),
                                          I n (0 : Int)
                                            (w1.alloc
                                              (Obj.cells
                                                #[Value.int IntKind.u64 x, Value.int IntKind.u64 (IntKind.u64.wrap x_1),
                                                  Value.int IntKind.u64 (IntKind.u64.wrap x_2), Value.int IntKind.u64 x_3,
                                                  Value.int IntKind.u64 x_4, Value.int IntKind.u64 x_5,
                                                  Value.int IntKind.u64 x_6, Value.int IntKind.u64 x_7]
                                                (22 : Nat)))) ∧
                                        ∀ (n : Nat) (x : Int) (j : Nat → Value) (w' : World),
                                          I n x w' →
                                            cnd (decide (x < (↑(8 : Nat) : Int)))
                                              ((0 : Int) ≤ x ∧
                                                x < (↑(8 : Nat) : Int) ∧
                                                  ∃ (x_8 : Int),
                                                    w'.cell?
                                                          ((Addr.mk w1.heap.size (0 : Nat) none).add
                                                            (x.toNat * (1 : Nat))) =
                                                        some (Value.int IntKind.u64 x_8) ∧
                                                      callVal [] Try.prog v1 [Value.int IntKind.u64 x_8] w'
                                                        fun (x_9 : PUnit) (w' : World) =>
                                                        ∃ (m : Nat), m < n ∧ I m (IntKind.i64.wrap (x + (1 : Int))) w')
                                              (R () w'))
  : CallT [] Try.prog 135 [Value.agg
    #[Value.int IntKind.u64 x0.fst, Value.int IntKind.u64 x0.snd.fst, Value.int IntKind.i64 x0.snd.snd.fst,
      Value.int IntKind.i64 x0.snd.snd.snd.fst, Value.int IntKind.u64 x0.snd.snd.snd.snd.fst,
      Value.int IntKind.u64 x0.snd.snd.snd.snd.snd.fst, Value.int IntKind.u64 x0.snd.snd.snd.snd.snd.snd.fst,
      Value.int IntKind.u64 x0.snd.snd.snd.snd.snd.snd.snd.fst,
      Value.int IntKind.u64 x0.snd.snd.snd.snd.snd.snd.snd.snd],
  v1] w R :=
  fnV_sound (h := HT.z.sq (HT.z.sq (HT.lp [((26 : Nat), Ty.one (Sh.int IntKind.i64))] HT.z).bl)) Try.func135 (by kernel_rfl) (by kernel_rfl) (Eq.mp (by kernel_rfl) h)

/-- (*dunnage/manifest.writer).num -/
theorem manifest_writer_num.vc (p0 : Option Addr) (n1 : Int) (w : World) (R : PUnit → World → Prop)
  (h : ∃ (S : World → Prop),
      S w.drew ∧
        onP p0 fun (a : Addr) =>
          ∃ (x : SV),
            (∀ (w : World), S w → w.cell? (a.add (0 : Nat)) = some (Value.slice x.a x.len x.cap)) ∧
              CallT [Ty.one Sh.slice] Try.prog (114 : Nat) [Value.int IntKind.u64 n1] w.drew fun (x_1 : SV) (w' : World) =>
                S w' ∧
                  appV Try.prog [(23 : Nat), (23 : Nat)] (23 : Nat)
                    [Value.slice x.a x.len x.cap, Value.slice x_1.a x_1.len x_1.cap] w' fun (s : SV) (w' : World) =>
                    onP p0 fun (a : Addr) =>
                      (w'.cell? (a.add (0 : Nat))).isSome = true ∧
                        w'.frozen? (a.add (0 : Nat)) = false ∧
                          R () (w'.setCell (a.add (0 : Nat)) (Value.slice s.a s.len s.cap)))
  : CallT [] Try.prog 136 [Value.pointer p0, Value.int IntKind.u64 n1] w R :=
  fnV_sound (h := HT.dr
  (DT.take (0 : Nat)
    (DT.take (1 : Nat)
      (DT.take (2 : Nat)
        (DT.take (3 : Nat)
          (DT.take (4 : Nat)
            (DT.take (5 : Nat)
              (DT.alt (6 : Nat)
                (DT.alt (7 : Nat) (DT.take (8 : Nat) (DT.take (9 : Nat) (DT.alt (10 : Nat) DT.fin DT.fin))) DT.fin)
                DT.fin)))))))) Try.func136 (by kernel_rfl) (by kernel_rfl) (Eq.mp (by kernel_rfl) h)

/-- dunnage/sector.Seal -/
theorem sector_Seal.vc (n0 : Int) (n1 : Int) (s2 : SV) (w : World) (R : SV × Int → World → Prop)
  (h : CallT [Ty.one Sh.bool] Try.prog (170 : Nat) [Value.int IntKind.u8 n0] w fun (x : Bool) (w' : World) =>
      cnd (!x) (R (SV.mk none (0 : Nat) (0 : Nat), (1 : Int)) w')
        (cnd (decide ((↑s2.len : Int) > (496 : Int))) (R (SV.mk none (0 : Nat) (0 : Nat), (4 : Int)) w')
          (let w1 := w'.alloc (Obj.cells (zc Try.prog (153 : Nat)).toArray (153 : Nat));
          (0 : Int) ≤ (0 : Int) ∧
            (0 : Int) < (↑(512 : Nat) : Int) ∧
              (w1.cell? ((Addr.mk w'.heap.size (0 : Nat) none).add (Int.toNat (0 : Int) * (1 : Nat)))).isSome = true ∧
                w1.frozen? ((Addr.mk w'.heap.size (0 : Nat) none).add (Int.toNat (0 : Int) * (1 : Nat))) = false ∧
                  CallT [] Try.prog (171 : Nat)
                    [Value.slice (subA (some (Addr.mk w'.heap.size (0 : Nat) none)) (0 : Nat) (1 : Nat) (512 : Nat))
                        ((512 : Nat) - (0 : Nat)) ((512 : Nat) - (0 : Nat)),
                      Value.int IntKind.i64 (2 : Int), Value.int IntKind.i64 (2 : Int),
                      Value.int IntKind.u64 (IntKind.u64.wrap (↑s2.len : Int))]
                    (w1.setCell ((Addr.mk w'.heap.size (0 : Nat) none).add (Int.toNat (0 : Int) * (1 : Nat)))
                      (Value.int IntKind.u8 n0))
                    fun (x : PUnit) (w'_1 : World) =>
                    CallT [] Try.prog (171 : Nat)
                      [Value.slice (subA (some (Addr.mk w'.heap.size (0 : Nat) none)) (0 : Nat) (1 : Nat) (512 : Nat))
                          ((512 : Nat) - (0 : Nat)) ((512 : Nat) - (0 : Nat)),
                        Value.int IntKind.i64 (4 : Int), Value.int IntKind.i64 (8 : Int), Value.int IntKind.u64 n1]
                      w'_1 fun (x : PUnit) (w'_2 : World) =>
                      (0 : Int) ≤ (508 : Int) ∧
                        (508 : Int) ≤ (↑(512 : Nat) : Int) ∧
                          (0 : Int) ≤ (508 : Int) ∧
                            (508 : Int) ≤ (↑(Int.toNat (508 : Int)) : Int) ∧
                              (0 : Int) ≤ (12 : Int) ∧
                                (12 : Int) ≤ (↑(Int.toNat (508 : Int)) : Int) ∧
                                  cpyV Try.prog [(23 : Nat), (23 : Nat)] (3 : Nat)
                                    [Value.slice
                                        (subA (some (Addr.mk w'.heap.size (0 : Nat) none)) (Int.toNat (12 : Int)) (1 : Nat)
                                          (Int.toNat (508 : Int)))
                                        (Int.toNat (508 : Int) - Int.toNat (12 : Int))
                                        (Int.toNat (508 : Int) - Int.toNat (12 : Int)),
                                      Value.slice s2.a s2.len s2.cap]
                                    w'_2 fun (n : Int) (w'_3 : World) =>
                                    ∃ (S : World → Prop),
                                      S w'_3.drew ∧
                                        (0 : Int) ≤ (508 : Int) ∧
                                          (508 : Int) ≤ (↑(512 : Nat) : Int) ∧
                                            CallT [Ty.one (Sh.int IntKind.u32)] Try.prog (172 : Nat)
                                              [Value.slice
                                                  (subA (some (Addr.mk w'.heap.size (0 : Nat) none)) (0 : Nat) (1 : Nat)
                                                    (512 : Nat))
                                                  (Int.toNat (508 : Int) - (0 : Nat)) ((512 : Nat) - (0 : Nat))]
                                              w'_3.drew fun (x : Int) (w'_4 : World) =>
                                              CallT [] Try.prog (171 : Nat)
                                                [Value.slice
                                                    (subA (some (Addr.mk w'.heap.size (0 : Nat) none)) (0 : Nat) (1 : Nat)
                                                      (512 : Nat))
                                                    ((512 : Nat) - (0 : Nat)) ((512 : Nat) - (0 : Nat)),
                                                  Value.int IntKind.i64 (508 : Int), Value.int IntKind.i64 (4 : Int),
                                                  Value.int IntKind.u64 (IntKind.u64.wrap x)]
                                                w'_4 fun (x : PUnit) (w'_5 : World) =>
                                                R
                                                  (SV.mk
                                                      (subA (some (Addr.mk w'.heap.size (0 : Nat) none)) (0 : Nat) (1 : Nat)
                                                        (512 : Nat))
                                                      ((512 : Nat) - (0 : Nat)) ((512 : Nat) - (0 : Nat)),
                                                    (0 : Int))
                                                  w'_5)))
  : CallT [Ty.one Sh.slice, Ty.one (Sh.int IntKind.i64)] Try.prog 137 [Value.int IntKind.u8 n0, Value.int IntKind.u64 n1, Value.slice s2.a s2.len s2.cap] w R :=
  fnV_sound (h := HT.z.sq
  (HT.z.sq
    (HT.z.sq
      (HT.z.sq
        (HT.z.sq
          (HT.z.sq
            (HT.z.sq
              (HT.z.sq
                ((HT.dr
                      (DT.take (0 : Nat)
                        (DT.take (1 : Nat)
                          (DT.alt (2 : Nat) (DT.take (3 : Nat) (DT.alt (4 : Nat) DT.fin DT.fin)) DT.fin)))).sq
                  HT.z))))))))) Try.func137 (by kernel_rfl) (by kernel_rfl) (Eq.mp (by kernel_rfl) h)

/-- dunnage/sector.Open -/
theorem sector_Open.vc (s0 : SV) (w : World) (R : (Int × Int × SV) × Int → World → Prop)
  (h : let w1 :=
      w.alloc
        (Obj.cells #[Value.int IntKind.u8 (0 : Int), Value.int IntKind.u64 (0 : Int), Value.slice none (0 : Nat) (0 : Nat)]
          (184 : Nat));
    cnd ((↑s0.len : Int) != (512 : Int))
      (canSt w1 (Addr.mk w.heap.size (0 : Nat) none) (3 : Nat) ∧
        let w1 :=
          setCells w1 (Addr.mk w.heap.size (0 : Nat) none) (0 : Nat)
            [Value.int IntKind.u8 (0 : Int), Value.int IntKind.u64 (0 : Int), Value.slice none (0 : Nat) (0 : Nat)];
        ∃ (x : Int × Int × SV),
          cellsAt w1 (Addr.mk w.heap.size (0 : Nat) none)
              [Value.int IntKind.u8 x.fst, Value.int IntKind.u64 x.snd.fst,
                Value.slice x.snd.snd.a x.snd.snd.len x.snd.snd.cap] ∧
            R ((x.fst, x.snd.fst, x.snd.snd), (1 : Int)) w1)
      (CallT [Ty.one Sh.bool] Try.prog (173 : Nat) [Value.slice s0.a s0.len s0.cap] w1 fun (x : Bool) (w' : World) =>
        cnd x
          (canSt w' (Addr.mk w.heap.size (0 : Nat) none) (3 : Nat) ∧
            let w1 :=
              setCells w' (Addr.mk w.heap.size (0 : Nat) none) (0 : Nat)
                [Value.int IntKind.u8 (0 : Int), Value.int IntKind.u64 (0 : Int), Value.slice none (0 : Nat) (0 : Nat)];
            ∃ (x : Int × Int × SV),
              cellsAt w1 (Addr.mk w.heap.size (0 : Nat) none)
                  [Value.int IntKind.u8 x.fst, Value.int IntKind.u64 x.snd.fst,
                    Value.slice x.snd.snd.a x.snd.snd.len x.snd.snd.cap] ∧
                R ((x.fst, x.snd.fst, x.snd.snd), (0 : Int)) w1)
          (CallT [Ty.one (Sh.int IntKind.u64), Ty.one (Sh.int IntKind.i64)] Try.prog (174 : Nat)
            [Value.slice s0.a s0.len s0.cap, Value.int IntKind.i64 (508 : Int), Value.int IntKind.i64 (4 : Int)] w'
            fun (x : Int × Int) (w' : World) =>
            (0 : Int) ≤ (508 : Int) ∧
              (508 : Int) ≤ (↑s0.cap : Int) ∧
                CallT [Ty.one (Sh.int IntKind.u32)] Try.prog (172 : Nat)
                  [Value.slice (subA s0.a (0 : Nat) (1 : Nat) s0.cap) (Int.toNat (508 : Int) - (0 : Nat))
                      (s0.cap - (0 : Nat))]
                  w' fun (x_1 : Int) (w' : World) =>
                  cnd (x.fst != IntKind.u64.wrap x_1)
                    (canSt w' (Addr.mk w.heap.size (0 : Nat) none) (3 : Nat) ∧
                      let w1 :=
                        setCells w' (Addr.mk w.heap.size (0 : Nat) none) (0 : Nat)
                          [Value.int IntKind.u8 (0 : Int), Value.int IntKind.u64 (0 : Int),
                            Value.slice none (0 : Nat) (0 : Nat)];
                      ∃ (x : Int × Int × SV),
                        cellsAt w1 (Addr.mk w.heap.size (0 : Nat) none)
                            [Value.int IntKind.u8 x.fst, Value.int IntKind.u64 x.snd.fst,
                              Value.slice x.snd.snd.a x.snd.snd.len x.snd.snd.cap] ∧
                          R ((x.fst, x.snd.fst, x.snd.snd), (30 : Int)) w1)
                    (CallT [Ty.one (Sh.int IntKind.u64), Ty.one (Sh.int IntKind.i64)] Try.prog (174 : Nat)
                      [Value.slice s0.a s0.len s0.cap, Value.int IntKind.i64 (2 : Int), Value.int IntKind.i64 (2 : Int)] w'
                      fun (x : Int × Int) (w' : World) =>
                      ∃ (R_1 : PUnit → World → Prop),
                        (∃ (R_2 : Bool → World → Prop),
                            ((0 : Int) ≤ (0 : Int) ∧
                                (0 : Int) < (↑s0.len : Int) ∧
                                  onP s0.a fun (A : Addr) =>
                                    ∃ (x_2 : Int),
                                      w'.cell? (A.add (Int.toNat (0 : Int) * (1 : Nat))) = some (Value.int IntKind.u8 x_2) ∧
                                        CallT [Ty.one Sh.bool] Try.prog (170 : Nat) [Value.int IntKind.u8 x_2] w'
                                          fun (x_3 : Bool) (w' : World) =>
                                          cnd (!x_3) (R_2 true w')
                                            ((0 : Int) ≤ (1 : Int) ∧
                                              (1 : Int) < (↑s0.len : Int) ∧
                                                onP s0.a fun (A : Addr) =>
                                                  ∃ (x_4 : Int),
                                                    w'.cell? (A.add (Int.toNat (1 : Int) * (1 : Nat))) =
                                                        some (Value.int IntKind.u8 x_4) ∧
                                                      cnd (x_4 != (0 : Int)) (R_2 true w')
                                                        (cnd (decide (x.fst > (496 : Int))) (R_2 true w')
                                                          (let e1 := IntKind.u64.wrap ((12 : Int) + x.fst);
                                                          (0 : Int) ≤ (508 : Int) ∧
                                                            (508 : Int) ≤ (↑s0.cap : Int) ∧
                                                              (0 : Int) ≤ e1 ∧
                                                                e1 ≤ (↑(Int.toNat (508 : Int)) : Int) ∧
                                                                  CallT [Ty.one Sh.bool] Try.prog (173 : Nat)
                                                                    [Value.slice (subA s0.a e1.toNat (1 : Nat) s0.cap)
                                                                        (Int.toNat (508 : Int) - e1.toNat)
                                                                        (s0.cap - e1.toNat)]
                                                                    w' fun (x : Bool) (w' : World) => R_2 (!x) w')))) ∧
                              ∀ (x : Bool) (j : Nat → Value) (w' : World),
                                R_2 x w' →
                                  cnd x
                                    (canSt w' (Addr.mk w.heap.size (0 : Nat) none) (3 : Nat) ∧
                                      let w1 :=
                                        setCells w' (Addr.mk w.heap.size (0 : Nat) none) (0 : Nat)
                                          [Value.int IntKind.u8 (0 : Int), Value.int IntKind.u64 (0 : Int),
                                            Value.slice none (0 : Nat) (0 : Nat)];
                                      ∃ (x : Int × Int × SV),
                                        cellsAt w1 (Addr.mk w.heap.size (0 : Nat) none)
                                            [Value.int IntKind.u8 x.fst, Value.int IntKind.u64 x.snd.fst,
                                              Value.slice x.snd.snd.a x.snd.snd.len x.snd.snd.cap] ∧
                                          R ((x.fst, x.snd.fst, x.snd.snd), (11 : Int)) w1)
                                    (R_1 () w')) ∧
                          ∀ (x_2 : PUnit) (j : Nat → Value) (w' : World),
                            R_1 x_2 w' →
                              CallT [Ty.one (Sh.int IntKind.u64), Ty.one (Sh.int IntKind.i64)] Try.prog (174 : Nat)
                                [Value.slice s0.a s0.len s0.cap, Value.int IntKind.i64 (4 : Int),
                                  Value.int IntKind.i64 (8 : Int)]
                                w' fun (x_3 : Int × Int) (w' : World) =>
                                ∃ (S : World → Prop),
                                  S w'.drew ∧
                                    (0 : Int) ≤ (0 : Int) ∧
                                      (0 : Int) < (↑s0.len : Int) ∧
                                        onP s0.a fun (A : Addr) =>
                                          ∃ (x_4 : Int),
                                            (∀ (w : World),
                                                S w →
                                                  w.cell? (A.add (Int.toNat (0 : Int) * (1 : Nat))) =
                                                    some (Value.int IntKind.u8 x_4)) ∧
                                              let e1 := IntKind.u64.wrap ((12 : Int) + x.fst);
                                              (0 : Int) ≤ e1 ∧
                                                e1 ≤ (↑s0.cap : Int) ∧
                                                  (0 : Int) ≤ (12 : Int) ∧
                                                    (12 : Int) ≤ (↑e1.toNat : Int) ∧
                                                      CallT [Ty.one Sh.slice] Try.prog (111 : Nat)
                                                        [Value.slice (subA s0.a (Int.toNat (12 : Int)) (1 : Nat) s0.cap)
                                                            (e1.toNat - Int.toNat (12 : Int))
                                                            (s0.cap - Int.toNat (12 : Int))]
                                                        w'.drew fun (x : SV) (w' : World) =>
                                                        S w' ∧
                                                          canSt w' (Addr.mk w.heap.size (0 : Nat) none) (3 : Nat) ∧
                                                            let w1 :=
                                                              setCells w' (Addr.mk w.heap.size (0 : Nat) none) (0 : Nat)
                                                                [Value.int IntKind.u8 x_4, Value.int IntKind.u64 x_3.fst,
                                                                  Value.slice x.a x.len x.cap];
                                                            ∃ (x : Int × Int × SV),
                                                              cellsAt w1 (Addr.mk w.heap.size (0 : Nat) none)
                                                                  [Value.int IntKind.u8 x.fst,
                                                                    Value.int IntKind.u64 x.snd.fst,
                                                                    Value.slice x.snd.snd.a x.snd.snd.len x.snd.snd.cap] ∧
                                                                R ((x.fst, x.snd.fst, x.snd.snd), (0 : Int)) w1))))
  : CallT [Ty.agg [Sh.int IntKind.u8, Sh.int IntKind.u64, Sh.slice], Ty.one (Sh.int IntKind.i64)] Try.prog 138 [Value.slice s0.a s0.len s0.cap] w R :=
  fnV_sound (h := HT.z.sq
  (HT.z.sq
    (HT.z.sq
      (HT.z.sq
        (HT.z.sq
          (HT.jn [] (HT.jn [((56 : Nat), Ty.one Sh.bool)] HT.z HT.z)
            (HT.z.sq
              ((HT.dr
                    (DT.take (0 : Nat)
                      (DT.take (1 : Nat)
                        (DT.take (2 : Nat)
                          (DT.take (3 : Nat)
                            (DT.take (4 : Nat)
                              (DT.take (5 : Nat)
                                (DT.take (6 : Nat)
                                  (DT.take (7 : Nat)
                                    (DT.alt (8 : Nat)
                                      (DT.take (9 : Nat) (DT.alt (10 : Nat) (DT.take (11 : Nat) DT.fin) DT.fin))
                                      DT.fin)))))))))).sq
                HT.z)))))))) Try.func138 (by kernel_rfl) (by kernel_rfl) (Eq.mp (by kernel_rfl) h)

/-- bytes.Equal -/
theorem bytes_Equal.vc (s0 : SV) (s1 : SV) (w : World) (R : Bool → World → Prop)
  (h : ∃ (bs : List UInt8),
      bs.length = s0.len ∧
        (∀ (A : Addr),
            s0.a = some A →
              ∀ (i : Nat),
                i < s0.len → w.cell? (A.add i) = some (Value.int IntKind.u8 (↑(bs.getD i (0 : UInt8)).toNat : Int))) ∧
          (s0.a = none → bs = []) ∧
            ∃ (bs_1 : List UInt8),
              bs_1.length = s1.len ∧
                (∀ (A : Addr),
                    s1.a = some A →
                      ∀ (i : Nat),
                        i < s1.len →
                          w.cell? (A.add i) = some (Value.int IntKind.u8 (↑(bs_1.getD i (0 : UInt8)).toNat : Int))) ∧
                  (s1.a = none → bs_1 = []) ∧ R ((ByteArray.mk bs.toArray).toList == (ByteArray.mk bs_1.toArray).toList) w)
  : CallT [Ty.one Sh.bool] Try.prog 139 [Value.slice s0.a s0.len s0.cap, Value.slice s1.a s1.len s1.cap] w R :=
  fnV_sound (h := HT.z) Try.func139 (by kernel_rfl) (by kernel_rfl) (Eq.mp (by kernel_rfl) h)

/-- dunnage/dunnageref03.Seal -/
theorem dunnageref03_Seal.vc (n0 : Int) (n1 : Int) (s2 : SV) (w : World) (R : SV × Int → World → Prop)
  (h : CallT [Ty.one Sh.bool] Try.prog (175 : Nat) [Value.int IntKind.u8 n0] w fun (x : Bool) (w' : World) =>
      cnd (!x) (R (SV.mk none (0 : Nat) (0 : Nat), (1 : Int)) w')
        (cnd (decide ((↑s2.len : Int) > (496 : Int))) (R (SV.mk none (0 : Nat) (0 : Nat), (4 : Int)) w')
          (CallT [Ty.one Sh.slice] Try.prog (176 : Nat)
            [Value.slice (some (Addr.mk w'.heap.size (0 : Nat) none)) (2 : Nat) (2 : Nat),
              Value.int IntKind.u64 (IntKind.u64.wrap (↑s2.len : Int)), Value.int IntKind.i64 (2 : Int)]
            (w'.alloc (Obj.cells #[Value.int IntKind.u8 n0, Value.int IntKind.u8 (0 : Int)] (5 : Nat)))
            fun (x : SV) (w' : World) =>
            CallT [Ty.one Sh.slice] Try.prog (176 : Nat)
              [Value.slice x.a x.len x.cap, Value.int IntKind.u64 n1, Value.int IntKind.i64 (8 : Int)] w'
              fun (x : SV) (w' : World) =>
              appV Try.prog [(23 : Nat), (23 : Nat)] (23 : Nat)
                [Value.slice x.a x.len x.cap, Value.slice s2.a s2.len s2.cap] w' fun (s : SV) (w' : World) =>
                ∃ (I : Nat → SV → World → Prop),
                  (∃ (n : Nat), I n s w') ∧
                    ∀ (n : Nat) (x : SV) (j : Nat → Value) (w' : World),
                      I n x w' →
                        cnd (decide ((↑x.len : Int) < (508 : Int)))
                          (appV Try.prog [(23 : Nat), (23 : Nat)] (23 : Nat)
                            [Value.slice x.a x.len x.cap,
                              Value.slice (some (Addr.mk w'.heap.size (0 : Nat) none)) (1 : Nat) (1 : Nat)]
                            (w'.alloc (Obj.cells #[Value.int IntKind.u8 (0 : Int)] (5 : Nat))) fun (s : SV) (w' : World) =>
                            ∃ (m : Nat), m < n ∧ I m s w')
                          (CallT [Ty.one (Sh.int IntKind.u32)] Try.prog (177 : Nat) [Value.slice x.a x.len x.cap] w'
                            fun (x_1 : Int) (w' : World) =>
                            CallT [Ty.one Sh.slice] Try.prog (176 : Nat)
                              [Value.slice x.a x.len x.cap, Value.int IntKind.u64 (IntKind.u64.wrap x_1),
                                Value.int IntKind.i64 (4 : Int)]
                              w' fun (x : SV) (w' : World) => R (x, (0 : Int)) w'))))
  : CallT [Ty.one Sh.slice, Ty.one (Sh.int IntKind.i64)] Try.prog 140 [Value.int IntKind.u8 n0, Value.int IntKind.u64 n1, Value.slice s2.a s2.len s2.cap] w R :=
  fnV_sound (h := HT.z.sq (HT.z.sq (HT.z.sq (HT.z.sq (HT.z.sq (HT.z.sq ((HT.lp [((8 : Nat), Ty.one Sh.slice)] HT.z).bl.sq HT.z))))))) Try.func140 (by kernel_rfl) (by kernel_rfl) (Eq.mp (by kernel_rfl) h)

/-- dunnage/dunnageref03.Open -/
theorem dunnageref03_Open.vc (s0 : SV) (w : World) (R : (Int × Int × SV) × Int → World → Prop)
  (h : let w1 :=
      w.alloc
        (Obj.cells #[Value.int IntKind.u8 (0 : Int), Value.int IntKind.u64 (0 : Int), Value.slice none (0 : Nat) (0 : Nat)]
          (184 : Nat));
    cnd ((↑s0.len : Int) != (512 : Int))
      (canSt w1 (Addr.mk w.heap.size (0 : Nat) none) (3 : Nat) ∧
        let w1 :=
          setCells w1 (Addr.mk w.heap.size (0 : Nat) none) (0 : Nat)
            [Value.int IntKind.u8 (0 : Int), Value.int IntKind.u64 (0 : Int), Value.slice none (0 : Nat) (0 : Nat)];
        ∃ (x : Int × Int × SV),
          cellsAt w1 (Addr.mk w.heap.size (0 : Nat) none)
              [Value.int IntKind.u8 x.fst, Value.int IntKind.u64 x.snd.fst,
                Value.slice x.snd.snd.a x.snd.snd.len x.snd.snd.cap] ∧
            R ((x.fst, x.snd.fst, x.snd.snd), (1 : Int)) w1)
      (CallT [Ty.one Sh.bool] Try.prog (178 : Nat) [Value.slice s0.a s0.len s0.cap] w1 fun (x : Bool) (w' : World) =>
        cnd x
          (canSt w' (Addr.mk w.heap.size (0 : Nat) none) (3 : Nat) ∧
            let w1 :=
              setCells w' (Addr.mk w.heap.size (0 : Nat) none) (0 : Nat)
                [Value.int IntKind.u8 (0 : Int), Value.int IntKind.u64 (0 : Int), Value.slice none (0 : Nat) (0 : Nat)];
            ∃ (x : Int × Int × SV),
              cellsAt w1 (Addr.mk w.heap.size (0 : Nat) none)
                  [Value.int IntKind.u8 x.fst, Value.int IntKind.u64 x.snd.fst,
                    Value.slice x.snd.snd.a x.snd.snd.len x.snd.snd.cap] ∧
                R ((x.fst, x.snd.fst, x.snd.snd), (0 : Int)) w1)
          (CallT [Ty.one (Sh.int IntKind.u64), Ty.one (Sh.int IntKind.i64)] Try.prog (179 : Nat)
            [Value.slice s0.a s0.len s0.cap, Value.int IntKind.i64 (508 : Int), Value.int IntKind.i64 (4 : Int)] w'
            fun (x : Int × Int) (w' : World) =>
            (0 : Int) ≤ (508 : Int) ∧
              (508 : Int) ≤ (↑s0.cap : Int) ∧
                CallT [Ty.one (Sh.int IntKind.u32)] Try.prog (177 : Nat)
                  [Value.slice (subA s0.a (0 : Nat) (1 : Nat) s0.cap) (Int.toNat (508 : Int) - (0 : Nat))
                      (s0.cap - (0 : Nat))]
                  w' fun (x_1 : Int) (w' : World) =>
                  cnd (IntKind.u32.wrap x.fst != x_1)
                    (canSt w' (Addr.mk w.heap.size (0 : Nat) none) (3 : Nat) ∧
                      let w1 :=
                        setCells w' (Addr.mk w.heap.size (0 : Nat) none) (0 : Nat)
                          [Value.int IntKind.u8 (0 : Int), Value.int IntKind.u64 (0 : Int),
                            Value.slice none (0 : Nat) (0 : Nat)];
                      ∃ (x : Int × Int × SV),
                        cellsAt w1 (Addr.mk w.heap.size (0 : Nat) none)
                            [Value.int IntKind.u8 x.fst, Value.int IntKind.u64 x.snd.fst,
                              Value.slice x.snd.snd.a x.snd.snd.len x.snd.snd.cap] ∧
                          R ((x.fst, x.snd.fst, x.snd.snd), (30 : Int)) w1)
                    (CallT [Ty.one (Sh.int IntKind.u64), Ty.one (Sh.int IntKind.i64)] Try.prog (179 : Nat)
                      [Value.slice s0.a s0.len s0.cap, Value.int IntKind.i64 (2 : Int), Value.int IntKind.i64 (2 : Int)] w'
                      fun (x : Int × Int) (w' : World) =>
                      CallT [Ty.one (Sh.int IntKind.u64), Ty.one (Sh.int IntKind.i64)] Try.prog (179 : Nat)
                        [Value.slice s0.a s0.len s0.cap, Value.int IntKind.i64 (4 : Int), Value.int IntKind.i64 (8 : Int)]
                        w' fun (x_2 : Int × Int) (w' : World) =>
                        ∃ (R_1 : PUnit → World → Prop),
                          (∃ (R_2 : Bool → World → Prop),
                              ((0 : Int) ≤ (0 : Int) ∧
                                  (0 : Int) < (↑s0.len : Int) ∧
                                    onP s0.a fun (A : Addr) =>
                                      ∃ (x_3 : Int),
                                        w'.cell? (A.add (Int.toNat (0 : Int) * (1 : Nat))) =
                                            some (Value.int IntKind.u8 x_3) ∧
                                          CallT [Ty.one Sh.bool] Try.prog (175 : Nat) [Value.int IntKind.u8 x_3] w'
                                            fun (x_4 : Bool) (w' : World) =>
                                            cnd (!x_4) (R_2 true w')
                                              ((0 : Int) ≤ (1 : Int) ∧
                                                (1 : Int) < (↑s0.len : Int) ∧
                                                  onP s0.a fun (A : Addr) =>
                                                    ∃ (x_5 : Int),
                                                      w'.cell? (A.add (Int.toNat (1 : Int) * (1 : Nat))) =
                                                          some (Value.int IntKind.u8 x_5) ∧
                                                        cnd (x_5 != (0 : Int)) (R_2 true w')
                                                          (R_2 (decide (x.fst > (496 : Int))) w'))) ∧
                                ∀ (x : Bool) (j : Nat → Value) (w' : World),
                                  R_2 x w' →
                                    cnd x
                                      (canSt w' (Addr.mk w.heap.size (0 : Nat) none) (3 : Nat) ∧
                                        let w1 :=
                                          setCells w' (Addr.mk w.heap.size (0 : Nat) none) (0 : Nat)
                                            [Value.int IntKind.u8 (0 : Int), Value.int IntKind.u64 (0 : Int),
                                              Value.slice none (0 : Nat) (0 : Nat)];
                                        ∃ (x : Int × Int × SV),
                                          cellsAt w1 (Addr.mk w.heap.size (0 : Nat) none)
                                              [Value.int IntKind.u8 x.fst, Value.int IntKind.u64 x.snd.fst,
                                                Value.slice x.snd.snd.a x.snd.snd.len x.snd.snd.cap] ∧
                                            R ((x.fst, x.snd.fst, x.snd.snd), (11 : Int)) w1)
                                      (R_1 () w')) ∧
                            ∀ (x_3 : PUnit) (j : Nat → Value) (w' : World),
                              R_1 x_3 w' →
                                let e1 := IntKind.i64.wrap ((12 : Int) + IntKind.i64.wrap x.fst);
                                (0 : Int) ≤ (508 : Int) ∧
                                  (508 : Int) ≤ (↑s0.cap : Int) ∧
                                    (0 : Int) ≤ e1 ∧
                                      e1 ≤ (↑(Int.toNat (508 : Int)) : Int) ∧
                                        CallT [Ty.one Sh.bool] Try.prog (178 : Nat)
                                          [Value.slice (subA s0.a e1.toNat (1 : Nat) s0.cap)
                                              (Int.toNat (508 : Int) - e1.toNat) (s0.cap - e1.toNat)]
                                          w' fun (x_4 : Bool) (w' : World) =>
                                          cnd (!x_4)
                                            (canSt w' (Addr.mk w.heap.size (0 : Nat) none) (3 : Nat) ∧
                                              let w1 :=
                                                setCells w' (Addr.mk w.heap.size (0 : Nat) none) (0 : Nat)
                                                  [Value.int IntKind.u8 (0 : Int), Value.int IntKind.u64 (0 : Int),
                                                    Value.slice none (0 : Nat) (0 : Nat)];
                                              ∃ (x : Int × Int × SV),
                                                cellsAt w1 (Addr.mk w.heap.size (0 : Nat) none)
                                                    [Value.int IntKind.u8 x.fst, Value.int IntKind.u64 x.snd.fst,
                                                      Value.slice x.snd.snd.a x.snd.snd.len x.snd.snd.cap] ∧
                                                  R ((x.fst, x.snd.fst, x.snd.snd), (11 : Int)) w1)
                                            (∃ (S : World → Prop),
                                              S w'.drew ∧
                                                (0 : Int) ≤ (0 : Int) ∧
                                                  (0 : Int) < (↑s0.len : Int) ∧
                                                    onP s0.a fun (A : Addr) =>
                                                      ∃ (x_5 : Int),
                                                        (∀ (w : World),
                                                            S w →
                                                              w.cell? (A.add (Int.toNat (0 : Int) * (1 : Nat))) =
                                                                some (Value.int IntKind.u8 x_5)) ∧
                                                          let e1 := IntKind.i64.wrap ((12 : Int) + IntKind.i64.wrap x.fst);
                                                          (0 : Int) ≤ e1 ∧
                                                            e1 ≤ (↑s0.cap : Int) ∧
                                                              (0 : Int) ≤ (12 : Int) ∧
                                                                (12 : Int) ≤ (↑e1.toNat : Int) ∧
                                                                  appV Try.prog [(23 : Nat), (23 : Nat)] (23 : Nat)
                                                                    [Value.slice none (0 : Nat) (0 : Nat),
                                                                      Value.slice
                                                                        (subA s0.a (Int.toNat (12 : Int)) (1 : Nat) s0.cap)
                                                                        (e1.toNat - Int.toNat (12 : Int))
                                                                        (s0.cap - Int.toNat (12 : Int))]
                                                                    w'.drew fun (s : SV) (w' : World) =>
                                                                    S w' ∧
                                                                      canSt w' (Addr.mk w.heap.size (0 : Nat) none)
                                                                          (3 : Nat) ∧
                                                                        let w1 :=
                                                                          setCells w' (Addr.mk w.heap.size (0 : Nat) none)
                                                                            (0 : Nat)
                                                                            [Value.int IntKind.u8 x_5,
                                                                              Value.int IntKind.u64 x_2.fst,
                                                                              Value.slice s.a s.len s.cap];
                                                                        ∃ (x : Int × Int × SV),
                                                                          cellsAt w1 (Addr.mk w.heap.size (0 : Nat) none)
                                                                              [Value.int IntKind.u8 x.fst,
                                                                                Value.int IntKind.u64 x.snd.fst,
                                                                                Value.slice x.snd.snd.a x.snd.snd.len
                                                                                  x.snd.snd.cap] ∧
                                                                            R ((x.fst, x.snd.fst, x.snd.snd), (0 : Int))
                                                                              w1)))))
  : CallT [Ty.agg [Sh.int IntKind.u8, Sh.int IntKind.u64, Sh.slice], Ty.one (Sh.int IntKind.i64)] Try.prog 141 [Value.slice s0.a s0.len s0.cap] w R :=
  fnV_sound (h := HT.z.sq
  (HT.z.sq
    (HT.z.sq
      (HT.z.sq
        (HT.z.sq
          (HT.z.sq
            (HT.z.sq
              (HT.jn [] (HT.jn [((53 : Nat), Ty.one Sh.bool)] HT.z HT.z)
                (HT.z.sq
                  ((HT.dr
                        (DT.take (0 : Nat)
                          (DT.take (1 : Nat)
                            (DT.take (2 : Nat)
                              (DT.take (3 : Nat)
                                (DT.take (4 : Nat)
                                  (DT.take (5 : Nat)
                                    (DT.take (6 : Nat)
                                      (DT.take (7 : Nat)
                                        (DT.take (8 : Nat)
                                          (DT.alt (9 : Nat)
                                            (DT.take (10 : Nat) (DT.alt (11 : Nat) (DT.take (12 : Nat) DT.fin) DT.fin))
                                            DT.fin))))))))))).sq
                    HT.z)))))))))) Try.func141 (by kernel_rfl) (by kernel_rfl) (Eq.mp (by kernel_rfl) h)

/-- dunnage/dunnageref05.in -/
theorem dunnageref05_in.vc (n0 : Int) (n1 : Int) (n2 : Int) (w : World) (R : Bool → World → Prop)
  (h : cnd (decide (n0 ≥ n1)) (R (decide (n0 < IntKind.i64.wrap (n1 + n2))) w) (R false w))
  : CallT [Ty.one Sh.bool] Try.prog 142 [Value.int IntKind.i64 n0, Value.int IntKind.i64 n1, Value.int IntKind.i64 n2] w R :=
  fnV_sound (h := HT.z) Try.func142 (by kernel_rfl) (by kernel_rfl) (Eq.mp (by kernel_rfl) h)

/-- dunnage/dunnagehelp.Same[dunnage/api.Bad] -/
theorem dunnagehelp_Same_api_Bad.vc (s0 : SV) (s1 : SV) (v2 : Value) (w : World) (R : Bool → World → Prop)
  (h : cnd ((↑s0.len : Int) != (↑s1.len : Int)) (R false w)
      (∃ (I : Nat → Int → World → Prop),
        (∃ (n : Nat), I n (0 : Int) w) ∧
          ∀ (n : Nat) (x : Int) (j : Nat → Value) (w' : World),
            I n x w' →
              cnd (decide (x < (↑s0.len : Int)))
                ((0 : Int) ≤ x ∧
                  x < (↑s0.len : Int) ∧
                    onP s0.a fun (A : Addr) =>
                      ∃ (x_1 : Int × Int),
                        cellsAt w'.drew (A.add (x.toNat * (2 : Nat)))
                            [Value.int IntKind.i64 x_1.fst, Value.int IntKind.i64 x_1.snd] ∧
                          (0 : Int) ≤ x ∧
                            x < (↑s1.len : Int) ∧
                              onP s1.a fun (A : Addr) =>
                                ∃ (x_2 : Int × Int),
                                  cellsAt w'.drew (A.add (x.toNat * (2 : Nat)))
                                      [Value.int IntKind.i64 x_2.fst, Value.int IntKind.i64 x_2.snd] ∧
                                    callVal [Ty.one Sh.bool] Try.prog v2
                                      [Value.agg #[Value.int IntKind.i64 x_1.fst, Value.int IntKind.i64 x_1.snd],
                                        Value.agg #[Value.int IntKind.i64 x_2.fst, Value.int IntKind.i64 x_2.snd]]
                                      w'.drew fun (x_3 : Bool) (w' : World) =>
                                      cnd (!x_3) (R false w')
                                        (∃ (m : Nat), m < n ∧ I m (IntKind.i64.wrap (x + (1 : Int))) w'))
                (R true w')))
  : CallT [Ty.one Sh.bool] Try.prog 143 [Value.slice s0.a s0.len s0.cap, Value.slice s1.a s1.len s1.cap, v2] w R :=
  fnV_sound (h := HT.z.sq
  (HT.z.sq
    ((HT.z.sq
          (HT.lp [((7 : Nat), Ty.one (Sh.int IntKind.i64))] (HT.z.sq (((HT.rg (9 : Nat)).sq HT.z).bl.sq HT.z))).bl).sq
      HT.z))) Try.func143 (by kernel_rfl) (by kernel_rfl) (Eq.mp (by kernel_rfl) h)

/-- dunnage/dunnagehelp.Plain[dunnage/api.Bad]$1 -/
theorem dunnagehelp_Plain_api_Bad_1.vc (x0 : Int × Int) (x1 : Int × Int) (w : World) (R : Bool → World → Prop)
  (h : let w1 := w.alloc (Obj.cells #[Value.int IntKind.i64 x0.fst, Value.int IntKind.i64 x0.snd] (111 : Nat));
    let w1_1 := w1.alloc (Obj.cells #[Value.int IntKind.i64 x1.fst, Value.int IntKind.i64 x1.snd] (111 : Nat));
    ∃ (x : Int × Int),
      cellsAt w1_1 (Addr.mk w.heap.size (0 : Nat) none) [Value.int IntKind.i64 x.fst, Value.int IntKind.i64 x.snd] ∧
        ∃ (x_1 : Int × Int),
          cellsAt w1_1 (Addr.mk w1.heap.size (0 : Nat) none)
              [Value.int IntKind.i64 x_1.fst, Value.int IntKind.i64 x_1.snd] ∧
            R (x.fst == x_1.fst && (x.snd == x_1.snd && true)) w1_1)
  : CallT [Ty.one Sh.bool] Try.prog 144 [Value.agg #[Value.int IntKind.i64 x0.fst, Value.int IntKind.i64 x0.snd],
  Value.agg #[Value.int IntKind.i64 x1.fst, Value.int IntKind.i64 x1.snd]] w R :=
  fnV_sound (h := HT.z) Try.func144 (by kernel_rfl) (by kernel_rfl) (Eq.mp (by kernel_rfl) h)

/-- slices.Contains[[]int,int] -/
theorem slices_Contains_int_int.vc (s0 : SV) (n1 : Int) (w : World) (R : Bool → World → Prop)
  (h : CallT [Ty.one (Sh.int IntKind.i64)] Try.prog (180 : Nat) [Value.slice s0.a s0.len s0.cap, Value.int IntKind.i64 n1] w
      fun (x : Int) (w' : World) => R (decide (x ≥ (0 : Int))) w')
  : CallT [Ty.one Sh.bool] Try.prog 145 [Value.slice s0.a s0.len s0.cap, Value.int IntKind.i64 n1] w R :=
  fnV_sound (h := HT.z) Try.func145 (by kernel_rfl) (by kernel_rfl) (Eq.mp (by kernel_rfl) h)

/-- dunnage/layout.Logic -/
theorem layout_Logic.vc (x0 : Int × Int × Int × Int × Int × Int × Int × Int × Int) (n1 : Int) (w : World) (R : Int × Bool → World → Prop)
  (h : let w1 :=
      w.alloc
        (Obj.cells
          #[Value.int IntKind.i64 x0.fst, Value.int IntKind.i64 x0.snd.fst, Value.int IntKind.i64 x0.snd.snd.fst,
            Value.int IntKind.i64 x0.snd.snd.snd.fst, Value.int IntKind.i64 x0.snd.snd.snd.snd.fst,
            Value.int IntKind.i64 x0.snd.snd.snd.snd.snd.fst, Value.int IntKind.i64 x0.snd.snd.snd.snd.snd.snd.fst,
            Value.int IntKind.i64 x0.snd.snd.snd.snd.snd.snd.snd.fst,
            Value.int IntKind.i64 x0.snd.snd.snd.snd.snd.snd.snd.snd]
          (83 : Nat));
    ∃ (x : Int × Int × Int × Int × Int × Int × Int × Int × Int),
      cellsAt w1 (Addr.mk w.heap.size (0 : Nat) none)
          [Value.int IntKind.i64 x.fst, Value.int IntKind.i64 x.snd.fst, Value.int IntKind.i64 x.snd.snd.fst,
            Value.int IntKind.i64 x.snd.snd.snd.fst, Value.int IntKind.i64 x.snd.snd.snd.snd.fst,
            Value.int IntKind.i64 x.snd.snd.snd.snd.snd.fst, Value.int IntKind.i64 x.snd.snd.snd.snd.snd.snd.fst,
            Value.int IntKind.i64 x.snd.snd.snd.snd.snd.snd.snd.fst,
            Value.int IntKind.i64 x.snd.snd.snd.snd.snd.snd.snd.snd] ∧
        CallT [Ty.one (Sh.int IntKind.i64)] Try.prog (134 : Nat)
          [Value.agg
              #[Value.int IntKind.i64 x.fst, Value.int IntKind.i64 x.snd.fst, Value.int IntKind.i64 x.snd.snd.fst,
                Value.int IntKind.i64 x.snd.snd.snd.fst, Value.int IntKind.i64 x.snd.snd.snd.snd.fst,
                Value.int IntKind.i64 x.snd.snd.snd.snd.snd.fst, Value.int IntKind.i64 x.snd.snd.snd.snd.snd.snd.fst,
                Value.int IntKind.i64 x.snd.snd.snd.snd.snd.snd.snd.fst,
                Value.int IntKind.i64 x.snd.snd.snd.snd.snd.snd.snd.snd],
            Value.int IntKind.i64 n1]
          w1 fun (x : Int) (w' : World) =>
          cnd (x != (7 : Int)) (R ((0 : Int), false) w')
            (∃ (x : Int),
              w'.drew.cell? ((Addr.mk w.heap.size (0 : Nat) none).add (7 : Nat)) = some (Value.int IntKind.i64 x) ∧
                ∃ (x_1 : Int),
                  w'.drew.cell? ((Addr.mk w.heap.size (0 : Nat) none).add (7 : Nat)) = some (Value.int IntKind.i64 x_1) ∧
                    let w1 := w'.drew;
                    cnd ((IntKind.i64.wrap (n1 - x_1)).tmod (32 : Int) == (0 : Int)) (R ((0 : Int), false) w1)
                      (R
                        (IntKind.i64.wrap
                            (IntKind.i64.wrap
                                (IntKind.i64.wrap
                                    (IntKind.i64.wrap ((IntKind.i64.wrap (n1 - x)).tdiv (32 : Int)) * (31 : Int)) +
                                  (IntKind.i64.wrap (n1 - x_1)).tmod (32 : Int)) -
                              (1 : Int)),
                          true)
                        w1)))
  : CallT [Ty.one (Sh.int IntKind.i64), Ty.one Sh.bool] Try.prog 146 [Value.agg
    #[Value.int IntKind.i64 x0.fst, Value.int IntKind.i64 x0.snd.fst, Value.int IntKind.i64 x0.snd.snd.fst,
      Value.int IntKind.i64 x0.snd.snd.snd.fst, Value.int IntKind.i64 x0.snd.snd.snd.snd.fst,
      Value.int IntKind.i64 x0.snd.snd.snd.snd.snd.fst, Value.int IntKind.i64 x0.snd.snd.snd.snd.snd.snd.fst,
      Value.int IntKind.i64 x0.snd.snd.snd.snd.snd.snd.snd.fst,
      Value.int IntKind.i64 x0.snd.snd.snd.snd.snd.snd.snd.snd],
  Value.int IntKind.i64 n1] w R :=
  fnV_sound (h := HT.z.sq (HT.z.sq ((HT.rg (12 : Nat)).sq HT.z))) Try.func146 (by kernel_rfl) (by kernel_rfl) (Eq.mp (by kernel_rfl) h)

/-- slices.ContainsFunc[[]dunnage/api.Extent,dunnage/api.Extent] -/
theorem slices_ContainsFunc_api_Extent_api_Extent.vc (s0 : SV) (v1 : Value) (w : World) (R : Bool → World → Prop)
  (h : CallT [Ty.one (Sh.int IntKind.i64)] Try.prog (181 : Nat) [Value.slice s0.a s0.len s0.cap, v1] w
      fun (x : Int) (w' : World) => R (decide (x ≥ (0 : Int))) w')
  : CallT [Ty.one Sh.bool] Try.prog 147 [Value.slice s0.a s0.len s0.cap, v1] w R :=
  fnV_sound (h := HT.z) Try.func147 (by kernel_rfl) (by kernel_rfl) (Eq.mp (by kernel_rfl) h)

/-- dunnage/scrub.Holds$1 -/
theorem scrub_Holds_1.vc (x0 : Int × Int × Int) (p1 : Option Addr) (w : World) (R : Bool → World → Prop)
  (h : let w1 :=
      w.alloc
        (Obj.cells #[Value.int IntKind.u64 x0.fst, Value.int IntKind.i64 x0.snd.fst, Value.int IntKind.i64 x0.snd.snd]
          (121 : Nat));
    onP p1 fun (A : Addr) =>
      ∃ (x : Int),
        w1.cell? A = some (Value.int IntKind.i64 x) ∧
          ∃ (x_1 : Int),
            w1.cell? ((Addr.mk w.heap.size (0 : Nat) none).add (1 : Nat)) = some (Value.int IntKind.i64 x_1) ∧
              cnd (decide (x ≥ x_1))
                (onP p1 fun (A : Addr) =>
                  ∃ (x : Int),
                    w1.cell? A = some (Value.int IntKind.i64 x) ∧
                      ∃ (x_2 : Int),
                        w1.cell? ((Addr.mk w.heap.size (0 : Nat) none).add (1 : Nat)) = some (Value.int IntKind.i64 x_2) ∧
                          ∃ (x_3 : Int),
                            w1.cell? ((Addr.mk w.heap.size (0 : Nat) none).add (2 : Nat)) =
                                some (Value.int IntKind.i64 x_3) ∧
                              R (decide (IntKind.i64.wrap (x - x_2) < x_3)) w1)
                (R false w1))
  : CallT [Ty.one Sh.bool] Try.prog 148 [Value.agg #[Value.int IntKind.u64 x0.fst, Value.int IntKind.i64 x0.snd.fst, Value.int IntKind.i64 x0.snd.snd],
  Value.pointer p1] w R :=
  fnV_sound (h := HT.z) Try.func148 (by kernel_rfl) (by kernel_rfl) (Eq.mp (by kernel_rfl) h)

/-- dunnage/dunnageref29.in -/
theorem dunnageref29_in.vc (n0 : Int) (n1 : Int) (n2 : Int) (w : World) (R : Bool → World → Prop)
  (h : cnd (decide (n0 ≥ n1)) (R (decide (n0 < IntKind.i64.wrap (n1 + n2))) w) (R false w))
  : CallT [Ty.one Sh.bool] Try.prog 149 [Value.int IntKind.i64 n0, Value.int IntKind.i64 n1, Value.int IntKind.i64 n2] w R :=
  fnV_sound (h := HT.z) Try.func149 (by kernel_rfl) (by kernel_rfl) (Eq.mp (by kernel_rfl) h)

/-- dunnage/dunnageref05.Logic -/
theorem dunnageref05_Logic.vc (x0 : Int × Int × Int × Int × Int × Int × Int × Int × Int) (n1 : Int) (w : World) (R : Int × Bool → World → Prop)
  (h : let w1 :=
      w.alloc
        (Obj.cells
          #[Value.int IntKind.i64 x0.fst, Value.int IntKind.i64 x0.snd.fst, Value.int IntKind.i64 x0.snd.snd.fst,
            Value.int IntKind.i64 x0.snd.snd.snd.fst, Value.int IntKind.i64 x0.snd.snd.snd.snd.fst,
            Value.int IntKind.i64 x0.snd.snd.snd.snd.snd.fst, Value.int IntKind.i64 x0.snd.snd.snd.snd.snd.snd.fst,
            Value.int IntKind.i64 x0.snd.snd.snd.snd.snd.snd.snd.fst,
            Value.int IntKind.i64 x0.snd.snd.snd.snd.snd.snd.snd.snd]
          (83 : Nat));
    ∃ (R_1 : PUnit → World → Prop),
      (∃ (x : Int × Int × Int × Int × Int × Int × Int × Int × Int),
          cellsAt w1 (Addr.mk w.heap.size (0 : Nat) none)
              [Value.int IntKind.i64 x.fst, Value.int IntKind.i64 x.snd.fst, Value.int IntKind.i64 x.snd.snd.fst,
                Value.int IntKind.i64 x.snd.snd.snd.fst, Value.int IntKind.i64 x.snd.snd.snd.snd.fst,
                Value.int IntKind.i64 x.snd.snd.snd.snd.snd.fst, Value.int IntKind.i64 x.snd.snd.snd.snd.snd.snd.fst,
                Value.int IntKind.i64 x.snd.snd.snd.snd.snd.snd.snd.fst,
                Value.int IntKind.i64 x.snd.snd.snd.snd.snd.snd.snd.snd] ∧
            CallT [Ty.one (Sh.int IntKind.i64)] Try.prog (82 : Nat)
              [Value.agg
                  #[Value.int IntKind.i64 x.fst, Value.int IntKind.i64 x.snd.fst, Value.int IntKind.i64 x.snd.snd.fst,
                    Value.int IntKind.i64 x.snd.snd.snd.fst, Value.int IntKind.i64 x.snd.snd.snd.snd.fst,
                    Value.int IntKind.i64 x.snd.snd.snd.snd.snd.fst, Value.int IntKind.i64 x.snd.snd.snd.snd.snd.snd.fst,
                    Value.int IntKind.i64 x.snd.snd.snd.snd.snd.snd.snd.fst,
                    Value.int IntKind.i64 x.snd.snd.snd.snd.snd.snd.snd.snd],
                Value.int IntKind.i64 n1]
              w1 fun (x : Int) (w' : World) =>
              cnd (x != (7 : Int)) (R ((0 : Int), false) w')
                (∃ (x : Int),
                  w'.cell? ((Addr.mk w.heap.size (0 : Nat) none).add (7 : Nat)) = some (Value.int IntKind.i64 x) ∧
                    cnd ((IntKind.i64.wrap (n1 - x)).tmod (32 : Int) == (0 : Int)) (R ((0 : Int), false) w') (R_1 () w'))) ∧
        ∀ (x : PUnit) (j : Nat → Value) (w' : World),
          R_1 x w' →
            ∃ (x : Int),
              w'.cell? ((Addr.mk w.heap.size (0 : Nat) none).add (7 : Nat)) = some (Value.int IntKind.i64 x) ∧
                ∃ (x_1 : Int),
                  w'.cell? ((Addr.mk w.heap.size (0 : Nat) none).add (7 : Nat)) = some (Value.int IntKind.i64 x_1) ∧
                    R
                      (IntKind.i64.wrap
                          (IntKind.i64.wrap
                              (IntKind.i64.wrap
                                  (IntKind.i64.wrap ((IntKind.i64.wrap (n1 - x)).tdiv (32 : Int)) * (31 : Int)) +
                                (IntKind.i64.wrap (n1 - x_1)).tmod (32 : Int)) -
                            (1 : Int)),
                        true)
                      w')
  : CallT [Ty.one (Sh.int IntKind.i64), Ty.one Sh.bool] Try.prog 150 [Value.agg
    #[Value.int IntKind.i64 x0.fst, Value.int IntKind.i64 x0.snd.fst, Value.int IntKind.i64 x0.snd.snd.fst,
      Value.int IntKind.i64 x0.snd.snd.snd.fst, Value.int IntKind.i64 x0.snd.snd.snd.snd.fst,
      Value.int IntKind.i64 x0.snd.snd.snd.snd.snd.fst, Value.int IntKind.i64 x0.snd.snd.snd.snd.snd.snd.fst,
      Value.int IntKind.i64 x0.snd.snd.snd.snd.snd.snd.snd.fst,
      Value.int IntKind.i64 x0.snd.snd.snd.snd.snd.snd.snd.snd],
  Value.int IntKind.i64 n1] w R :=
  fnV_sound (h := HT.z.sq (HT.jn [] HT.z HT.z)) Try.func150 (by kernel_rfl) (by kernel_rfl) (Eq.mp (by kernel_rfl) h)

/-- dunnage/dunnagehelp.Plain[dunnage/api.Extent] -/
theorem dunnagehelp_Plain_api_Extent.vc (s0 : SV) (s1 : SV) (w : World) (R : Bool → World → Prop)
  (h : CallT [Ty.one Sh.bool] Try.prog (182 : Nat)
      [Value.slice s0.a s0.len s0.cap, Value.slice s1.a s1.len s1.cap, Value.func (Fn.func (183 : Nat)) #[] #[]] w
      fun (x : Bool) (w' : World) => R x w')
  : CallT [Ty.one Sh.bool] Try.prog 151 [Value.slice s0.a s0.len s0.cap, Value.slice s1.a s1.len s1.cap] w R :=
  fnV_sound (h := HT.z) Try.func151 (by kernel_rfl) (by kernel_rfl) (Eq.mp (by kernel_rfl) h)

/-- (*dunnage/dunnagelaw07.book).agree -/
theorem dunnagelaw07_book_agree.vc (p0 : Option Addr) (w : World) (R : Bool → World → Prop)
  (h : ∃ (S : World → Prop),
      S w.drew ∧
        onP p0 fun (a : Addr) =>
          ∃ (x : Option Addr),
            (∀ (w : World), S w → w.cell? (a.add (10 : Nat)) = some (Value.pointer x)) ∧
              onP p0 fun (a : Addr) =>
                ∃ (x_1 : Int),
                  (∀ (w : World), S w → w.cell? (a.add (15 : Nat)) = some (Value.int IntKind.u64 x_1)) ∧
                    CallT [Ty.one (Sh.int IntKind.u64)] Try.prog (100 : Nat) [Value.pointer x] w.drew
                      fun (x : Int) (w' : World) =>
                      S w' ∧
                        cnd (x == x_1)
                          (onP p0 fun (a : Addr) =>
                            ∃ (x : Option Addr),
                              (∀ (w : World), S w → w.cell? (a.add (10 : Nat)) = some (Value.pointer x)) ∧
                                onP p0 fun (a : Addr) =>
                                  ∃ (x_2 : Int),
                                    (∀ (w : World), S w → w.cell? (a.add (16 : Nat)) = some (Value.int IntKind.u64 x_2)) ∧
                                      CallT [Ty.one (Sh.int IntKind.u64)] Try.prog (101 : Nat) [Value.pointer x] w'
                                        fun (x : Int) (w' : World) =>
                                        S w' ∧
                                          cnd (x == x_2)
                                            (onP p0 fun (a : Addr) =>
                                              ∃ (x : Option Addr),
                                                (∀ (w : World), S w → w.cell? (a.add (10 : Nat)) = some (Value.pointer x)) ∧
                                                  CallT [Ty.one (Sh.int IntKind.u64)] Try.prog (102 : Nat) [Value.pointer x]
                                                    w' fun (x : Int) (w' : World) =>
                                                    S w' ∧
                                                      CallT [Ty.one (Sh.int IntKind.u64)] Try.prog (154 : Nat)
                                                        [Value.pointer p0] w' fun (x_3 : Int) (w' : World) =>
                                                        S w' ∧
                                                          cnd (x == x_3)
                                                            (onP p0 fun (a : Addr) =>
                                                              ∃ (x : Option Addr),
                                                                (∀ (w : World),
                                                                    S w →
                                                                      w.cell? (a.add (10 : Nat)) = some (Value.pointer x)) ∧
                                                                  onP p0 fun (a : Addr) =>
                                                                    ∃ (x_4 : Int),
                                                                      (∀ (w : World),
                                                                          S w →
                                                                            w.cell? ((a.add (1 : Nat)).add (3 : Nat)) =
                                                                              some (Value.int IntKind.i64 x_4)) ∧
                                                                        onP p0 fun (a : Addr) =>
                                                                          ∃ (x_5 : Int),
                                                                            (∀ (w : World),
                                                                                S w →
                                                                                  w.cell? (a.add (16 : Nat)) =
                                                                                    some (Value.int IntKind.u64 x_5)) ∧
                                                                              onP p0 fun (a : Addr) =>
                                                                                ∃ (x_6 : Int),
                                                                                  (∀ (w : World),
                                                                                      S w →
                                                                                        w.cell? (a.add (15 : Nat)) =
                                                                                          some
                                                                                            (Value.int IntKind.u64 x_6)) ∧
                                                                                    CallT [Ty.one (Sh.int IntKind.i64)]
                                                                                      Try.prog (93 : Nat) [Value.pointer x]
                                                                                      w' fun (x : Int) (w' : World) =>
                                                                                      S w' ∧
                                                                                        R
                                                                                          (x ==
                                                                                            IntKind.i64.wrap
                                                                                              (x_4 -
                                                                                                IntKind.i64.wrap
                                                                                                  (IntKind.u64.wrap
                                                                                                    (x_5 - x_6))))
                                                                                          w')
                                                            (S w' ∧ R false w'))
                                            (S w' ∧ S w' ∧ S w' ∧ R false w'))
                          (S w' ∧ S w' ∧ S w' ∧ S w' ∧ R false w'))
  : CallT [Ty.one Sh.bool] Try.prog 152 [Value.pointer p0] w R :=
  fnV_sound (h := HT.z.sq
  ((HT.dr
        (DT.take (0 : Nat)
          (DT.take (1 : Nat)
            (DT.take (2 : Nat)
              (DT.take (3 : Nat)
                (DT.take (5 : Nat)
                  (DT.take (6 : Nat)
                    (DT.take (7 : Nat)
                      (DT.take (8 : Nat)
                        (DT.alt (4 : Nat)
                          (DT.take (9 : Nat)
                            (DT.take (10 : Nat)
                              (DT.take (11 : Nat)
                                (DT.take (12 : Nat)
                                  (DT.take (13 : Nat)
                                    (DT.take (14 : Nat)
                                      (DT.take (16 : Nat)
                                        (DT.take (17 : Nat)
                                          (DT.take (18 : Nat)
                                            (DT.take (19 : Nat)
                                              (DT.alt (15 : Nat)
                                                (DT.take (20 : Nat)
                                                  (DT.take (21 : Nat)
                                                    (DT.take (22 : Nat)
                                                      (DT.take (23 : Nat)
                                                        (DT.take (24 : Nat)
                                                          (DT.take (25 : Nat)
                                                            (DT.take (26 : Nat)
                                                              (DT.take (28 : Nat)
                                                                (DT.alt (27 : Nat)
                                                                  (DT.alt (29 : Nat)
                                                                    (DT.take (30 : Nat)
                                                                      (DT.take (31 : Nat)
                                                                        (DT.take (32 : Nat)
                                                                          (DT.take (33 : Nat)
                                                                            (DT.take (34 : Nat)
                                                                              (DT.take (35 : Nat)
                                                                                (DT.take (36 : Nat)
                                                                                  (DT.take (38 : Nat)
                                                                                    (DT.take (39 : Nat)
                                                                                      (DT.take (40 : Nat)
                                                                                        (DT.take (41 : Nat)
                                                                                          (DT.take (42 : Nat)
                                                                                            (DT.take (43 : Nat)
                                                                                              (DT.take (44 : Nat)
                                                                                                (DT.take (45 : Nat)
                                                                                                  (DT.take (46 : Nat)
                                                                                                    (DT.take (47 : Nat)
                                                                                                      (DT.take
                                                                                                        (48 : Nat)
                                                                                                        (DT.take
                                                                                                          (49 : Nat)
                                                                                                          (DT.take
                                                                                                            (50 : Nat)
                                                                                                            (DT.take
                                                                                                              (51 : Nat)
                                                                                                              (DT.take
                                                                                                                (52 :
                                                                                                                  Nat)
                                                                                                                (DT.take
                                                                                                                  (53 :
                                                                                                                    Nat)
                                                                                                                  (DT.alt
                                                                                                                    (37 :
                                                                                                                      Nat)
                                                                                                                    (DT.take
                                                                                                                      (54 :
                                                                                                                        Nat)
                                                                                                                      (DT.take
                                                                                                                        (55 :
                                                                                                                          Nat)
                                                                                                                        (DT.take
                                                                                                                          (56 :
                                                                                                                            Nat)
                                                                                                                          DT.fin)))
                                                                                                                    DT.fin))))))))))))))))))))))))
                                                                    DT.fin)
                                                                  DT.fin)))))))))
                                                DT.fin)))))))))))
                          DT.fin)))))))))).sq
    HT.z)) Try.func152 (by kernel_rfl) (by kernel_rfl) (Eq.mp (by kernel_rfl) h)

/-- (*dunnage/wal.Log).ready -/
theorem wal_Log_ready.vc (p0 : Option Addr) (w : World) (R : Int → World → Prop)
  (h : cnd p0.isNone (R (2 : Int) w)
      (∃ (R_1 : Bool → World → Prop),
        (onP p0 fun (a : Addr) =>
            ∃ (x : Bool),
              w.cell? (a.add (14 : Nat)) = some (Value.bool x) ∧
                cnd x (R_1 true w)
                  (onP p0 fun (a : Addr) =>
                    ∃ (x : Option Addr),
                      w.cell? (a.add (0 : Nat)) = some (Value.pointer x) ∧
                        CallT [Ty.one Sh.bool] Try.prog (43 : Nat) [Value.pointer x] w fun (x : Bool) (w' : World) =>
                          R_1 x w')) ∧
          ∀ (x : Bool) (j : Nat → Value) (w' : World),
            R_1 x w' →
              cnd x
                (onP p0 fun (a : Addr) =>
                  (w'.cell? (a.add (14 : Nat))).isSome = true ∧
                    w'.frozen? (a.add (14 : Nat)) = false ∧ R (40 : Int) (w'.setCell (a.add (14 : Nat)) (Value.bool true)))
                (R (0 : Int) w')))
  : CallT [Ty.one (Sh.int IntKind.i64)] Try.prog 153 [Value.pointer p0] w R :=
  fnV_sound (h := HT.z.sq ((HT.z.sq (HT.z.cd (HT.jn [((6 : Nat), Ty.one Sh.bool)] HT.z HT.z))).bl.sq HT.z)) Try.func153 (by kernel_rfl) (by kernel_rfl) (Eq.mp (by kernel_rfl) h)

/-- (*dunnage/dunnagelaw07.book).least -/
theorem dunnagelaw07_book_least.vc (p0 : Option Addr) (w : World) (R : Int → World → Prop)
  (h : onP p0 fun (a : Addr) =>
      ∃ (x : SV),
        w.cell? (a.add (14 : Nat)) = some (Value.slice x.a x.len x.cap) ∧
          cnd (decide ((↑x.len : Int) > (0 : Int)))
            (onP p0 fun (a : Addr) =>
              ∃ (x : SV),
                w.cell? (a.add (14 : Nat)) = some (Value.slice x.a x.len x.cap) ∧
                  (0 : Int) ≤ (0 : Int) ∧
                    (0 : Int) < (↑x.len : Int) ∧
                      onP x.a fun (A : Addr) =>
                        ∃ (x : Int),
                          w.cell? (A.add (Int.toNat (0 : Int) * (1 : Nat))) = some (Value.int IntKind.u64 x) ∧ R x w)
            (onP p0 fun (a : Addr) => ∃ (x : Int), w.cell? (a.add (11 : Nat)) = some (Value.int IntKind.u64 x) ∧ R x w))
  : CallT [Ty.one (Sh.int IntKind.u64)] Try.prog 154 [Value.pointer p0] w R :=
  fnV_sound (h := HT.z) Try.func154 (by kernel_rfl) (by kernel_rfl) (Eq.mp (by kernel_rfl) h)

/-- (*dunnage/wal.Log).whole -/
theorem wal_Log_whole.vc (p0 : Option Addr) (n1 : Int) (n2 : Int) (n3 : Int) (w : World) (R : SV × (Int × Int × Int × SV) × Bool × Int → World → Prop)
  (h : let w1 :=
      w.alloc
        (Obj.cells
          #[Value.int IntKind.u64 (0 : Int), Value.int IntKind.u64 (0 : Int), Value.int IntKind.i64 (0 : Int),
            Value.slice none (0 : Nat) (0 : Nat)]
          (51 : Nat));
    ∃ (R_1 : SV → World → Prop),
      (∃ (I : Nat → SV × Int → World → Prop),
          (∃ (n : Nat),
              I n (SV.mk none (0 : Nat) (0 : Nat), (0 : Int))
                (w1.alloc
                  (Obj.cells
                    #[Value.int IntKind.u64 (0 : Int), Value.int IntKind.u64 (0 : Int), Value.int IntKind.i64 (0 : Int),
                      Value.slice none (0 : Nat) (0 : Nat)]
                    (51 : Nat)))) ∧
            ∀ (n : Nat) (x : SV × Int) (j : Nat → Value) (w' : World),
              I n x w' →
                ∃ (R_2 : PUnit → World → Prop),
                  cnd (x.snd == (0 : Int)) (R_2 () w')
                      (let e1 := x.snd;
                      ∃ (x_1 : Int),
                        w'.cell? ((Addr.mk w1.heap.size (0 : Nat) none).add (2 : Nat)) = some (Value.int IntKind.i64 x_1) ∧
                          cnd (decide (e1 < x_1)) (R_2 () w') (R_1 x.fst w')) ∧
                    ∀ (x_1 : PUnit) (j : Nat → Value) (w' : World),
                      R_2 x_1 w' →
                        let e1 := x.snd;
                        cnd (decide (e1 ≥ n3))
                          (∃ (x : Int × Int × Int × SV),
                            cellsAt w'.drew (Addr.mk w1.heap.size (0 : Nat) none)
                                [Value.int IntKind.u64 x.fst, Value.int IntKind.u64 x.snd.fst,
                                  Value.int IntKind.i64 x.snd.snd.fst,
                                  Value.slice x.snd.snd.snd.a x.snd.snd.snd.len x.snd.snd.snd.cap] ∧
                              canSt w'.drew (Addr.mk w.heap.size (0 : Nat) none) (4 : Nat) ∧
                                let w1 :=
                                  setCells w'.drew (Addr.mk w.heap.size (0 : Nat) none) (0 : Nat)
                                    [Value.int IntKind.u64 x.fst, Value.int IntKind.u64 x.snd.fst,
                                      Value.int IntKind.i64 x.snd.snd.fst,
                                      Value.slice x.snd.snd.snd.a x.snd.snd.snd.len x.snd.snd.snd.cap];
                                ∃ (x : Int × Int × Int × SV),
                                  cellsAt w1 (Addr.mk w.heap.size (0 : Nat) none)
                                      [Value.int IntKind.u64 x.fst, Value.int IntKind.u64 x.snd.fst,
                                        Value.int IntKind.i64 x.snd.snd.fst,
                                        Value.slice x.snd.snd.snd.a x.snd.snd.snd.len x.snd.snd.snd.cap] ∧
                                    R
                                      (SV.mk none (0 : Nat) (0 : Nat), (x.fst, x.snd.fst, x.snd.snd.fst, x.snd.snd.snd),
                                        false, (0 : Int))
                                      w1)
                          (CallT
                            [Ty.agg [Sh.int IntKind.u64, Sh.int IntKind.u64, Sh.int IntKind.i64, Sh.slice], Ty.one Sh.bool,
                              Ty.one (Sh.int IntKind.i64)]
                            Try.prog (184 : Nat)
                            [Value.pointer p0, Value.int IntKind.u64 (IntKind.u64.wrap (n1 + IntKind.u64.wrap x.snd))] w'
                            fun (x_2 : (Int × Int × Int × SV) × Bool × Int) (w' : World) =>
                            let b1 := x_2.snd.fst;
                            let e1 := x_2.snd.snd;
                            let w1_1 :=
                              w'.alloc
                                (Obj.cells
                                  #[Value.int IntKind.u64 (0 : Int), Value.int IntKind.u64 (0 : Int),
                                    Value.int IntKind.i64 (0 : Int), Value.slice none (0 : Nat) (0 : Nat)]
                                  (51 : Nat));
                            canSt w1_1 (Addr.mk w'.heap.size (0 : Nat) none) (4 : Nat) ∧
                              let w1_2 :=
                                setCells w1_1 (Addr.mk w'.heap.size (0 : Nat) none) (0 : Nat)
                                  [Value.int IntKind.u64 x_2.fst.fst, Value.int IntKind.u64 x_2.fst.snd.fst,
                                    Value.int IntKind.i64 x_2.fst.snd.snd.fst,
                                    Value.slice x_2.fst.snd.snd.snd.a x_2.fst.snd.snd.snd.len x_2.fst.snd.snd.snd.cap];
                              cnd (e1 != (0 : Int))
                                (∃ (S : World → Prop),
                                  S w1_2.drew ∧
                                    ∃ (x : Int × Int × Int × SV),
                                      (∀ (w : World),
                                          S w →
                                            cellsAt w (Addr.mk w1.heap.size (0 : Nat) none)
                                              [Value.int IntKind.u64 x.fst, Value.int IntKind.u64 x.snd.fst,
                                                Value.int IntKind.i64 x.snd.snd.fst,
                                                Value.slice x.snd.snd.snd.a x.snd.snd.snd.len x.snd.snd.snd.cap]) ∧
                                        canSt w1_2.drew (Addr.mk w.heap.size (0 : Nat) none) (4 : Nat) ∧
                                          let w1 :=
                                            setCells w1_2.drew (Addr.mk w.heap.size (0 : Nat) none) (0 : Nat)
                                              [Value.int IntKind.u64 x.fst, Value.int IntKind.u64 x.snd.fst,
                                                Value.int IntKind.i64 x.snd.snd.fst,
                                                Value.slice x.snd.snd.snd.a x.snd.snd.snd.len x.snd.snd.snd.cap];
                                          ∃ (x : Int × Int × Int × SV),
                                            cellsAt w1 (Addr.mk w.heap.size (0 : Nat) none)
                                                [Value.int IntKind.u64 x.fst, Value.int IntKind.u64 x.snd.fst,
                                                  Value.int IntKind.i64 x.snd.snd.fst,
                                                  Value.slice x.snd.snd.snd.a x.snd.snd.snd.len x.snd.snd.snd.cap] ∧
                                              R
                                                (SV.mk none (0 : Nat) (0 : Nat),
                                                  (x.fst, x.snd.fst, x.snd.snd.fst, x.snd.snd.snd), false, e1)
                                                w1)
                                (∃ (R_3 : Bool → World → Prop),
                                  cnd (x.snd == (0 : Int))
                                      (∃ (x : Int × Int × Int × SV),
                                        cellsAt w1_2 (Addr.mk w'.heap.size (0 : Nat) none)
                                            [Value.int IntKind.u64 x.fst, Value.int IntKind.u64 x.snd.fst,
                                              Value.int IntKind.i64 x.snd.snd.fst,
                                              Value.slice x.snd.snd.snd.a x.snd.snd.snd.len x.snd.snd.snd.cap] ∧
                                          canSt w1_2 (Addr.mk w1.heap.size (0 : Nat) none) (4 : Nat) ∧
                                            let w1 :=
                                              setCells w1_2 (Addr.mk w1.heap.size (0 : Nat) none) (0 : Nat)
                                                [Value.int IntKind.u64 x.fst, Value.int IntKind.u64 x.snd.fst,
                                                  Value.int IntKind.i64 x.snd.snd.fst,
                                                  Value.slice x.snd.snd.snd.a x.snd.snd.snd.len x.snd.snd.snd.cap];
                                            cnd b1
                                              (∃ (x : Int),
                                                w1.drew.cell? ((Addr.mk w'.heap.size (0 : Nat) none).add (1 : Nat)) =
                                                    some (Value.int IntKind.u64 x) ∧
                                                  cnd (x == n1)
                                                    (∃ (x : Int),
                                                      w1.drew.cell? ((Addr.mk w'.heap.size (0 : Nat) none).add (0 : Nat)) =
                                                          some (Value.int IntKind.u64 x) ∧
                                                        cnd (decide (x ≥ n2))
                                                          (∃ (x : Int),
                                                            w1.drew.cell?
                                                                  ((Addr.mk w'.heap.size (0 : Nat) none).add (0 : Nat)) =
                                                                some (Value.int IntKind.u64 x) ∧
                                                              onP p0 fun (a : Addr) =>
                                                                ∃ (x_3 : Int),
                                                                  w1.drew.cell? (a.add (12 : Nat)) =
                                                                      some (Value.int IntKind.u64 x_3) ∧
                                                                    R_3 (decide (x < x_3)) w1.drew)
                                                          (R_3 false w1.drew))
                                                    (R_3 false w1.drew))
                                              (R_3 false w1.drew))
                                      (R_3 b1 w1_2) ∧
                                    ∀ (x_3 : Bool) (j : Nat → Value) (w'_1 : World),
                                      R_3 x_3 w'_1 →
                                        ∃ (R_4 : PUnit → World → Prop),
                                          (∃ (R_5 : Bool → World → Prop),
                                              cnd (!x_3) (R_5 true w'_1)
                                                  (∃ (x : Int),
                                                    w'_1.cell? ((Addr.mk w'.heap.size (0 : Nat) none).add (1 : Nat)) =
                                                        some (Value.int IntKind.u64 x) ∧
                                                      cnd (x != n1) (R_5 true w'_1)
                                                        (∃ (x : Int),
                                                          w'_1.cell? ((Addr.mk w'.heap.size (0 : Nat) none).add (0 : Nat)) =
                                                              some (Value.int IntKind.u64 x) ∧
                                                            ∃ (x_4 : Int),
                                                              w'_1.cell?
                                                                    ((Addr.mk w1.heap.size (0 : Nat) none).add (0 : Nat)) =
                                                                  some (Value.int IntKind.u64 x_4) ∧
                                                                cnd (x != x_4) (R_5 true w'_1)
                                                                  (∃ (x : Int),
                                                                    w'_1.cell?
                                                                          ((Addr.mk w'.heap.size (0 : Nat) none).add
                                                                            (2 : Nat)) =
                                                                        some (Value.int IntKind.i64 x) ∧
                                                                      ∃ (x_5 : Int),
                                                                        w'_1.cell?
                                                                              ((Addr.mk w1.heap.size (0 : Nat) none).add
                                                                                (2 : Nat)) =
                                                                            some (Value.int IntKind.i64 x_5) ∧
                                                                          R_5 (x != x_5) w'_1))) ∧
                                                ∀ (x : Bool) (j : Nat → Value) (w' : World),
                                                  R_5 x w' →
                                                    cnd x
                                                      (∃ (x : Int × Int × Int × SV),
                                                        cellsAt w'.drew (Addr.mk w1.heap.size (0 : Nat) none)
                                                            [Value.int IntKind.u64 x.fst, Value.int IntKind.u64 x.snd.fst,
                                                              Value.int IntKind.i64 x.snd.snd.fst,
                                                              Value.slice x.snd.snd.snd.a x.snd.snd.snd.len
                                                                x.snd.snd.snd.cap] ∧
                                                          canSt w'.drew (Addr.mk w.heap.size (0 : Nat) none) (4 : Nat) ∧
                                                            let w1 :=
                                                              setCells w'.drew (Addr.mk w.heap.size (0 : Nat) none)
                                                                (0 : Nat)
                                                                [Value.int IntKind.u64 x.fst,
                                                                  Value.int IntKind.u64 x.snd.fst,
                                                                  Value.int IntKind.i64 x.snd.snd.fst,
                                                                  Value.slice x.snd.snd.snd.a x.snd.snd.snd.len
                                                                    x.snd.snd.snd.cap];
                                                            ∃ (x : Int × Int × Int × SV),
                                                              cellsAt w1 (Addr.mk w.heap.size (0 : Nat) none)
                                                                  [Value.int IntKind.u64 x.fst,
                                                                    Value.int IntKind.u64 x.snd.fst,
                                                                    Value.int IntKind.i64 x.snd.snd.fst,
                                                                    Value.slice x.snd.snd.snd.a x.snd.snd.snd.len
                                                                      x.snd.snd.snd.cap] ∧
                                                                R
                                                                  (SV.mk none (0 : Nat) (0 : Nat),
                                                                    (x.fst, x.snd.fst, x.snd.snd.fst, x.snd.snd.snd), false,
                                                                    (0 : Int))
                                                                  w1)
                                                      (R_4 () w')) ∧
                                            ∀ (x_4 : PUnit) (j : Nat → Value) (w'_2 : World),
                                              R_4 x_4 w'_2 →
                                                ∃ (x_5 : Int × Int × Int × SV),
                                                  cellsAt w'_2 (Addr.mk w'.heap.size (0 : Nat) none)
                                                      [Value.int IntKind.u64 x_5.fst, Value.int IntKind.u64 x_5.snd.fst,
                                                        Value.int IntKind.i64 x_5.snd.snd.fst,
                                                        Value.slice x_5.snd.snd.snd.a x_5.snd.snd.snd.len
                                                          x_5.snd.snd.snd.cap] ∧
                                                    appV Try.prog [(35 : Nat), (35 : Nat)] (35 : Nat)
                                                      [Value.slice x.fst.a x.fst.len x.fst.cap,
                                                        Value.slice (some (Addr.mk w'_2.heap.size (0 : Nat) none)) (1 : Nat)
                                                          (1 : Nat)]
                                                      (w'_2.alloc
                                                        (Obj.cells
                                                          #[Value.int IntKind.u64 x_5.fst,
                                                            Value.int IntKind.u64 x_5.snd.fst,
                                                            Value.int IntKind.i64 x_5.snd.snd.fst,
                                                            Value.slice x_5.snd.snd.snd.a x_5.snd.snd.snd.len
                                                              x_5.snd.snd.snd.cap]
                                                          (51 : Nat)))
                                                      fun (s : SV) (w' : World) =>
                                                      ∃ (m : Nat),
                                                        m < n ∧ I m (s, IntKind.i64.wrap (x.snd + (1 : Int))) w'))) ∧
        ∀ (x : SV) (j : Nat → Value) (w' : World),
          R_1 x w' →
            CallT [Ty.one Sh.slice, Ty.one (Sh.int IntKind.i64)] Try.prog (35 : Nat) [Value.slice x.a x.len x.cap] w'
              fun (x : SV × Int) (w' : World) =>
              ∃ (S : World → Prop),
                S w'.drew ∧
                  ∃ (x_1 : Int × Int × Int × SV),
                    (∀ (w : World),
                        S w →
                          cellsAt w (Addr.mk w1.heap.size (0 : Nat) none)
                            [Value.int IntKind.u64 x_1.fst, Value.int IntKind.u64 x_1.snd.fst,
                              Value.int IntKind.i64 x_1.snd.snd.fst,
                              Value.slice x_1.snd.snd.snd.a x_1.snd.snd.snd.len x_1.snd.snd.snd.cap]) ∧
                      canSt w'.drew (Addr.mk w.heap.size (0 : Nat) none) (4 : Nat) ∧
                        let w1 :=
                          setCells w'.drew (Addr.mk w.heap.size (0 : Nat) none) (0 : Nat)
                            [Value.int IntKind.u64 x_1.fst, Value.int IntKind.u64 x_1.snd.fst,
                              Value.int IntKind.i64 x_1.snd.snd.fst,
                              Value.slice x_1.snd.snd.snd.a x_1.snd.snd.snd.len x_1.snd.snd.snd.cap];
                        ∃ (x_2 : Int × Int × Int × SV),
                          cellsAt w1 (Addr.mk w.heap.size (0 : Nat) none)
                              [Value.int IntKind.u64 x_2.fst, Value.int IntKind.u64 x_2.snd.fst,
                                Value.int IntKind.i64 x_2.snd.snd.fst,
                                Value.slice x_2.snd.snd.snd.a x_2.snd.snd.snd.len x_2.snd.snd.snd.cap] ∧
                            R
                              (x.fst, (x_2.fst, x_2.snd.fst, x_2.snd.snd.fst, x_2.snd.snd.snd), x.snd == (0 : Int),
                                (0 : Int))
                              w1)
  : CallT [Ty.one Sh.slice, Ty.agg [Sh.int IntKind.u64, Sh.int IntKind.u64, Sh.int IntKind.i64, Sh.slice], Ty.one Sh.bool,
  Ty.one (Sh.int IntKind.i64)] Try.prog 155 [Value.pointer p0, Value.int IntKind.u64 n1, Value.int IntKind.u64 n2, Value.int IntKind.i64 n3] w R :=
  fnV_sound (h := HT.z.sq
  (HT.z.sq
    (HT.z.sq
      (HT.jn [((13 : Nat), Ty.one Sh.slice)]
        (HT.z.sq
          (HT.lp [((13 : Nat), Ty.one Sh.slice), ((14 : Nat), Ty.one (Sh.int IntKind.i64))]
              (HT.jn [] HT.z
                (((HT.z.sq (((HT.rg (2 : Nat)).sq HT.z).cd HT.z)).sq
                        (HT.z.sq
                          ((HT.z.sq
                                (((HT.dr
                                          (DT.take (0 : Nat)
                                            (DT.take (1 : Nat)
                                              (DT.take (2 : Nat)
                                                (DT.alt (3 : Nat) (DT.take (4 : Nat) (DT.take (5 : Nat) DT.fin))
                                                  DT.fin))))).sq
                                      HT.z).cd
                                  HT.z)).sq
                            (HT.jn [((16 : Nat), Ty.one Sh.bool)] (HT.z.sq ((HT.z.sq (HT.rg (23 : Nat))).cd HT.z))
                              (HT.jn []
                                (HT.jn [((94 : Nat), Ty.one Sh.bool)] HT.z (((HT.rg (2 : Nat)).sq HT.z).cd HT.z))
                                HT.z))))).bl.sq
                  HT.z))).bl)
        (HT.z.sq
          ((HT.dr
                (DT.take (0 : Nat)
                  (DT.take (1 : Nat)
                    (DT.take (2 : Nat)
                      (DT.take (3 : Nat)
                        (DT.take (4 : Nat)
                          (DT.alt (5 : Nat) (DT.take (6 : Nat) (DT.take (7 : Nat) DT.fin)) DT.fin))))))).sq
            HT.z)))))) Try.func155 (by kernel_rfl) (by kernel_rfl) (Eq.mp (by kernel_rfl) h)

/-- slices.IndexFunc[[]dunnage/wal.begin,dunnage/wal.begin] -/
theorem slices_IndexFunc_wal_begin_wal_begin.vc (s0 : SV) (v1 : Value) (w : World) (R : Int → World → Prop)
  (h : ∃ (I : Nat → Int → World → Prop),
      (∃ (n : Nat), I n (0 : Int) w) ∧
        ∀ (n : Nat) (x : Int) (j : Nat → Value) (w' : World),
          I n x w' →
            cnd (decide (x < (↑s0.len : Int)))
              ((0 : Int) ≤ x ∧
                x < (↑s0.len : Int) ∧
                  onP s0.a fun (A : Addr) =>
                    ∃ (x_1 : Int × Int),
                      cellsAt w' (A.add (x.toNat * (2 : Nat)))
                          [Value.int IntKind.u64 x_1.fst, Value.int IntKind.u64 x_1.snd] ∧
                        callVal [Ty.one Sh.bool] Try.prog v1
                          [Value.agg #[Value.int IntKind.u64 x_1.fst, Value.int IntKind.u64 x_1.snd]] w'
                          fun (x_2 : Bool) (w' : World) =>
                          cnd x_2 (R x w') (∃ (m : Nat), m < n ∧ I m (IntKind.i64.wrap (x + (1 : Int))) w'))
              (R (-1 : Int) w'))
  : CallT [Ty.one (Sh.int IntKind.i64)] Try.prog 156 [Value.slice s0.a s0.len s0.cap, v1] w R :=
  fnV_sound (h := HT.z.sq ((HT.z.sq (HT.lp [((8 : Nat), Ty.one (Sh.int IntKind.i64))] HT.z).bl).sq HT.z)) Try.func156 (by kernel_rfl) (by kernel_rfl) (Eq.mp (by kernel_rfl) h)

/-- (*dunnage/wal.Log).Free$1 -/
theorem wal_Log_Free_1.vc (x0 : Int × Int) (p1 : Option Addr) (w : World) (R : Bool → World → Prop)
  (h : let w1 := w.alloc (Obj.cells #[Value.int IntKind.u64 x0.fst, Value.int IntKind.u64 x0.snd] (201 : Nat));
    ∃ (x : Int),
      w1.cell? ((Addr.mk w.heap.size (0 : Nat) none).add (0 : Nat)) = some (Value.int IntKind.u64 x) ∧
        onP p1 fun (A : Addr) => ∃ (x_1 : Int), w1.cell? A = some (Value.int IntKind.u64 x_1) ∧ R (x == x_1) w1)
  : CallT [Ty.one Sh.bool] Try.prog 157 [Value.agg #[Value.int IntKind.u64 x0.fst, Value.int IntKind.u64 x0.snd], Value.pointer p1] w R :=
  fnV_sound (h := HT.z) Try.func157 (by kernel_rfl) (by kernel_rfl) (Eq.mp (by kernel_rfl) h)

/-- slices.Clone[[]dunnage/wal.begin,dunnage/wal.begin] -/
theorem slices_Clone_wal_begin_wal_begin.vc (s0 : SV) (w : World) (R : SV → World → Prop)
  (h : cnd s0.a.isNone (R (SV.mk none (0 : Nat) (0 : Nat)) w)
      (appV Try.prog [(195 : Nat), (195 : Nat)] (195 : Nat)
        [Value.slice (some (Addr.mk w.heap.size (0 : Nat) none)) (0 : Nat) (0 : Nat), Value.slice s0.a s0.len s0.cap]
        (w.alloc (Obj.cells #[] (201 : Nat))) fun (s : SV) (w' : World) => R s w'))
  : CallT [Ty.one Sh.slice] Try.prog 158 [Value.slice s0.a s0.len s0.cap] w R :=
  fnV_sound (h := HT.z) Try.func158 (by kernel_rfl) (by kernel_rfl) (Eq.mp (by kernel_rfl) h)

/-- (*dunnage/wal.Log).put -/
theorem wal_Log_put.vc (p0 : Option Addr) (s1 : SV) (v2 : Value) (w : World) (R : Int → World → Prop)
  (h : ∃ (I : Nat → Int → World → Prop),
      (∃ (n : Nat), I n (0 : Int) w) ∧
        ∀ (n : Nat) (x : Int) (j : Nat → Value) (w' : World),
          I n x w' →
            cnd (decide (x < (↑s1.len : Int)))
              ((0 : Int) ≤ x ∧
                x < (↑s1.len : Int) ∧
                  onP s1.a fun (A : Addr) =>
                    ∃ (x_1 : SV),
                      w'.cell? (A.add (x.toNat * (1 : Nat))) = some (Value.slice x_1.a x_1.len x_1.cap) ∧
                        onP p0 fun (a : Addr) =>
                          ∃ (x_2 : Int),
                            w'.cell? (a.add (11 : Nat)) = some (Value.int IntKind.u64 x_2) ∧
                              CallT [Ty.one Sh.slice, Ty.one (Sh.int IntKind.i64)] Try.prog (137 : Nat)
                                [Value.int IntKind.u8 (77 : Int),
                                  Value.int IntKind.u64 (IntKind.u64.wrap (x_2 + IntKind.u64.wrap x)),
                                  Value.slice x_1.a x_1.len x_1.cap]
                                w' fun (x_3 : SV × Int) (w' : World) =>
                                cnd (x_3.snd != (0 : Int)) (R x_3.snd w')
                                  (onP p0 fun (a : Addr) =>
                                    ∃ (x_4 : Int × Int × Int × Int × Int × Int × Int × Int × Int),
                                      cellsAt w' (a.add (1 : Nat))
                                          [Value.int IntKind.i64 x_4.fst, Value.int IntKind.i64 x_4.snd.fst,
                                            Value.int IntKind.i64 x_4.snd.snd.fst,
                                            Value.int IntKind.i64 x_4.snd.snd.snd.fst,
                                            Value.int IntKind.i64 x_4.snd.snd.snd.snd.fst,
                                            Value.int IntKind.i64 x_4.snd.snd.snd.snd.snd.fst,
                                            Value.int IntKind.i64 x_4.snd.snd.snd.snd.snd.snd.fst,
                                            Value.int IntKind.i64 x_4.snd.snd.snd.snd.snd.snd.snd.fst,
                                            Value.int IntKind.i64 x_4.snd.snd.snd.snd.snd.snd.snd.snd] ∧
                                        CallT [Ty.one (Sh.int IntKind.i64)] Try.prog (185 : Nat)
                                          [Value.agg
                                              #[Value.int IntKind.i64 x_4.fst, Value.int IntKind.i64 x_4.snd.fst,
                                                Value.int IntKind.i64 x_4.snd.snd.fst,
                                                Value.int IntKind.i64 x_4.snd.snd.snd.fst,
                                                Value.int IntKind.i64 x_4.snd.snd.snd.snd.fst,
                                                Value.int IntKind.i64 x_4.snd.snd.snd.snd.snd.fst,
                                                Value.int IntKind.i64 x_4.snd.snd.snd.snd.snd.snd.fst,
                                                Value.int IntKind.i64 x_4.snd.snd.snd.snd.snd.snd.snd.fst,
                                                Value.int IntKind.i64 x_4.snd.snd.snd.snd.snd.snd.snd.snd],
                                            Value.int IntKind.u64 (IntKind.u64.wrap (x_2 + IntKind.u64.wrap x))]
                                          w' fun (x_5 : Int) (w' : World) =>
                                          callVal [Ty.one (Sh.int IntKind.i64)] Try.prog v2
                                            [Value.int IntKind.i64 x_5, Value.slice x_3.fst.a x_3.fst.len x_3.fst.cap] w'
                                            fun (x_6 : Int) (w' : World) =>
                                            cnd (x_6 != (0 : Int))
                                              (onP p0 fun (a : Addr) =>
                                                (w'.cell? (a.add (14 : Nat))).isSome = true ∧
                                                  w'.frozen? (a.add (14 : Nat)) = false ∧
                                                    R (40 : Int) (w'.setCell (a.add (14 : Nat)) (Value.bool true)))
                                              (∃ (m : Nat), m < n ∧ I m (IntKind.i64.wrap (x + (1 : Int))) w')))
              (R (0 : Int) w'))
  : CallT [Ty.one (Sh.int IntKind.i64)] Try.prog 159 [Value.pointer p0, Value.slice s1.a s1.len s1.cap, v2] w R :=
  fnV_sound (h := HT.z.sq ((HT.z.sq (HT.lp [((15 : Nat), Ty.one (Sh.int IntKind.i64))] HT.z).bl).sq HT.z)) Try.func159 (by kernel_rfl) (by kernel_rfl) (Eq.mp (by kernel_rfl) h)

/-- dunnage/dunnagehelp.Same[byte] -/
theorem dunnagehelp_Same_byte.vc (s0 : SV) (s1 : SV) (v2 : Value) (w : World) (R : Bool → World → Prop)
  (h : cnd ((↑s0.len : Int) != (↑s1.len : Int)) (R false w)
      (∃ (I : Nat → Int → World → Prop),
        (∃ (n : Nat), I n (0 : Int) w) ∧
          ∀ (n : Nat) (x : Int) (j : Nat → Value) (w' : World),
            I n x w' →
              cnd (decide (x < (↑s0.len : Int)))
                ((0 : Int) ≤ x ∧
                  x < (↑s0.len : Int) ∧
                    onP s0.a fun (A : Addr) =>
                      ∃ (x_1 : Int),
                        w'.drew.cell? (A.add (x.toNat * (1 : Nat))) = some (Value.int IntKind.u8 x_1) ∧
                          (0 : Int) ≤ x ∧
                            x < (↑s1.len : Int) ∧
                              onP s1.a fun (A : Addr) =>
                                ∃ (x_2 : Int),
                                  w'.drew.cell? (A.add (x.toNat * (1 : Nat))) = some (Value.int IntKind.u8 x_2) ∧
                                    callVal [Ty.one Sh.bool] Try.prog v2
                                      [Value.int IntKind.u8 x_1, Value.int IntKind.u8 x_2] w'.drew
                                      fun (x_3 : Bool) (w' : World) =>
                                      cnd (!x_3) (R false w')
                                        (∃ (m : Nat), m < n ∧ I m (IntKind.i64.wrap (x + (1 : Int))) w'))
                (R true w')))
  : CallT [Ty.one Sh.bool] Try.prog 160 [Value.slice s0.a s0.len s0.cap, Value.slice s1.a s1.len s1.cap, v2] w R :=
  fnV_sound (h := HT.z.sq
  (HT.z.sq
    ((HT.z.sq
          (HT.lp [((7 : Nat), Ty.one (Sh.int IntKind.i64))] (HT.z.sq (((HT.rg (9 : Nat)).sq HT.z).bl.sq HT.z))).bl).sq
      HT.z))) Try.func160 (by kernel_rfl) (by kernel_rfl) (Eq.mp (by kernel_rfl) h)

/-- dunnage/dunnagehelp.Plain[byte]$1 -/
theorem dunnagehelp_Plain_byte_1.vc (n0 : Int) (n1 : Int) (w : World) (R : Bool → World → Prop)
  (h : R (n0 == n1) w)
  : CallT [Ty.one Sh.bool] Try.prog 161 [Value.int IntKind.u8 n0, Value.int IntKind.u8 n1] w R :=
  fnV_sound (h := HT.z) Try.func161 (by kernel_rfl) (by kernel_rfl) (Eq.mp (by kernel_rfl) h)

/-- slices.Grow[[]byte,byte] -/
theorem slices_Grow_byte_byte.vc (s0 : SV) (n1 : Int) (w : World) (R : SV → World → Prop)
  (h : ∃ (R_1 : PUnit → World → Prop),
      cnd (decide (n1 < (0 : Int))) False (R_1 () w) ∧
        ∀ (x : PUnit) (j : Nat → Value) (w' : World),
          R_1 x w' →
            let e1 := IntKind.i64.wrap (n1 - IntKind.i64.wrap ((↑s0.cap : Int) - (↑s0.len : Int)));
            cnd (decide (e1 > (0 : Int)))
              ((0 : Int) ≤ (↑s0.cap : Int) ∧
                (↑s0.cap : Int) ≤ (↑s0.cap : Int) ∧
                  appV Try.prog [(23 : Nat), (3 : Nat)] (23 : Nat)
                    [Value.slice (subA s0.a (0 : Nat) (1 : Nat) s0.cap) ((↑s0.cap : Int).toNat - (0 : Nat))
                        (s0.cap - (0 : Nat)),
                      Value.int IntKind.i64 e1]
                    w' fun (s : SV) (w' : World) =>
                    (0 : Int) ≤ (↑s0.len : Int) ∧
                      (↑s0.len : Int) ≤ (↑s.cap : Int) ∧
                        R
                          (SV.mk (subA s.a (0 : Nat) (1 : Nat) s.cap) ((↑s0.len : Int).toNat - (0 : Nat))
                            (s.cap - (0 : Nat)))
                          w')
              (R s0 w'))
  : CallT [Ty.one Sh.slice] Try.prog 162 [Value.slice s0.a s0.len s0.cap, Value.int IntKind.i64 n1] w R :=
  fnV_sound (h := HT.z.sq (HT.jn [] HT.z HT.z)) Try.func162 (by kernel_rfl) (by kernel_rfl) (Eq.mp (by kernel_rfl) h)

/-- dunnage/word.ReadVar$1 -/
theorem word_ReadVar_1.vc (n0 : Int) (p1 : Option Addr) (p2 : Option Addr) (p3 : Option Addr) (w : World) (R : Bool → World → Prop)
  (h : ∃ (R_1 : PUnit → World → Prop),
      (onP p1 fun (A : Addr) =>
          ∃ (x : Int),
            w.cell? A = some (Value.int IntKind.i64 x) ∧
              cnd (x == (9 : Int))
                (cnd (decide (n0 > (1 : Int)))
                  (onP p2 fun (A : Addr) =>
                    (w.cell? A).isSome = true ∧ w.frozen? A = false ∧ R false (w.setCell A (Value.bool false)))
                  (onP p1 fun (A : Addr) =>
                    ∃ (x : Int),
                      w.cell? A = some (Value.int IntKind.i64 x) ∧
                        cnd (decide (x > (0 : Int)))
                          (cnd (n0 == (0 : Int))
                            (onP p2 fun (A : Addr) =>
                              (w.cell? A).isSome = true ∧ w.frozen? A = false ∧ R false (w.setCell A (Value.bool false)))
                            (R_1 () w))
                          (R_1 () w)))
                (onP p1 fun (A : Addr) =>
                  ∃ (x : Int),
                    w.cell? A = some (Value.int IntKind.i64 x) ∧
                      cnd (decide (x > (0 : Int)))
                        (cnd (n0 == (0 : Int))
                          (onP p2 fun (A : Addr) =>
                            (w.cell? A).isSome = true ∧ w.frozen? A = false ∧ R false (w.setCell A (Value.bool false)))
                          (R_1 () w))
                        (R_1 () w))) ∧
        ∀ (x : PUnit) (j : Nat → Value) (w' : World),
          R_1 x w' →
            onP p3 fun (A : Addr) =>
              ∃ (x : Int),
                w'.drew.cell? A = some (Value.int IntKind.u64 x) ∧
                  onP p1 fun (A : Addr) =>
                    ∃ (x_1 : Int),
                      w'.drew.cell? A = some (Value.int IntKind.i64 x_1) ∧
                        (0 : Int) ≤ IntKind.i64.wrap ((7 : Int) * x_1) ∧
                          onP p3 fun (A : Addr) =>
                            (w'.drew.cell? A).isSome = true ∧
                              w'.drew.frozen? A = false ∧
                                let w1 :=
                                  w'.drew.setCell A
                                    (Value.int IntKind.u64
                                      (bor IntKind.u64 x
                                        (shl IntKind.u64 (IntKind.u64.wrap (band IntKind.u8 n0 (127 : Int)))
                                          (IntKind.i64.wrap ((7 : Int) * x_1)))));
                                onP p1 fun (A : Addr) =>
                                  ∃ (x : Int),
                                    w1.cell? A = some (Value.int IntKind.i64 x) ∧
                                      onP p1 fun (A : Addr) =>
                                        (w1.cell? A).isSome = true ∧
                                          w1.frozen? A = false ∧
                                            R (decide (n0 ≥ (128 : Int)))
                                              (w1.setCell A (Value.int IntKind.i64 (IntKind.i64.wrap (x + (1 : Int))))))
  : CallT [Ty.one Sh.bool] Try.prog 163 [Value.int IntKind.u8 n0, Value.pointer p1, Value.pointer p2, Value.pointer p3] w R :=
  fnV_sound (h := HT.z.sq (HT.jn [] HT.z ((HT.rg (8 : Nat)).sq HT.z))) Try.func163 (by kernel_rfl) (by kernel_rfl) (Eq.mp (by kernel_rfl) h)

/-- (dunnage/word.walk).over -/
theorem word_walk_over.vc (x0 : Value) (s1 : SV) (n2 : Int) (w : World) (R : Int × Bool → World → Prop)
  (h : ∃ (I : Nat → Int → World → Prop),
      (∃ (n : Nat), I n n2 (w.alloc (Obj.cells #[x0] (211 : Nat)))) ∧
        ∀ (n : Nat) (x : Int) (j : Nat → Value) (w' : World),
          I n x w' →
            cnd (decide (x < (↑s1.len : Int)))
              (∃ (x_1 : Value),
                w'.drew.cell? ((Addr.mk w.heap.size (0 : Nat) none).add (0 : Nat)) = some x_1 ∧
                  let e1 := IntKind.i64.wrap (IntKind.i64.wrap (x + (1 : Int)) - (1 : Int));
                  (0 : Int) ≤ e1 ∧
                    e1 < (↑s1.len : Int) ∧
                      onP s1.a fun (A : Addr) =>
                        ∃ (x_2 : Int),
                          w'.drew.cell? (A.add (e1.toNat * (1 : Nat))) = some (Value.int IntKind.u8 x_2) ∧
                            callVal [Ty.one Sh.bool] Try.prog x_1 [Value.int IntKind.u8 x_2] w'.drew
                              fun (x_3 : Bool) (w' : World) =>
                              cnd (!x_3) (R (IntKind.i64.wrap (x + (1 : Int)), false) w')
                                (∃ (m : Nat), m < n ∧ I m (IntKind.i64.wrap (x + (1 : Int))) w'))
              (R (x, true) w'))
  : CallT [Ty.one (Sh.int IntKind.i64), Ty.one Sh.bool] Try.prog 164 [Value.agg #[x0], Value.slice s1.a s1.len s1.cap, Value.int IntKind.i64 n2] w R :=
  fnV_sound (h := HT.z.sq
  ((HT.lp [((2 : Nat), Ty.one (Sh.int IntKind.i64))] (HT.z.sq (HT.z.sq ((HT.rg (7 : Nat)).sq HT.z)).bl)).bl.sq HT.z)) Try.func164 (by kernel_rfl) (by kernel_rfl) (Eq.mp (by kernel_rfl) h)

/-- dunnage/dunnageref01.ReadVar -/
theorem dunnageref01_ReadVar.vc (s0 : SV) (n1 : Int) (w : World) (R : Int × Int × Int → World → Prop)
  (h : cnd (decide (n1 < (0 : Int))) (R ((0 : Int), (0 : Int), (1 : Int)) w)
      (∃ (I : Nat → Int × Int → World → Prop),
        (∃ (n : Nat), I n ((0 : Int), (0 : Int)) w) ∧
          ∀ (n : Nat) (x : Int × Int) (j : Nat → Value) (w' : World),
            I n x w' →
              let e1 := x.snd;
              cnd (decide (e1 < (10 : Int)))
                (∃ (R_1 : PUnit → World → Prop),
                  cnd (decide (n1 ≥ (↑s0.len : Int))) (R ((0 : Int), (0 : Int), (10 : Int)) w')
                      (let e1 := x.snd;
                      cnd (decide (IntKind.i64.wrap (n1 + e1) ≥ (↑s0.len : Int))) (R ((0 : Int), (0 : Int), (10 : Int)) w')
                        (R_1 () w')) ∧
                    ∀ (x_1 : PUnit) (j : Nat → Value) (w' : World),
                      R_1 x_1 w' →
                        let e1 := x.snd;
                        (0 : Int) ≤ IntKind.i64.wrap (n1 + e1) ∧
                          IntKind.i64.wrap (n1 + e1) < (↑s0.len : Int) ∧
                            onP s0.a fun (A : Addr) =>
                              ∃ (x_2 : Int),
                                w'.cell? (A.add ((IntKind.i64.wrap (n1 + e1)).toNat * (1 : Nat))) =
                                    some (Value.int IntKind.u8 x_2) ∧
                                  ∃ (R_2 : PUnit → World → Prop),
                                    cnd (x.snd == (9 : Int))
                                        (cnd (decide (x_2 > (1 : Int))) (R ((0 : Int), (0 : Int), (11 : Int)) w')
                                          (let e1 := x.snd;
                                          cnd (decide (e1 > (0 : Int)))
                                            (cnd (x_2 == (0 : Int)) (R ((0 : Int), (0 : Int), (11 : Int)) w') (R_2 () w'))
                                            (R_2 () w')))
                                        (let e1 := x.snd;
                                        cnd (decide (e1 > (0 : Int)))
                                          (cnd (x_2 == (0 : Int)) (R ((0 : Int), (0 : Int), (11 : Int)) w') (R_2 () w'))
                                          (R_2 () w')) ∧
                                      ∀ (x_3 : PUnit) (j : Nat → Value) (w' : World),
                                        R_2 x_3 w' →
                                          let e1 := x.fst;
                                          let e1_1 := x.snd;
                                          (0 : Int) ≤ IntKind.u64.wrap ((7 : Int) * IntKind.u64.wrap e1_1) ∧
                                            let e1_2 :=
                                              shl IntKind.u64 (IntKind.u64.wrap (band IntKind.u8 x_2 (127 : Int)))
                                                (IntKind.u64.wrap ((7 : Int) * IntKind.u64.wrap e1_1));
                                            cnd (decide (x_2 < (128 : Int)))
                                              (R
                                                (bor IntKind.u64 e1 e1_2,
                                                  IntKind.i64.wrap (IntKind.i64.wrap (n1 + x.snd) + (1 : Int)), (0 : Int))
                                                w')
                                              (∃ (m : Nat),
                                                m < n ∧
                                                  I m (bor IntKind.u64 e1 e1_2, IntKind.i64.wrap (x.snd + (1 : Int))) w'))
                (R ((0 : Int), (0 : Int), (11 : Int)) w')))
  : CallT [Ty.one (Sh.int IntKind.u64), Ty.one (Sh.int IntKind.i64), Ty.one (Sh.int IntKind.i64)] Try.prog 165 [Value.slice s0.a s0.len s0.cap, Value.int IntKind.i64 n1] w R :=
  fnV_sound (h := HT.z.sq
  (HT.z.sq
    (HT.z.sq
      ((HT.z.sq
            (HT.lp [((7 : Nat), Ty.one (Sh.int IntKind.u64)), ((8 : Nat), Ty.one (Sh.int IntKind.i64))]
                (HT.z.sq ((HT.jn [] HT.z (HT.z.sq (HT.jn [] HT.z HT.z))).bl.sq HT.z))).bl).sq
        HT.z)))) Try.func165 (by kernel_rfl) (by kernel_rfl) (Eq.mp (by kernel_rfl) h)

/-- (*dunnage/dunnageref04.Disk).kept -/
theorem dunnageref04_Disk_kept.vc (p0 : Option Addr) (n1 : Int) (w : World) (R : SV → World → Prop)
  (h : onP p0 fun (a : Addr) =>
      ∃ (x : Option Nat),
        w.cell? (a.add (1 : Nat)) = some (Value.map x) ∧
          lkV Try.prog (170 : Nat) (Value.map x) (Value.int IntKind.i64 n1) true w [Ty.one Sh.slice, Ty.one Sh.bool]
            fun (x : SV × Bool) (w' : World) =>
            cnd x.snd
              (appV Try.prog [(23 : Nat), (23 : Nat)] (23 : Nat)
                [Value.slice none (0 : Nat) (0 : Nat), Value.slice x.fst.a x.fst.len x.fst.cap] w'
                fun (s : SV) (w' : World) => R s w')
              (mkSV Try.prog (23 : Nat) (Value.int IntKind.i64 (512 : Int)) (Value.int IntKind.i64 (512 : Int)) w'
                fun (s : SV) (w' : World) => R s w'))
  : CallT [Ty.one Sh.slice] Try.prog 166 [Value.pointer p0, Value.int IntKind.i64 n1] w R :=
  fnV_sound (h := HT.z) Try.func166 (by kernel_rfl) (by kernel_rfl) (Eq.mp (by kernel_rfl) h)

/-- (*dunnage/dunnageref04.Disk).hit -/
theorem dunnageref04_Disk_hit.vc (p0 : Option Addr) (w : World) (R : Bool → World → Prop)
  (h : onP p0 fun (a : Addr) =>
      ∃ (x : Int),
        w.cell? (a.add (3 : Nat)) = some (Value.int IntKind.i64 x) ∧
          cnd (decide (x < (1 : Int))) (R false w)
            (onP p0 fun (a : Addr) =>
              ∃ (x : Int),
                w.cell? (a.add (3 : Nat)) = some (Value.int IntKind.i64 x) ∧
                  onP p0 fun (a : Addr) =>
                    (w.cell? (a.add (3 : Nat))).isSome = true ∧
                      w.frozen? (a.add (3 : Nat)) = false ∧
                        let w1 := w.setCell (a.add (3 : Nat)) (Value.int IntKind.i64 (IntKind.i64.wrap (x - (1 : Int))));
                        onP p0 fun (a : Addr) =>
                          ∃ (x : Int),
                            w1.cell? (a.add (3 : Nat)) = some (Value.int IntKind.i64 x) ∧
                              cnd (x == (0 : Int))
                                (onP p0 fun (a : Addr) =>
                                  (w1.cell? (a.add (4 : Nat))).isSome = true ∧
                                    w1.frozen? (a.add (4 : Nat)) = false ∧
                                      let w1 := w1.setCell (a.add (4 : Nat)) (Value.bool true);
                                      onP p0 fun (a : Addr) =>
                                        ∃ (x : Bool), w1.cell? (a.add (4 : Nat)) = some (Value.bool x) ∧ R x w1)
                                (onP p0 fun (a : Addr) =>
                                  ∃ (x : Bool), w1.cell? (a.add (4 : Nat)) = some (Value.bool x) ∧ R x w1)))
  : CallT [Ty.one Sh.bool] Try.prog 167 [Value.pointer p0] w R :=
  fnV_sound (h := HT.z) Try.func167 (by kernel_rfl) (by kernel_rfl) (Eq.mp (by kernel_rfl) h)

/-- dunnage/dunnagehelp.Plain[bool] -/
theorem dunnagehelp_Plain_bool.vc (s0 : SV) (s1 : SV) (w : World) (R : Bool → World → Prop)
  (h : CallT [Ty.one Sh.bool] Try.prog (186 : Nat)
      [Value.slice s0.a s0.len s0.cap, Value.slice s1.a s1.len s1.cap, Value.func (Fn.func (187 : Nat)) #[] #[]] w
      fun (x : Bool) (w' : World) => R x w')
  : CallT [Ty.one Sh.bool] Try.prog 168 [Value.slice s0.a s0.len s0.cap, Value.slice s1.a s1.len s1.cap] w R :=
  fnV_sound (h := HT.z) Try.func168 (by kernel_rfl) (by kernel_rfl) (Eq.mp (by kernel_rfl) h)

/-- dunnage/layout.regions -/
theorem layout_regions.vc (x0 : Int × Int × Int × Int × Int × Int × Int × Int × Int) (w : World) (R : SV → World → Prop)
  (h : let w1 :=
      w.alloc
        (Obj.cells
          #[Value.int IntKind.i64 x0.fst, Value.int IntKind.i64 x0.snd.fst, Value.int IntKind.i64 x0.snd.snd.fst,
            Value.int IntKind.i64 x0.snd.snd.snd.fst, Value.int IntKind.i64 x0.snd.snd.snd.snd.fst,
            Value.int IntKind.i64 x0.snd.snd.snd.snd.snd.fst, Value.int IntKind.i64 x0.snd.snd.snd.snd.snd.snd.fst,
            Value.int IntKind.i64 x0.snd.snd.snd.snd.snd.snd.snd.fst,
            Value.int IntKind.i64 x0.snd.snd.snd.snd.snd.snd.snd.snd]
          (83 : Nat));
    ∃ (x : Int),
      w1.cell? ((Addr.mk w.heap.size (0 : Nat) none).add (1 : Nat)) = some (Value.int IntKind.i64 x) ∧
        ∃ (x_1 : Int),
          w1.cell? ((Addr.mk w.heap.size (0 : Nat) none).add (2 : Nat)) = some (Value.int IntKind.i64 x_1) ∧
            ∃ (x_2 : Int),
              w1.cell? ((Addr.mk w.heap.size (0 : Nat) none).add (3 : Nat)) = some (Value.int IntKind.i64 x_2) ∧
                (0 : Int) ≤ (0 : Int) ∧
                  (0 : Int) < (↑(2 : Nat) : Int) ∧
                    ∃ (x_3 : Int),
                      w1.cell?
                            (((Addr.mk w.heap.size (0 : Nat) none).add (4 : Nat)).add (Int.toNat (0 : Int) * (1 : Nat))) =
                          some (Value.int IntKind.i64 x_3) ∧
                        ∃ (x_4 : Int),
                          w1.cell? ((Addr.mk w.heap.size (0 : Nat) none).add (6 : Nat)) = some (Value.int IntKind.i64 x_4) ∧
                            (0 : Int) ≤ (1 : Int) ∧
                              (1 : Int) < (↑(2 : Nat) : Int) ∧
                                ∃ (x_5 : Int),
                                  w1.cell?
                                        (((Addr.mk w.heap.size (0 : Nat) none).add (4 : Nat)).add
                                          (Int.toNat (1 : Int) * (1 : Nat))) =
                                      some (Value.int IntKind.i64 x_5) ∧
                                    ∃ (x_6 : Int),
                                      w1.cell? ((Addr.mk w.heap.size (0 : Nat) none).add (6 : Nat)) =
                                          some (Value.int IntKind.i64 x_6) ∧
                                        ∃ (x_7 : Int),
                                          w1.cell? ((Addr.mk w.heap.size (0 : Nat) none).add (7 : Nat)) =
                                              some (Value.int IntKind.i64 x_7) ∧
                                            ∃ (x_8 : Int),
                                              w1.cell? ((Addr.mk w.heap.size (0 : Nat) none).add (8 : Nat)) =
                                                  some (Value.int IntKind.i64 x_8) ∧
                                                R (SV.mk (some (Addr.mk w1.heap.size (0 : Nat) none)) (7 : Nat) (7 : Nat))
                                                  (w1.alloc
                                                    (Obj.cells
                                                      #[Value.int IntKind.i64 (1 : Int), Value.int IntKind.i64 (0 : Int),
                                                        Value.int IntKind.i64 (2 : Int), Value.int IntKind.i64 (2 : Int),
                                                        Value.int IntKind.i64 (2 : Int), Value.int IntKind.i64 (1 : Int),
                                                        Value.int IntKind.i64 (3 : Int), Value.int IntKind.i64 x,
                                                        Value.int IntKind.i64 (10 : Int), Value.int IntKind.i64 (4 : Int),
                                                        Value.int IntKind.i64 x_1, Value.int IntKind.i64 x_2,
                                                        Value.int IntKind.i64 (5 : Int), Value.int IntKind.i64 x_3,
                                                        Value.int IntKind.i64 x_4, Value.int IntKind.i64 (6 : Int),
                                                        Value.int IntKind.i64 x_5, Value.int IntKind.i64 x_6,
                                                        Value.int IntKind.i64 (7 : Int), Value.int IntKind.i64 x_7,
                                                        Value.int IntKind.i64 (IntKind.i64.wrap (x_8 * (32 : Int)))]
                                                      (220 : Nat))))
  : CallT [Ty.one Sh.slice] Try.prog 169 [Value.agg
    #[Value.int IntKind.i64 x0.fst, Value.int IntKind.i64 x0.snd.fst, Value.int IntKind.i64 x0.snd.snd.fst,
      Value.int IntKind.i64 x0.snd.snd.snd.fst, Value.int IntKind.i64 x0.snd.snd.snd.snd.fst,
      Value.int IntKind.i64 x0.snd.snd.snd.snd.snd.fst, Value.int IntKind.i64 x0.snd.snd.snd.snd.snd.snd.fst,
      Value.int IntKind.i64 x0.snd.snd.snd.snd.snd.snd.snd.fst,
      Value.int IntKind.i64 x0.snd.snd.snd.snd.snd.snd.snd.snd]] w R :=
  fnV_sound (h := HT.z) Try.func169 (by kernel_rfl) (by kernel_rfl) (Eq.mp (by kernel_rfl) h)

/-- dunnage/sector.Known -/
theorem sector_Known.vc (n0 : Int) (w : World) (R : Bool → World → Prop)
  (h : cnd (n0 == (23 : Int)) (cnd (n0 == (23 : Int)) (R true w) (R false w))
      (cnd (n0 == (43 : Int)) (cnd (n0 == (43 : Int)) (R true w) (R false w))
        (cnd (n0 == (77 : Int)) (cnd (n0 == (77 : Int)) (R true w) (R false w))
          (cnd (n0 == (142 : Int)) (cnd (n0 == (142 : Int)) (R true w) (R false w))
            (cnd (n0 == (113 : Int)) (cnd (n0 == (113 : Int)) (R true w) (R false w))
              (cnd (n0 == (178 : Int)) (R true w) (R false w)))))))
  : CallT [Ty.one Sh.bool] Try.prog 170 [Value.int IntKind.u8 n0] w R :=
  fnV_sound (h := HT.z) Try.func170 (by kernel_rfl) (by kernel_rfl) (Eq.mp (by kernel_rfl) h)

end Go.Proofs
