/- The conditions of the seat's functions, written by a program (VcTool, genvc.py) off 'vc' reduced; each is tied to 'vc' by the kernel. Conditions: none. -/
import Derived.Test.YtbnnpnillppdhaaVcSound5
import Derived.Test.YtbnnpnillppdhaaProg
set_option linter.unusedVariables false
set_option maxRecDepth 100000
namespace Go.Proofs
open Go Go.Vc
/-- dunnage/dunnagelaw01.WordLengths -/
theorem dunnagelaw01_WordLengths.vc (n0 : Int) (n1 : Int) (w : World) (R : Bool → World → Prop)
  (h : CallT [Ty.one Sh.slice] Try.prog (22 : Nat) [Value.int IntKind.u64 n0] w fun (x : SV) (w' : World) =>
      CallT [Ty.one Sh.slice] Try.prog (22 : Nat) [Value.int IntKind.u64 n1] w' fun (x_1 : SV) (w' : World) =>
        ∃ (I : Nat → Int × Int → World → Prop),
          (∃ (n : Nat), I n ((1 : Int), shr IntKind.u64 n0 (7 : Int)) w') ∧
            ∀ (n : Nat) (x_2 : Int × Int) (j : Nat → Value) (w' : World),
              I n x_2 w' →
                let e1 := x_2.snd;
                cnd (decide (e1 > (0 : Int)))
                  (∃ (m : Nat), m < n ∧ I m (IntKind.i64.wrap (x_2.fst + (1 : Int)), shr IntKind.u64 x_2.snd (7 : Int)) w')
                  (CallT [Ty.one Sh.bool] Try.prog (23 : Nat) [] w' fun (x_3 : Bool) (w' : World) =>
                    cnd x_3
                      (cnd ((↑x.len : Int) == x_2.fst)
                        (let e1 := x_2.fst;
                        cnd (decide (e1 ≤ (10 : Int)))
                          (cnd (decide (n0 > n1))
                            (CallT [Ty.one Sh.bool] Try.prog (24 : Nat)
                              [Value.slice x.a x.len x.cap, Value.slice x_1.a x_1.len x_1.cap] w'
                              fun (x : Bool) (w' : World) => R ((n0 == n1) == x) w')
                            (cnd (decide ((↑x.len : Int) ≤ (↑x_1.len : Int)))
                              (CallT [Ty.one Sh.bool] Try.prog (24 : Nat)
                                [Value.slice x.a x.len x.cap, Value.slice x_1.a x_1.len x_1.cap] w'
                                fun (x : Bool) (w' : World) => R ((n0 == n1) == x) w')
                              (R false w')))
                          (R false w'))
                        (R false w'))
                      (R false w')))
  : CallT [Ty.one Sh.bool] Try.prog 3 [Value.int IntKind.u64 n0, Value.int IntKind.u64 n1] w R :=
  fnV_sound (h := HT.z.sq
  (HT.z.sq
    (HT.z.sq
      ((HT.z.sq (HT.lp [((7 : Nat), Ty.one (Sh.int IntKind.i64)), ((8 : Nat), Ty.one (Sh.int IntKind.u64))] HT.z).bl).sq
        HT.z)))) Try.func3 (by kernel_rfl) (by kernel_rfl) (Eq.mp (by kernel_rfl) h)

/-- dunnage/dunnagelaw02.CrcSums -/
theorem dunnagelaw02_CrcSums.vc (s0 : SV) (n1 : Int) (w : World) (R : Bool → World → Prop)
  (h : CallT [Ty.one Sh.slice] Try.prog (25 : Nat) [Value.slice s0.a s0.len s0.cap, Value.int IntKind.u8 (71 : Int)] w
      fun (x : SV) (w' : World) =>
      CallT [Ty.one Sh.bool] Try.prog (26 : Nat) [] w' fun (x_1 : Bool) (w' : World) =>
        cnd x_1
          (CallT [Ty.one (Sh.int IntKind.u32)] Try.prog (27 : Nat) [Value.slice x.a x.len x.cap] w'
            fun (x_2 : Int) (w' : World) =>
            CallT [Ty.one (Sh.int IntKind.u32)] Try.prog (28 : Nat) [Value.slice s0.a s0.len s0.cap] w'
              fun (x_3 : Int) (w' : World) =>
              cnd (x_2 == x_3)
                (CallT [Ty.one (Sh.int IntKind.u32)] Try.prog (29 : Nat)
                  [Value.int IntKind.u32 n1, Value.slice x.a x.len x.cap] w' fun (x_4 : Int) (w' : World) =>
                  CallT [Ty.one (Sh.int IntKind.u32)] Try.prog (30 : Nat)
                    [Value.int IntKind.u32 n1, Value.slice s0.a s0.len s0.cap] w' fun (x_5 : Int) (w' : World) =>
                    cnd (x_4 == x_5)
                      (CallT [Ty.one Sh.bool] Try.prog (31 : Nat)
                        [Value.slice x.a x.len x.cap, Value.slice s0.a s0.len s0.cap, Value.int IntKind.u8 (71 : Int)] w'
                        fun (x : Bool) (w' : World) => R x w')
                      (R false w'))
                (R false w'))
          (R false w'))
  : CallT [Ty.one Sh.bool] Try.prog 4 [Value.slice s0.a s0.len s0.cap, Value.int IntKind.u32 n1] w R :=
  fnV_sound (h := HT.z) Try.func4 (by kernel_rfl) (by kernel_rfl) (Eq.mp (by kernel_rfl) h)

/-- dunnage/dunnagelaw02.CrcThree -/
theorem dunnagelaw02_CrcThree.vc (s0 : SV) (n1 : Int) (n2 : Int) (n3 : Int) (w : World) (R : Bool → World → Prop)
  (h : ∃ (R_1 : PUnit → World → Prop),
      (∃ (R_2 : Bool → World → Prop),
          (CallT [Ty.one Sh.bool] Try.prog (26 : Nat) [] w fun (x : Bool) (w' : World) =>
              cnd (!x) (R_2 true w') (R_2 (decide ((↑s0.len : Int) > (508 : Int))) w')) ∧
            ∀ (x : Bool) (j : Nat → Value) (w' : World),
              R_2 x w' →
                cnd x (CallT [Ty.one Sh.bool] Try.prog (26 : Nat) [] w' fun (x : Bool) (w' : World) => R x w')
                  (R_1 () w')) ∧
        ∀ (x : PUnit) (j : Nat → Value) (w' : World),
          R_1 x w' →
            CallT [Ty.one Sh.slice] Try.prog (32 : Nat) [Value.slice s0.a s0.len s0.cap] w' fun (x : SV) (w' : World) =>
              IntKind.u64.wrap (IntKind.i64.wrap ((8 : Int) * (↑x.len : Int))) ≠ (0 : Int) ∧
                let e1 := (IntKind.u64.wrap n1).tmod (IntKind.u64.wrap (IntKind.i64.wrap ((8 : Int) * (↑x.len : Int))));
                IntKind.u64.wrap (IntKind.i64.wrap ((8 : Int) * (↑x.len : Int))) ≠ (0 : Int) ∧
                  let e1_1 := (IntKind.u64.wrap n2).tmod (IntKind.u64.wrap (IntKind.i64.wrap ((8 : Int) * (↑x.len : Int))));
                  IntKind.u64.wrap (IntKind.i64.wrap ((8 : Int) * (↑x.len : Int))) ≠ (0 : Int) ∧
                    let e1_2 :=
                      (IntKind.u64.wrap n3).tmod (IntKind.u64.wrap (IntKind.i64.wrap ((8 : Int) * (↑x.len : Int))));
                    ∃ (R_2 : PUnit → World → Prop),
                      (CallT [Ty.one Sh.bool] Try.prog (33 : Nat) [Value.slice x.a x.len x.cap] w'.drew
                          fun (x_1 : Bool) (w' : World) =>
                          cnd (!x_1) (R false w')
                            (CallT [Ty.one Sh.slice] Try.prog (34 : Nat)
                              [Value.slice x.a x.len x.cap,
                                Value.slice (some (Addr.mk w'.heap.size (0 : Nat) none)) (1 : Nat) (1 : Nat)]
                              (w'.alloc (Obj.cells #[Value.int IntKind.i64 (IntKind.i64.wrap e1)] (3 : Nat)))
                              fun (x : SV) (w' : World) =>
                              CallT [Ty.one Sh.bool] Try.prog (33 : Nat) [Value.slice x.a x.len x.cap] w'
                                fun (x : Bool) (w' : World) => cnd x (R false w') (R_2 () w'))) ∧
                        ∀ (x_1 : PUnit) (j : Nat → Value) (w' : World),
                          R_2 x_1 w' →
                            ∃ (R_3 : PUnit → World → Prop),
                              cnd (IntKind.i64.wrap e1 != IntKind.i64.wrap e1_1)
                                  (CallT [Ty.one Sh.slice] Try.prog (34 : Nat)
                                    [Value.slice x.a x.len x.cap,
                                      Value.slice (some (Addr.mk w'.heap.size (0 : Nat) none)) (2 : Nat) (2 : Nat)]
                                    (w'.alloc
                                      (Obj.cells
                                        #[Value.int IntKind.i64 (IntKind.i64.wrap e1),
                                          Value.int IntKind.i64 (IntKind.i64.wrap e1_1)]
                                        (3 : Nat)))
                                    fun (x : SV) (w' : World) =>
                                    CallT [Ty.one Sh.bool] Try.prog (33 : Nat) [Value.slice x.a x.len x.cap] w'
                                      fun (x : Bool) (w' : World) => cnd x (R false w') (R_3 () w'))
                                  (R_3 () w') ∧
                                ∀ (x_2 : PUnit) (j : Nat → Value) (w' : World),
                                  R_3 x_2 w' →
                                    cnd (IntKind.i64.wrap e1 == IntKind.i64.wrap e1_1) (R true w')
                                      (cnd (IntKind.i64.wrap e1_1 == IntKind.i64.wrap e1_2) (R true w')
                                        (cnd (IntKind.i64.wrap e1 == IntKind.i64.wrap e1_2) (R true w')
                                          (CallT [Ty.one Sh.slice] Try.prog (34 : Nat)
                                            [Value.slice x.a x.len x.cap,
                                              Value.slice (some (Addr.mk w'.heap.size (0 : Nat) none)) (3 : Nat) (3 : Nat)]
                                            (w'.alloc
                                              (Obj.cells
                                                #[Value.int IntKind.i64 (IntKind.i64.wrap e1),
                                                  Value.int IntKind.i64 (IntKind.i64.wrap e1_1),
                                                  Value.int IntKind.i64 (IntKind.i64.wrap e1_2)]
                                                (3 : Nat)))
                                            fun (x : SV) (w' : World) =>
                                            CallT [Ty.one Sh.bool] Try.prog (33 : Nat) [Value.slice x.a x.len x.cap] w'
                                              fun (x : Bool) (w' : World) => R (!x) w'))))
  : CallT [Ty.one Sh.bool] Try.prog 5 [Value.slice s0.a s0.len s0.cap, Value.int IntKind.i64 n1, Value.int IntKind.i64 n2, Value.int IntKind.i64 n3] w R :=
  fnV_sound (h := HT.z.sq
  (HT.jn [] (HT.jn [((17 : Nat), Ty.one Sh.bool)] HT.z HT.z)
    (HT.z.sq (HT.z.sq ((HT.rg (21 : Nat)).sq (HT.jn [] HT.z (HT.jn [] HT.z HT.z))))))) Try.func5 (by kernel_rfl) (by kernel_rfl) (Eq.mp (by kernel_rfl) h)

/-- dunnage/dunnagelaw02.CrcBurst -/
theorem dunnagelaw02_CrcBurst.vc (s0 : SV) (n1 : Int) (n2 : Int) (w : World) (R : Bool → World → Prop)
  (h : ∃ (R_1 : PUnit → World → Prop),
      (∃ (R_2 : Bool → World → Prop),
          (CallT [Ty.one Sh.bool] Try.prog (26 : Nat) [] w fun (x : Bool) (w' : World) =>
              cnd (!x) (R_2 true w')
                (cnd ((↑s0.len : Int) == (0 : Int)) (R_2 true w')
                  (cnd (decide ((↑s0.len : Int) > (508 : Int))) (R_2 true w') (R_2 (n2 == (0 : Int)) w')))) ∧
            ∀ (x : Bool) (j : Nat → Value) (w' : World),
              R_2 x w' →
                cnd x (CallT [Ty.one Sh.bool] Try.prog (26 : Nat) [] w' fun (x : Bool) (w' : World) => R x w')
                  (R_1 () w')) ∧
        ∀ (x : PUnit) (j : Nat → Value) (w' : World),
          R_1 x w' →
            IntKind.u64.wrap (IntKind.i64.wrap ((8 : Int) * (↑s0.len : Int))) ≠ (0 : Int) ∧
              ∃ (I : Nat → SV × Int → World → Prop),
                (∃ (n : Nat), I n (SV.mk none (0 : Nat) (0 : Nat), (0 : Int)) w') ∧
                  ∀ (n : Nat) (x : SV × Int) (j : Nat → Value) (w' : World),
                    I n x w' →
                      let e1 := x.snd;
                      cnd (decide (e1 < (32 : Int)))
                        (let e1 := x.snd;
                        (0 : Int) ≤ IntKind.u64.wrap e1 ∧
                          cnd (band IntKind.u32 (shr IntKind.u32 n2 (IntKind.u64.wrap e1)) (1 : Int) == (1 : Int))
                            (appV Try.prog [(38 : Nat), (38 : Nat)] (38 : Nat)
                              [Value.slice x.fst.a x.fst.len x.fst.cap,
                                Value.slice (some (Addr.mk w'.heap.size (0 : Nat) none)) (1 : Nat) (1 : Nat)]
                              (w'.alloc
                                (Obj.cells
                                  #[Value.int IntKind.i64
                                      (IntKind.i64.wrap
                                        (IntKind.i64.wrap
                                            ((IntKind.u64.wrap n1).tmod
                                              (IntKind.u64.wrap (IntKind.i64.wrap ((8 : Int) * (↑s0.len : Int))))) +
                                          x.snd))]
                                  (3 : Nat)))
                              fun (s : SV) (w' : World) =>
                              ∃ (m : Nat), m < n ∧ I m (s, IntKind.i64.wrap (x.snd + (1 : Int))) w')
                            (∃ (m : Nat), m < n ∧ I m (x.fst, IntKind.i64.wrap (x.snd + (1 : Int))) w'))
                        ((0 : Int) ≤ (0 : Int) ∧
                          (0 : Int) < (↑x.fst.len : Int) ∧
                            onP x.fst.a fun (A : Addr) =>
                              ∃ (x_1 : Int),
                                w'.cell? (A.add (Int.toNat (0 : Int) * (1 : Nat))) = some (Value.int IntKind.i64 x_1) ∧
                                  cnd (decide (x_1 ≥ IntKind.i64.wrap ((8 : Int) * (↑s0.len : Int)))) (R true w')
                                    (CallT [Ty.one Sh.slice] Try.prog (34 : Nat)
                                      [Value.slice s0.a s0.len s0.cap, Value.slice x.fst.a x.fst.len x.fst.cap] w'
                                      fun (x : SV) (w' : World) =>
                                      CallT [Ty.one (Sh.int IntKind.u32)] Try.prog (27 : Nat) [Value.slice x.a x.len x.cap]
                                        w' fun (x : Int) (w' : World) =>
                                        CallT [Ty.one (Sh.int IntKind.u32)] Try.prog (27 : Nat)
                                          [Value.slice s0.a s0.len s0.cap] w' fun (x_2 : Int) (w' : World) =>
                                          R (x != x_2) w')))
  : CallT [Ty.one Sh.bool] Try.prog 6 [Value.slice s0.a s0.len s0.cap, Value.int IntKind.i64 n1, Value.int IntKind.u32 n2] w R :=
  fnV_sound (h := HT.z.sq
  (HT.jn [] (HT.jn [((24 : Nat), Ty.one Sh.bool)] HT.z HT.z)
    (HT.z.sq
      (HT.z.sq
        ((HT.z.sq (HT.lp [((7 : Nat), Ty.one Sh.slice), ((8 : Nat), Ty.one (Sh.int IntKind.i64))] HT.z).bl).sq HT.z))))) Try.func6 (by kernel_rfl) (by kernel_rfl) (Eq.mp (by kernel_rfl) h)

/-- dunnage/dunnagelaw02.CrcLinear -/
theorem dunnagelaw02_CrcLinear.vc (s0 : SV) (s1 : SV) (s2 : SV) (w : World) (R : Bool → World → Prop)
  (h : mkSV Try.prog (23 : Nat) (Value.int IntKind.i64 (min (min (↑s0.len : Int) (↑s1.len : Int)) (↑s2.len : Int)))
      (Value.int IntKind.i64 (min (min (↑s0.len : Int) (↑s1.len : Int)) (↑s2.len : Int))) w fun (s : SV) (w' : World) =>
      ∃ (I : Nat → Int → World → Prop),
        (∃ (n : Nat), I n (0 : Int) w') ∧
          ∀ (n : Nat) (x : Int) (j : Nat → Value) (w' : World),
            I n x w' →
              cnd (decide (x < min (min (↑s0.len : Int) (↑s1.len : Int)) (↑s2.len : Int)))
                ((0 : Int) ≤ x ∧
                  x < (↑s0.len : Int) ∧
                    onP s0.a fun (A : Addr) =>
                      ∃ (x_1 : Int),
                        w'.drew.cell? (A.add (x.toNat * (1 : Nat))) = some (Value.int IntKind.u8 x_1) ∧
                          (0 : Int) ≤ x ∧
                            x < (↑s1.len : Int) ∧
                              onP s1.a fun (A : Addr) =>
                                ∃ (x_2 : Int),
                                  w'.drew.cell? (A.add (x.toNat * (1 : Nat))) = some (Value.int IntKind.u8 x_2) ∧
                                    (0 : Int) ≤ x ∧
                                      x < (↑s2.len : Int) ∧
                                        onP s2.a fun (A : Addr) =>
                                          ∃ (x_3 : Int),
                                            w'.drew.cell? (A.add (x.toNat * (1 : Nat))) = some (Value.int IntKind.u8 x_3) ∧
                                              (0 : Int) ≤ x ∧
                                                x < (↑s.len : Int) ∧
                                                  onP s.a fun (A : Addr) =>
                                                    (w'.drew.cell? (A.add (x.toNat * (1 : Nat)))).isSome = true ∧
                                                      w'.drew.frozen? (A.add (x.toNat * (1 : Nat))) = false ∧
                                                        ∃ (m : Nat),
                                                          m < n ∧
                                                            I m (IntKind.i64.wrap (x + (1 : Int)))
                                                              (w'.drew.setCell (A.add (x.toNat * (1 : Nat)))
                                                                (Value.int IntKind.u8
                                                                  (bxor IntKind.u8 (bxor IntKind.u8 x_1 x_2) x_3))))
                (∃ (S : World → Prop),
                  S w'.drew ∧
                    CallT [Ty.one Sh.bool] Try.prog (26 : Nat) [] w'.drew fun (x : Bool) (w' : World) =>
                      cnd x
                        ((0 : Int) ≤ min (min (↑s0.len : Int) (↑s1.len : Int)) (↑s2.len : Int) ∧
                          min (min (↑s0.len : Int) (↑s1.len : Int)) (↑s2.len : Int) ≤ (↑s0.cap : Int) ∧
                            (0 : Int) ≤ min (min (↑s0.len : Int) (↑s1.len : Int)) (↑s2.len : Int) ∧
                              min (min (↑s0.len : Int) (↑s1.len : Int)) (↑s2.len : Int) ≤ (↑s1.cap : Int) ∧
                                (0 : Int) ≤ min (min (↑s0.len : Int) (↑s1.len : Int)) (↑s2.len : Int) ∧
                                  min (min (↑s0.len : Int) (↑s1.len : Int)) (↑s2.len : Int) ≤ (↑s2.cap : Int) ∧
                                    CallT [Ty.one (Sh.int IntKind.u32)] Try.prog (27 : Nat) [Value.slice s.a s.len s.cap] w'
                                      fun (x : Int) (w' : World) =>
                                      CallT [Ty.one (Sh.int IntKind.u32)] Try.prog (27 : Nat)
                                        [Value.slice (subA s0.a (0 : Nat) (1 : Nat) s0.cap)
                                            ((min (min (↑s0.len : Int) (↑s1.len : Int)) (↑s2.len : Int)).toNat - (0 : Nat))
                                            (s0.cap - (0 : Nat))]
                                        w' fun (x_1 : Int) (w' : World) =>
                                        CallT [Ty.one (Sh.int IntKind.u32)] Try.prog (27 : Nat)
                                          [Value.slice (subA s1.a (0 : Nat) (1 : Nat) s1.cap)
                                              ((min (min (↑s0.len : Int) (↑s1.len : Int)) (↑s2.len : Int)).toNat -
                                                (0 : Nat))
                                              (s1.cap - (0 : Nat))]
                                          w' fun (x_2 : Int) (w' : World) =>
                                          CallT [Ty.one (Sh.int IntKind.u32)] Try.prog (27 : Nat)
                                            [Value.slice (subA s2.a (0 : Nat) (1 : Nat) s2.cap)
                                                ((min (min (↑s0.len : Int) (↑s1.len : Int)) (↑s2.len : Int)).toNat -
                                                  (0 : Nat))
                                                (s2.cap - (0 : Nat))]
                                            w' fun (x_3 : Int) (w' : World) =>
                                            R (x == bxor IntKind.u32 (bxor IntKind.u32 x_1 x_2) x_3) w')
                        (R false w')))
  : CallT [Ty.one Sh.bool] Try.prog 7 [Value.slice s0.a s0.len s0.cap, Value.slice s1.a s1.len s1.cap, Value.slice s2.a s2.len s2.cap] w R :=
  fnV_sound (h := HT.z.sq
  (HT.z.sq
    (HT.z.sq
      ((HT.z.sq (HT.lp [((9 : Nat), Ty.one (Sh.int IntKind.i64))] (HT.z.sq ((HT.rg (17 : Nat)).bl.sq HT.z))).bl).sq
        ((HT.dr
              (DT.alt (0 : Nat)
                (DT.take (1 : Nat)
                  (DT.take (2 : Nat)
                    (DT.take (4 : Nat)
                      (DT.take (5 : Nat)
                        (DT.take (6 : Nat)
                          (DT.take (8 : Nat)
                            (DT.take (9 : Nat)
                              (DT.take (10 : Nat)
                                (DT.take (13 : Nat)
                                  (DT.take (14 : Nat)
                                    (DT.take (15 : Nat)
                                      (DT.alt (3 : Nat)
                                        (DT.alt (7 : Nat)
                                          (DT.alt (11 : Nat)
                                            (DT.take (12 : Nat)
                                              (DT.alt (16 : Nat)
                                                (DT.take (17 : Nat)
                                                  (DT.take (18 : Nat) (DT.take (19 : Nat) (DT.take (20 : Nat) DT.fin))))
                                                DT.fin))
                                            DT.fin)
                                          DT.fin)
                                        DT.fin))))))))))))
                DT.fin)).sq
          HT.z))))) Try.func7 (by kernel_rfl) (by kernel_rfl) (Eq.mp (by kernel_rfl) h)

/-- dunnage/dunnagelaw05.LayoutRing -/
theorem dunnagelaw05_LayoutRing.vc (n0 : Int) (n1 : Int) (w : World) (R : Bool → World → Prop)
  (h : CallT
      [Ty.agg
          [Sh.int IntKind.i64, Sh.int IntKind.i64, Sh.int IntKind.i64, Sh.int IntKind.i64, Sh.int IntKind.i64,
            Sh.int IntKind.i64, Sh.int IntKind.i64, Sh.int IntKind.i64, Sh.int IntKind.i64],
        Ty.one (Sh.int IntKind.i64)]
      Try.prog (35 : Nat) [Value.int IntKind.i64 n0] w
      fun (x : (Int × Int × Int × Int × Int × Int × Int × Int × Int) × Int) (w' : World) =>
      let w1 :=
        w'.alloc
          (Obj.cells
            #[Value.int IntKind.i64 (0 : Int), Value.int IntKind.i64 (0 : Int), Value.int IntKind.i64 (0 : Int),
              Value.int IntKind.i64 (0 : Int), Value.int IntKind.i64 (0 : Int), Value.int IntKind.i64 (0 : Int),
              Value.int IntKind.i64 (0 : Int), Value.int IntKind.i64 (0 : Int), Value.int IntKind.i64 (0 : Int)]
            (44 : Nat));
      canSt w1 (Addr.mk w'.heap.size (0 : Nat) none) (9 : Nat) ∧
        ∃ (R_1 : PUnit → World → Prop),
          (∃ (R_2 : Bool → World → Prop),
              (CallT [Ty.one Sh.bool] Try.prog (36 : Nat) []
                  (setCells w1 (Addr.mk w'.heap.size (0 : Nat) none) (0 : Nat)
                    [Value.int IntKind.i64 x.fst.fst, Value.int IntKind.i64 x.fst.snd.fst,
                      Value.int IntKind.i64 x.fst.snd.snd.fst, Value.int IntKind.i64 x.fst.snd.snd.snd.fst,
                      Value.int IntKind.i64 x.fst.snd.snd.snd.snd.fst, Value.int IntKind.i64 x.fst.snd.snd.snd.snd.snd.fst,
                      Value.int IntKind.i64 x.fst.snd.snd.snd.snd.snd.snd.fst,
                      Value.int IntKind.i64 x.fst.snd.snd.snd.snd.snd.snd.snd.fst,
                      Value.int IntKind.i64 x.fst.snd.snd.snd.snd.snd.snd.snd.snd])
                  fun (x_1 : Bool) (w' : World) =>
                  cnd (!x_1) (R_2 true w')
                    (cnd (x.snd != (0 : Int)) (R_2 true w') (R_2 (decide (n1 > (4611686018427387904 : Int))) w'))) ∧
                ∀ (x : Bool) (j : Nat → Value) (w' : World),
                  R_2 x w' →
                    cnd x (CallT [Ty.one Sh.bool] Try.prog (36 : Nat) [] w' fun (x : Bool) (w' : World) => R x w')
                      (R_1 () w')) ∧
            ∀ (x : PUnit) (j : Nat → Value) (w'_1 : World),
              R_1 x w'_1 →
                ∃ (S : World → Prop),
                  S w'_1.drew ∧
                    ∃ (x : Int × Int × Int × Int × Int × Int × Int × Int × Int),
                      (∀ (w : World),
                          S w →
                            cellsAt w (Addr.mk w'.heap.size (0 : Nat) none)
                              [Value.int IntKind.i64 x.fst, Value.int IntKind.i64 x.snd.fst,
                                Value.int IntKind.i64 x.snd.snd.fst, Value.int IntKind.i64 x.snd.snd.snd.fst,
                                Value.int IntKind.i64 x.snd.snd.snd.snd.fst,
                                Value.int IntKind.i64 x.snd.snd.snd.snd.snd.fst,
                                Value.int IntKind.i64 x.snd.snd.snd.snd.snd.snd.fst,
                                Value.int IntKind.i64 x.snd.snd.snd.snd.snd.snd.snd.fst,
                                Value.int IntKind.i64 x.snd.snd.snd.snd.snd.snd.snd.snd]) ∧
                        ∃ (x_1 : Int × Int × Int × Int × Int × Int × Int × Int × Int),
                          (∀ (w : World),
                              S w →
                                cellsAt w (Addr.mk w'.heap.size (0 : Nat) none)
                                  [Value.int IntKind.i64 x_1.fst, Value.int IntKind.i64 x_1.snd.fst,
                                    Value.int IntKind.i64 x_1.snd.snd.fst, Value.int IntKind.i64 x_1.snd.snd.snd.fst,
                                    Value.int IntKind.i64 x_1.snd.snd.snd.snd.fst,
                                    Value.int IntKind.i64 x_1.snd.snd.snd.snd.snd.fst,
                                    Value.int IntKind.i64 x_1.snd.snd.snd.snd.snd.snd.fst,
                                    Value.int IntKind.i64 x_1.snd.snd.snd.snd.snd.snd.snd.fst,
                                    Value.int IntKind.i64 x_1.snd.snd.snd.snd.snd.snd.snd.snd]) ∧
                            ∃ (x_2 : Int × Int × Int × Int × Int × Int × Int × Int × Int),
                              (∀ (w : World),
                                  S w →
                                    cellsAt w (Addr.mk w'.heap.size (0 : Nat) none)
                                      [Value.int IntKind.i64 x_2.fst, Value.int IntKind.i64 x_2.snd.fst,
                                        Value.int IntKind.i64 x_2.snd.snd.fst, Value.int IntKind.i64 x_2.snd.snd.snd.fst,
                                        Value.int IntKind.i64 x_2.snd.snd.snd.snd.fst,
                                        Value.int IntKind.i64 x_2.snd.snd.snd.snd.snd.fst,
                                        Value.int IntKind.i64 x_2.snd.snd.snd.snd.snd.snd.fst,
                                        Value.int IntKind.i64 x_2.snd.snd.snd.snd.snd.snd.snd.fst,
                                        Value.int IntKind.i64 x_2.snd.snd.snd.snd.snd.snd.snd.snd]) ∧
                                ∃ (x_3 : Int),
                                  (∀ (w : World),
                                      S w →
                                        w.cell? ((Addr.mk w'.heap.size (0 : Nat) none).add (3 : Nat)) =
                                          some (Value.int IntKind.i64 x_3)) ∧
                                    CallT [Ty.one (Sh.int IntKind.i64)] Try.prog (37 : Nat)
                                      [Value.agg
                                          #[Value.int IntKind.i64 x.fst, Value.int IntKind.i64 x.snd.fst,
                                            Value.int IntKind.i64 x.snd.snd.fst, Value.int IntKind.i64 x.snd.snd.snd.fst,
                                            Value.int IntKind.i64 x.snd.snd.snd.snd.fst,
                                            Value.int IntKind.i64 x.snd.snd.snd.snd.snd.fst,
                                            Value.int IntKind.i64 x.snd.snd.snd.snd.snd.snd.fst,
                                            Value.int IntKind.i64 x.snd.snd.snd.snd.snd.snd.snd.fst,
                                            Value.int IntKind.i64 x.snd.snd.snd.snd.snd.snd.snd.snd],
                                        Value.int IntKind.u64 n1]
                                      w'_1.drew fun (x : Int) (w'_2 : World) =>
                                      S w'_2 ∧
                                        CallT [Ty.one (Sh.int IntKind.i64)] Try.prog (37 : Nat)
                                          [Value.agg
                                              #[Value.int IntKind.i64 x_1.fst, Value.int IntKind.i64 x_1.snd.fst,
                                                Value.int IntKind.i64 x_1.snd.snd.fst,
                                                Value.int IntKind.i64 x_1.snd.snd.snd.fst,
                                                Value.int IntKind.i64 x_1.snd.snd.snd.snd.fst,
                                                Value.int IntKind.i64 x_1.snd.snd.snd.snd.snd.fst,
                                                Value.int IntKind.i64 x_1.snd.snd.snd.snd.snd.snd.fst,
                                                Value.int IntKind.i64 x_1.snd.snd.snd.snd.snd.snd.snd.fst,
                                                Value.int IntKind.i64 x_1.snd.snd.snd.snd.snd.snd.snd.snd],
                                            Value.int IntKind.u64 (IntKind.u64.wrap (n1 + (1 : Int)))]
                                          w'_2 fun (x_4 : Int) (w'_3 : World) =>
                                          S w'_3 ∧
                                            CallT [Ty.one (Sh.int IntKind.i64)] Try.prog (37 : Nat)
                                              [Value.agg
                                                  #[Value.int IntKind.i64 x_2.fst, Value.int IntKind.i64 x_2.snd.fst,
                                                    Value.int IntKind.i64 x_2.snd.snd.fst,
                                                    Value.int IntKind.i64 x_2.snd.snd.snd.fst,
                                                    Value.int IntKind.i64 x_2.snd.snd.snd.snd.fst,
                                                    Value.int IntKind.i64 x_2.snd.snd.snd.snd.snd.fst,
                                                    Value.int IntKind.i64 x_2.snd.snd.snd.snd.snd.snd.fst,
                                                    Value.int IntKind.i64 x_2.snd.snd.snd.snd.snd.snd.snd.fst,
                                                    Value.int IntKind.i64 x_2.snd.snd.snd.snd.snd.snd.snd.snd],
                                                Value.int IntKind.u64 (IntKind.u64.wrap (n1 + IntKind.u64.wrap x_3))]
                                              w'_3 fun (x_5 : Int) (w'_4 : World) =>
                                              S w'_4 ∧
                                                ∃ (R_2 : Int → World → Prop),
                                                  (∃ (x_6 : Int),
                                                      w'_4.cell? ((Addr.mk w'.heap.size (0 : Nat) none).add (2 : Nat)) =
                                                          some (Value.int IntKind.i64 x_6) ∧
                                                        ∃ (x_7 : Int),
                                                          w'_4.cell? ((Addr.mk w'.heap.size (0 : Nat) none).add (3 : Nat)) =
                                                              some (Value.int IntKind.i64 x_7) ∧
                                                            cnd
                                                              (IntKind.i64.wrap (x + (1 : Int)) ==
                                                                IntKind.i64.wrap (x_6 + x_7))
                                                              (∃ (x : Int),
                                                                w'_4.cell?
                                                                      ((Addr.mk w'.heap.size (0 : Nat) none).add
                                                                        (2 : Nat)) =
                                                                    some (Value.int IntKind.i64 x) ∧
                                                                  R_2 x w'_4)
                                                              (R_2 (IntKind.i64.wrap (x + (1 : Int))) w'_4)) ∧
                                                    ∀ (x_6 : Int) (j : Nat → Value) (w'_5 : World),
                                                      R_2 x_6 w'_5 →
                                                        ∃ (x_7 : Int × Int × Int × Int × Int × Int × Int × Int × Int),
                                                          cellsAt w'_5 (Addr.mk w'.heap.size (0 : Nat) none)
                                                              [Value.int IntKind.i64 x_7.fst,
                                                                Value.int IntKind.i64 x_7.snd.fst,
                                                                Value.int IntKind.i64 x_7.snd.snd.fst,
                                                                Value.int IntKind.i64 x_7.snd.snd.snd.fst,
                                                                Value.int IntKind.i64 x_7.snd.snd.snd.snd.fst,
                                                                Value.int IntKind.i64 x_7.snd.snd.snd.snd.snd.fst,
                                                                Value.int IntKind.i64 x_7.snd.snd.snd.snd.snd.snd.fst,
                                                                Value.int IntKind.i64 x_7.snd.snd.snd.snd.snd.snd.snd.fst,
                                                                Value.int IntKind.i64 x_7.snd.snd.snd.snd.snd.snd.snd.snd] ∧
                                                            CallT [Ty.one (Sh.int IntKind.i64)] Try.prog (38 : Nat)
                                                              [Value.agg
                                                                  #[Value.int IntKind.i64 x_7.fst,
                                                                    Value.int IntKind.i64 x_7.snd.fst,
                                                                    Value.int IntKind.i64 x_7.snd.snd.fst,
                                                                    Value.int IntKind.i64 x_7.snd.snd.snd.fst,
                                                                    Value.int IntKind.i64 x_7.snd.snd.snd.snd.fst,
                                                                    Value.int IntKind.i64 x_7.snd.snd.snd.snd.snd.fst,
                                                                    Value.int IntKind.i64 x_7.snd.snd.snd.snd.snd.snd.fst,
                                                                    Value.int IntKind.i64
                                                                      x_7.snd.snd.snd.snd.snd.snd.snd.fst,
                                                                    Value.int IntKind.i64
                                                                      x_7.snd.snd.snd.snd.snd.snd.snd.snd],
                                                                Value.int IntKind.i64 x]
                                                              w'_5 fun (x_8 : Int) (w' : World) =>
                                                              cnd (x_8 == (4 : Int))
                                                                (cnd (x_4 == x_6) (R (x_5 == x) w') (R false w'))
                                                                (R false w'))
  : CallT [Ty.one Sh.bool] Try.prog 8 [Value.int IntKind.i64 n0, Value.int IntKind.u64 n1] w R :=
  fnV_sound (h := HT.z.sq
  (HT.z.sq
    (HT.jn [] (HT.jn [((25 : Nat), Ty.one Sh.bool)] HT.z HT.z)
      ((HT.dr
            (DT.take (0 : Nat)
              (DT.take (1 : Nat)
                (DT.take (3 : Nat)
                  (DT.take (4 : Nat)
                    (DT.take (5 : Nat)
                      (DT.take (7 : Nat)
                        (DT.take (8 : Nat)
                          (DT.take (9 : Nat)
                            (DT.take (10 : Nat)
                              (DT.take (11 : Nat)
                                (DT.take (12 : Nat)
                                  (DT.alt (2 : Nat)
                                    (DT.alt (6 : Nat)
                                      (DT.alt (13 : Nat)
                                        (DT.take (14 : Nat) (DT.take (15 : Nat) (DT.take (16 : Nat) DT.fin))) DT.fin)
                                      DT.fin)
                                    DT.fin))))))))))))).sq
        (HT.z.sq (HT.jn [((10 : Nat), Ty.one (Sh.int IntKind.i64))] HT.z HT.z)))))) Try.func8 (by kernel_rfl) (by kernel_rfl) (Eq.mp (by kernel_rfl) h)

/-- dunnage/dunnagelaw01.WordVars -/
theorem dunnagelaw01_WordVars.vc (n0 : Int) (s1 : SV) (n2 : Int) (w : World) (R : Bool → World → Prop)
  (h : CallT [Ty.one Sh.slice] Try.prog (25 : Nat) [Value.slice s1.a s1.len s1.cap, Value.int IntKind.u8 (71 : Int)] w
      fun (x : SV) (w' : World) =>
      CallT [Ty.one (Sh.int IntKind.u64), Ty.one (Sh.int IntKind.i64), Ty.one (Sh.int IntKind.i64)] Try.prog (39 : Nat)
        [Value.slice x.a x.len x.cap, Value.int IntKind.i64 n2] w' fun (x_1 : Int × Int × Int) (w' : World) =>
        CallT [Ty.one (Sh.int IntKind.u64), Ty.one (Sh.int IntKind.i64), Ty.one (Sh.int IntKind.i64)] Try.prog (40 : Nat)
          [Value.slice s1.a s1.len s1.cap, Value.int IntKind.i64 n2] w' fun (x_2 : Int × Int × Int) (w' : World) =>
          CallT [Ty.one Sh.bool] Try.prog (23 : Nat) [] w' fun (x_3 : Bool) (w' : World) =>
            cnd x_3
              (CallT [Ty.one Sh.slice] Try.prog (22 : Nat) [Value.int IntKind.u64 n0] w' fun (x_4 : SV) (w' : World) =>
                CallT [Ty.one Sh.slice] Try.prog (41 : Nat) [Value.int IntKind.u64 n0] w' fun (x_5 : SV) (w' : World) =>
                  CallT [Ty.one Sh.bool] Try.prog (24 : Nat)
                    [Value.slice x_4.a x_4.len x_4.cap, Value.slice x_5.a x_5.len x_5.cap] w'
                    fun (x_6 : Bool) (w' : World) =>
                    cnd x_6
                      (cnd (x_1.fst == x_2.fst)
                        (cnd (x_1.snd.fst == x_2.snd.fst)
                          (cnd (x_1.snd.snd == x_2.snd.snd)
                            (CallT [Ty.one Sh.bool] Try.prog (31 : Nat)
                              [Value.slice x.a x.len x.cap, Value.slice s1.a s1.len s1.cap, Value.int IntKind.u8 (71 : Int)]
                              w' fun (x : Bool) (w' : World) => R x w')
                            (R false w'))
                          (R false w'))
                        (R false w'))
                      (R false w'))
              (R false w'))
  : CallT [Ty.one Sh.bool] Try.prog 9 [Value.int IntKind.u64 n0, Value.slice s1.a s1.len s1.cap, Value.int IntKind.i64 n2] w R :=
  fnV_sound (h := HT.z) Try.func9 (by kernel_rfl) (by kernel_rfl) (Eq.mp (by kernel_rfl) h)

/-- dunnage/dunnagelaw01.WordOneForm -/
theorem dunnagelaw01_WordOneForm.vc (s0 : SV) (n1 : Int) (n2 : Int) (s3 : SV) (s4 : SV) (w : World) (R : Bool → World → Prop)
  (h : CallT [Ty.one (Sh.int IntKind.u64), Ty.one (Sh.int IntKind.i64), Ty.one (Sh.int IntKind.i64)] Try.prog (39 : Nat)
      [Value.slice s0.a s0.len s0.cap, Value.int IntKind.i64 n1] w fun (x : Int × Int × Int) (w' : World) =>
      let e1 := x.snd.fst;
      ∃ (R_1 : PUnit → World → Prop),
        (∃ (S : World → Prop),
            S w'.drew ∧
              CallT [Ty.one Sh.bool] Try.prog (23 : Nat) [] w'.drew fun (x_1 : Bool) (w' : World) =>
                cnd (!x_1) (R false w')
                  (cnd (x.snd.snd == (0 : Int))
                    (cnd (decide (e1 ≤ n1)) (R false w')
                      (cnd (decide (e1 > (↑s0.len : Int))) (R false w')
                        ((0 : Int) ≤ e1 ∧
                          e1 ≤ (↑s0.cap : Int) ∧
                            (0 : Int) ≤ n1 ∧
                              n1 ≤ (↑e1.toNat : Int) ∧
                                CallT [Ty.one Sh.slice] Try.prog (22 : Nat) [Value.int IntKind.u64 x.fst] w'
                                  fun (x : SV) (w' : World) =>
                                  CallT [Ty.one Sh.bool] Try.prog (24 : Nat)
                                    [Value.slice x.a x.len x.cap,
                                      Value.slice (subA s0.a n1.toNat (1 : Nat) s0.cap) (e1.toNat - n1.toNat)
                                        (s0.cap - n1.toNat)]
                                    w' fun (x : Bool) (w' : World) => cnd (!x) (R false w') (R_1 () w'))))
                    (R_1 () w'))) ∧
          ∀ (x : PUnit) (j : Nat → Value) (w' : World),
            R_1 x w' →
              appV Try.prog [(23 : Nat), (23 : Nat)] (23 : Nat)
                [Value.slice none (0 : Nat) (0 : Nat), Value.slice s3.a s3.len s3.cap] w' fun (s : SV) (w' : World) =>
                CallT [Ty.one Sh.slice] Try.prog (22 : Nat) [Value.int IntKind.u64 n2] w' fun (x : SV) (w' : World) =>
                  appV Try.prog [(23 : Nat), (23 : Nat)] (23 : Nat)
                    [Value.slice s.a s.len s.cap, Value.slice x.a x.len x.cap] w' fun (s : SV) (w' : World) =>
                    appV Try.prog [(23 : Nat), (23 : Nat)] (23 : Nat)
                      [Value.slice s.a s.len s.cap, Value.slice s4.a s4.len s4.cap] w' fun (s : SV) (w' : World) =>
                      CallT [Ty.one (Sh.int IntKind.u64), Ty.one (Sh.int IntKind.i64), Ty.one (Sh.int IntKind.i64)] Try.prog
                        (39 : Nat) [Value.slice s.a s.len s.cap, Value.int IntKind.i64 (↑s3.len : Int)] w'
                        fun (x : Int × Int × Int) (w' : World) =>
                        cnd (x.snd.snd == (0 : Int))
                          (cnd (x.fst == n2) (R (x.snd.fst == IntKind.i64.wrap ((↑s.len : Int) - (↑s4.len : Int))) w')
                            (R false w'))
                          (R false w'))
  : CallT [Ty.one Sh.bool] Try.prog 10 [Value.slice s0.a s0.len s0.cap, Value.int IntKind.i64 n1, Value.int IntKind.u64 n2, Value.slice s3.a s3.len s3.cap,
  Value.slice s4.a s4.len s4.cap] w R :=
  fnV_sound (h := HT.z.sq
  (HT.z.sq
    (HT.jn []
      ((HT.dr
            (DT.alt (0 : Nat)
              (DT.take (1 : Nat)
                (DT.take (2 : Nat)
                  (DT.take (3 : Nat)
                    (DT.take (4 : Nat)
                      (DT.take (5 : Nat)
                        (DT.take (6 : Nat)
                          (DT.take (7 : Nat)
                            (DT.take (8 : Nat)
                              (DT.take (9 : Nat)
                                (DT.take (10 : Nat)
                                  (DT.take (11 : Nat)
                                    (DT.take (12 : Nat)
                                      (DT.take (13 : Nat)
                                        (DT.take (14 : Nat)
                                          (DT.take (15 : Nat)
                                            (DT.take (16 : Nat)
                                              (DT.take (18 : Nat)
                                                (DT.take (19 : Nat)
                                                  (DT.take (20 : Nat)
                                                    (DT.take (21 : Nat)
                                                      (DT.alt (17 : Nat)
                                                        (DT.alt (22 : Nat)
                                                          (DT.take (23 : Nat)
                                                            (DT.take (24 : Nat)
                                                              (DT.take (25 : Nat) (DT.take (26 : Nat) DT.fin))))
                                                          DT.fin)
                                                        DT.fin)))))))))))))))))))))
              DT.fin)).sq
        HT.z)
      HT.z))) Try.func10 (by kernel_rfl) (by kernel_rfl) (Eq.mp (by kernel_rfl) h)

/-- dunnage/dunnagelaw01.WordRoom -/
theorem dunnagelaw01_WordRoom.vc (n0 : Int) (n1 : Int) (w : World) (R : Bool → World → Prop)
  (h : ∃ (R_1 : PUnit → World → Prop),
      (∃ (R_2 : Bool → World → Prop),
          (CallT [Ty.one Sh.bool] Try.prog (23 : Nat) [] w fun (x : Bool) (w' : World) =>
              cnd (!x) (R_2 true w') (cnd (decide (n1 < (1 : Int))) (R_2 true w') (R_2 (decide (n1 > (8 : Int))) w'))) ∧
            ∀ (x : Bool) (j : Nat → Value) (w' : World),
              R_2 x w' →
                cnd x (CallT [Ty.one Sh.bool] Try.prog (23 : Nat) [] w' fun (x : Bool) (w' : World) => R x w')
                  (R_1 () w')) ∧
        ∀ (x : PUnit) (j : Nat → Value) (w' : World),
          R_1 x w' →
            let e1 := IntKind.i64.wrap (IntKind.i64.wrap ((8 : Int) * n1) - (1 : Int));
            (0 : Int) ≤ IntKind.u64.wrap e1 ∧
              let e1 :=
                IntKind.u64.wrap (shl IntKind.u64 (shl IntKind.u64 (1 : Int) (IntKind.u64.wrap e1)) (1 : Int) - (1 : Int));
              CallT [Ty.one Sh.slice, Ty.one (Sh.int IntKind.i64)] Try.prog (42 : Nat)
                [Value.slice none (0 : Nat) (0 : Nat), Value.int IntKind.u64 n0, Value.int IntKind.i64 n1] w'
                fun (x : SV × Int) (w' : World) =>
                CallT [Ty.one Sh.slice, Ty.one (Sh.int IntKind.i64)] Try.prog (42 : Nat)
                  [Value.slice none (0 : Nat) (0 : Nat), Value.int IntKind.u64 e1, Value.int IntKind.i64 n1] w'
                  fun (x_1 : SV × Int) (w' : World) =>
                  ∃ (I : Nat → Int → World → Prop),
                    (∃ (n : Nat), I n (0 : Int) w') ∧
                      ∀ (n : Nat) (x_2 : Int) (j : Nat → Value) (w' : World),
                        I n x_2 w' →
                          cnd (decide (x_2 < (↑x_1.fst.len : Int)))
                            ((0 : Int) ≤ x_2 ∧
                              x_2 < (↑x_1.fst.len : Int) ∧
                                onP x_1.fst.a fun (A : Addr) =>
                                  ∃ (x : Int),
                                    w'.cell? (A.add (x_2.toNat * (1 : Nat))) = some (Value.int IntKind.u8 x) ∧
                                      cnd (x != (255 : Int)) (R false w')
                                        (∃ (m : Nat), m < n ∧ I m (IntKind.i64.wrap (x_2 + (1 : Int))) w'))
                            (cnd ((x.snd == (0 : Int)) == decide (n0 ≤ e1))
                              (cnd (x.snd == (0 : Int))
                                (cnd (x_1.snd == (0 : Int)) (R ((↑x_1.fst.len : Int) == n1) w') (R false w'))
                                (cnd (x.snd == (12 : Int))
                                  (cnd (x_1.snd == (0 : Int)) (R ((↑x_1.fst.len : Int) == n1) w') (R false w'))
                                  (R false w')))
                              (R false w')))
  : CallT [Ty.one Sh.bool] Try.prog 11 [Value.int IntKind.u64 n0, Value.int IntKind.i64 n1] w R :=
  fnV_sound (h := HT.z.sq
  (HT.jn [] (HT.jn [((20 : Nat), Ty.one Sh.bool)] HT.z HT.z)
    (HT.z.sq (HT.z.sq (HT.z.sq ((HT.z.sq (HT.lp [((10 : Nat), Ty.one (Sh.int IntKind.i64))] HT.z).bl).sq HT.z)))))) Try.func11 (by kernel_rfl) (by kernel_rfl) (Eq.mp (by kernel_rfl) h)

/-- dunnage/dunnagelaw02.CrcJoins -/
theorem dunnagelaw02_CrcJoins.vc (n0 : Int) (n1 : Int) (n2 : Int) (w : World) (R : Bool → World → Prop)
  (h : CallT [Ty.one Sh.bool] Try.prog (26 : Nat) [] w fun (x : Bool) (w' : World) =>
      cnd x
        (CallT [Ty.one (Sh.int IntKind.u32)] Try.prog (43 : Nat)
          [Value.int IntKind.u32 n0, Value.int IntKind.u32 n1, Value.int IntKind.i64 n2] w' fun (x : Int) (w' : World) =>
          CallT [Ty.one (Sh.int IntKind.u32)] Try.prog (44 : Nat)
            [Value.int IntKind.u32 n0, Value.int IntKind.u32 n1, Value.int IntKind.i64 n2] w'
            fun (x_1 : Int) (w' : World) => R (x == x_1) w')
        (R false w'))
  : CallT [Ty.one Sh.bool] Try.prog 12 [Value.int IntKind.u32 n0, Value.int IntKind.u32 n1, Value.int IntKind.i64 n2] w R :=
  fnV_sound (h := HT.z) Try.func12 (by kernel_rfl) (by kernel_rfl) (Eq.mp (by kernel_rfl) h)

/-- dunnage/dunnagelaw02.CrcParts -/
theorem dunnagelaw02_CrcParts.vc (s0 : SV) (s1 : SV) (s2 : SV) (w : World) (R : Bool → World → Prop)
  (h : appV Try.prog [(23 : Nat), (23 : Nat)] (23 : Nat) [Value.slice none (0 : Nat) (0 : Nat), Value.slice s0.a s0.len s0.cap]
      w fun (s : SV) (w' : World) =>
      appV Try.prog [(23 : Nat), (23 : Nat)] (23 : Nat) [Value.slice s.a s.len s.cap, Value.slice s1.a s1.len s1.cap] w'
        fun (s : SV) (w' : World) =>
        appV Try.prog [(23 : Nat), (23 : Nat)] (23 : Nat)
          [Value.slice none (0 : Nat) (0 : Nat), Value.slice s.a s.len s.cap] w' fun (s : SV) (w' : World) =>
          appV Try.prog [(23 : Nat), (23 : Nat)] (23 : Nat) [Value.slice s.a s.len s.cap, Value.slice s2.a s2.len s2.cap] w'
            fun (s : SV) (w' : World) =>
            CallT [Ty.one (Sh.int IntKind.u32)] Try.prog (27 : Nat) [Value.slice s.a s.len s.cap] w'
              fun (x : Int) (w' : World) =>
              CallT [Ty.one (Sh.int IntKind.u32)] Try.prog (27 : Nat) [Value.slice s0.a s0.len s0.cap] w'
                fun (x_1 : Int) (w' : World) =>
                CallT [Ty.one (Sh.int IntKind.u32)] Try.prog (27 : Nat) [Value.slice s1.a s1.len s1.cap] w'
                  fun (x_2 : Int) (w' : World) =>
                  CallT [Ty.one (Sh.int IntKind.u32)] Try.prog (43 : Nat)
                    [Value.int IntKind.u32 x_1, Value.int IntKind.u32 x_2, Value.int IntKind.i64 (↑s1.len : Int)] w'
                    fun (x_3 : Int) (w' : World) =>
                    CallT [Ty.one (Sh.int IntKind.u32)] Try.prog (27 : Nat) [Value.slice s2.a s2.len s2.cap] w'
                      fun (x_4 : Int) (w' : World) =>
                      CallT [Ty.one (Sh.int IntKind.u32)] Try.prog (43 : Nat)
                        [Value.int IntKind.u32 x_3, Value.int IntKind.u32 x_4, Value.int IntKind.i64 (↑s2.len : Int)] w'
                        fun (x_5 : Int) (w' : World) =>
                        CallT [Ty.one (Sh.int IntKind.u32)] Try.prog (27 : Nat) [Value.slice s0.a s0.len s0.cap] w'
                          fun (x_6 : Int) (w' : World) =>
                          CallT [Ty.one (Sh.int IntKind.u32)] Try.prog (27 : Nat) [Value.slice s1.a s1.len s1.cap] w'
                            fun (x_7 : Int) (w' : World) =>
                            CallT [Ty.one (Sh.int IntKind.u32)] Try.prog (27 : Nat) [Value.slice s2.a s2.len s2.cap] w'
                              fun (x_8 : Int) (w' : World) =>
                              CallT [Ty.one (Sh.int IntKind.u32)] Try.prog (43 : Nat)
                                [Value.int IntKind.u32 x_7, Value.int IntKind.u32 x_8,
                                  Value.int IntKind.i64 (↑s2.len : Int)]
                                w' fun (x_9 : Int) (w' : World) =>
                                CallT [Ty.one (Sh.int IntKind.u32)] Try.prog (43 : Nat)
                                  [Value.int IntKind.u32 x_6, Value.int IntKind.u32 x_9,
                                    Value.int IntKind.i64 (IntKind.i64.wrap ((↑s1.len : Int) + (↑s2.len : Int)))]
                                  w' fun (x_10 : Int) (w' : World) =>
                                  CallT [Ty.one Sh.bool] Try.prog (26 : Nat) [] w' fun (x_11 : Bool) (w' : World) =>
                                    cnd x_11
                                      (CallT [Ty.one (Sh.int IntKind.u32)] Try.prog (27 : Nat)
                                        [Value.slice s0.a s0.len s0.cap] w' fun (x_12 : Int) (w' : World) =>
                                        CallT [Ty.one (Sh.int IntKind.u32)] Try.prog (29 : Nat)
                                          [Value.int IntKind.u32 x_12, Value.slice s1.a s1.len s1.cap] w'
                                          fun (x_13 : Int) (w' : World) =>
                                          CallT [Ty.one (Sh.int IntKind.u32)] Try.prog (29 : Nat)
                                            [Value.int IntKind.u32 x_13, Value.slice s2.a s2.len s2.cap] w'
                                            fun (x_14 : Int) (w' : World) =>
                                            cnd (x == x_14) (cnd (x == x_5) (R (x == x_10) w') (R false w')) (R false w'))
                                      (R false w'))
  : CallT [Ty.one Sh.bool] Try.prog 13 [Value.slice s0.a s0.len s0.cap, Value.slice s1.a s1.len s1.cap, Value.slice s2.a s2.len s2.cap] w R :=
  fnV_sound (h := HT.z) Try.func13 (by kernel_rfl) (by kernel_rfl) (Eq.mp (by kernel_rfl) h)

end Go.Proofs
