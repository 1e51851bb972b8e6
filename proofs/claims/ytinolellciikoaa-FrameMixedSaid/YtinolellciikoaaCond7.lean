/- The conditions of the seat's functions, written by a program (VcTool, genvc.py) off 'vc' reduced; each is tied to 'vc' by the kernel. Conditions: none. -/
import Derived.Test.YtinolellciikoaaVcSound5
import Derived.Test.YtinolellciikoaaProg
set_option linter.unusedVariables false
set_option maxRecDepth 100000
namespace Go.Proofs
open Go Go.Vc
/-- dunnage/dunnagelaw07.WalRounds -/
theorem dunnagelaw07_WalRounds.vc (s0 : SV) (n1 : Int) (w : World) (R : Bool → World → Prop)
  (h : CallT [Ty.one Sh.ptr] Try.prog (89 : Nat) [] w fun (x : Option Addr) (w' : World) =>
      ∃ (R_1 : PUnit → World → Prop),
        (CallT [Ty.one Sh.bool] Try.prog (90 : Nat) [] w' fun (x_1 : Bool) (w' : World) =>
            cnd (!x_1) (R false w') (cnd x.isNone (R false w') (R_1 () w'))) ∧
          ∀ (x_1 : PUnit) (j : Nat → Value) (w' : World),
            R_1 x_1 w' →
              let e1 := IntKind.i64.wrap ((1 : Int) + IntKind.i64.wrap ((IntKind.u64.wrap n1).tmod (3 : Int)));
              ∃ (R_2 : PUnit → World → Prop),
                (∃ (I : Nat → Int → World → Prop),
                    (∃ (n : Nat), I n (0 : Int) w') ∧
                      ∀ (n : Nat) (x_2 : Int) (j : Nat → Value) (w' : World),
                        I n x_2 w' →
                          ∃ (R_3 : PUnit → World → Prop),
                            cnd (decide (x_2 < (↑s0.len : Int))) (cnd (decide (x_2 < (120 : Int))) (R_3 () w') (R_2 () w'))
                                (R_2 () w') ∧
                              ∀ (x_3 : PUnit) (j : Nat → Value) (w' : World),
                                R_3 x_3 w' →
                                  (0 : Int) ≤ x_2 ∧
                                    x_2 < (↑s0.len : Int) ∧
                                      onP s0.a fun (A : Addr) =>
                                        ∃ (x_4 : Int),
                                          w'.cell? (A.add (x_2.toNat * (1 : Nat))) = some (Value.int IntKind.i64 x_4) ∧
                                            mkSV Try.prog (23 : Nat)
                                              (Value.int IntKind.i64
                                                (IntKind.i64.wrap ((IntKind.u64.wrap x_4).tmod (1700 : Int))))
                                              (Value.int IntKind.i64
                                                (IntKind.i64.wrap ((IntKind.u64.wrap x_4).tmod (1700 : Int))))
                                              w' fun (s : SV) (w' : World) =>
                                              ∃ (I_1 : Nat → Int → World → Prop),
                                                (∃ (n : Nat), I_1 n (0 : Int) w') ∧
                                                  ∀ (n_1 : Nat) (x_5 : Int) (j : Nat → Value) (w' : World),
                                                    I_1 n_1 x_5 w' →
                                                      cnd (decide (x_5 < (↑s.len : Int)))
                                                        ((0 : Int) ≤ x_5 ∧
                                                          x_5 < (↑s.len : Int) ∧
                                                            onP s.a fun (A : Addr) =>
                                                              (w'.cell? (A.add (x_5.toNat * (1 : Nat)))).isSome = true ∧
                                                                w'.frozen? (A.add (x_5.toNat * (1 : Nat))) = false ∧
                                                                  ∃ (m : Nat),
                                                                    m < n_1 ∧
                                                                      I_1 m (IntKind.i64.wrap (x_5 + (1 : Int)))
                                                                        (w'.setCell (A.add (x_5.toNat * (1 : Nat)))
                                                                          (Value.int IntKind.u8
                                                                            (IntKind.u8.wrap
                                                                              (IntKind.i64.wrap (x_2 + x_5))))))
                                                        (∃ (R_4 : PUnit → World → Prop),
                                                          (CallT [Ty.one Sh.bool] Try.prog (91 : Nat)
                                                              [Value.pointer x, Value.slice s.a s.len s.cap] w'
                                                              fun (x_6 : Bool) (w' : World) =>
                                                              cnd (!x_6) (R false w')
                                                                (onP x fun (a : Addr) =>
                                                                  ∃ (x : Option Addr),
                                                                    w'.cell? (a.add (10 : Nat)) = some (Value.pointer x) ∧
                                                                      CallT [Ty.one (Sh.int IntKind.i64)] Try.prog
                                                                        (94 : Nat) [Value.pointer x] w'
                                                                        fun (x : Int) (w' : World) =>
                                                                        cnd (x != (0 : Int)) (R false w') (R_4 () w'))) ∧
                                                            ∀ (x_6 : PUnit) (j : Nat → Value) (w' : World),
                                                              R_4 x_6 w' →
                                                                onP x fun (a : Addr) =>
                                                                  ∃ (x_7 : SV),
                                                                    w'.cell? (a.add (12 : Nat)) =
                                                                        some (Value.slice x_7.a x_7.len x_7.cap) ∧
                                                                      onP x fun (a : Addr) =>
                                                                        (w'.cell? (a.add (17 : Nat))).isSome = true ∧
                                                                          w'.frozen? (a.add (17 : Nat)) = false ∧
                                                                            let w1 :=
                                                                              w'.setCell (a.add (17 : Nat))
                                                                                (Value.int IntKind.i64 (↑x_7.len : Int));
                                                                            ∃ (R_5 : PUnit → World → Prop),
                                                                              (onP x fun (a : Addr) =>
                                                                                  ∃ (x_8 : SV),
                                                                                    w1.cell? (a.add (12 : Nat)) =
                                                                                        some
                                                                                          (Value.slice x_8.a x_8.len
                                                                                            x_8.cap) ∧
                                                                                      cnd (decide ((↑x_8.len : Int) > e1))
                                                                                        (onP x fun (a : Addr) =>
                                                                                          ∃ (x_9 : SV),
                                                                                            w1.cell? (a.add (12 : Nat)) =
                                                                                                some
                                                                                                  (Value.slice x_9.a x_9.len
                                                                                                    x_9.cap) ∧
                                                                                              CallT [Ty.one Sh.bool]
                                                                                                Try.prog (92 : Nat)
                                                                                                [Value.pointer x,
                                                                                                  Value.int IntKind.i64
                                                                                                    (IntKind.i64.wrap
                                                                                                      ((↑x_9.len : Int) -
                                                                                                        e1))]
                                                                                                w1
                                                                                                fun (x : Bool)
                                                                                                  (w' : World) =>
                                                                                                cnd (!x) (R false w')
                                                                                                  (R_5 () w'))
                                                                                        (R_5 () w1)) ∧
                                                                                ∀ (x_8 : PUnit) (j : Nat → Value)
                                                                                  (w' : World),
                                                                                  R_5 x_8 w' →
                                                                                    cnd (x_2.tmod (7 : Int) == (3 : Int))
                                                                                      (CallT [Ty.one Sh.bool] Try.prog
                                                                                        (95 : Nat)
                                                                                        [Value.pointer x, Value.bool false]
                                                                                        w' fun (x : Bool) (w' : World) =>
                                                                                        cnd (!x) (R false w')
                                                                                          (∃ (m : Nat),
                                                                                            m < n ∧
                                                                                              I m
                                                                                                (IntKind.i64.wrap
                                                                                                  (x_2 + (1 : Int)))
                                                                                                w'))
                                                                                      (∃ (m : Nat),
                                                                                        m < n ∧
                                                                                          I m
                                                                                            (IntKind.i64.wrap
                                                                                              (x_2 + (1 : Int)))
                                                                                            w'))) ∧
                  ∀ (x_2 : PUnit) (j : Nat → Value) (w' : World),
                    R_2 x_2 w' →
                      onP x fun (a : Addr) =>
                        ∃ (x_3 : Option Addr),
                          w'.cell? (a.add (0 : Nat)) = some (Value.pointer x_3) ∧
                            CallT [Ty.one (Sh.int IntKind.i64)] Try.prog (54 : Nat)
                              [Value.pointer x_3, Value.slice none (0 : Nat) (0 : Nat)] w' fun (x_4 : Int) (w' : World) =>
                              onP x fun (a : Addr) =>
                                ∃ (x_5 : Option Addr),
                                  w'.cell? (a.add (0 : Nat)) = some (Value.pointer x_5) ∧
                                    CallT [Ty.one (Sh.int IntKind.i64)] Try.prog (45 : Nat) [Value.pointer x_5] w'
                                      fun (x_6 : Int) (w' : World) =>
                                      CallT [Ty.one Sh.bool] Try.prog (95 : Nat) [Value.pointer x, Value.bool true] w'
                                        fun (x_7 : Bool) (w' : World) =>
                                        cnd x_7
                                          (cnd ((↑s0.len : Int) == (0 : Int)) (R true w')
                                            (onP x fun (a : Addr) =>
                                              ∃ (x : SV),
                                                w'.cell? (a.add (12 : Nat)) = some (Value.slice x.a x.len x.cap) ∧
                                                  R (decide ((↑x.len : Int) > (0 : Int))) w'))
                                          (R false w'))
  : CallT [Ty.one Sh.bool] Try.prog 26 [Value.slice s0.a s0.len s0.cap, Value.int IntKind.i64 n1] w R :=
  fnV_sound (h := HT.z.sq
  (HT.z.sq
    (HT.jn [] HT.z
      (HT.z.sq
        (HT.jn []
          (HT.z.sq
            (HT.lp [((6 : Nat), Ty.one (Sh.int IntKind.i64))]
                (HT.jn [] HT.z
                  ((HT.z.sq
                          ((HT.z.sq (HT.lp [((8 : Nat), Ty.one (Sh.int IntKind.i64))] HT.z).bl).sq
                            (HT.jn [] HT.z (HT.z.sq (HT.jn [] HT.z HT.z))))).bl.sq
                    HT.z))).bl)
          HT.z))))) Try.func26 (by kernel_rfl) (by kernel_rfl) (Eq.mp (by kernel_rfl) h)

/-- dunnage/dunnagehelp.Own[byte] -/
theorem dunnagehelp_Own_byte.vc (s0 : SV) (n1 : Int) (w : World) (R : SV → World → Prop)
  (h : mkSV Try.prog (23 : Nat) (Value.int IntKind.i64 (0 : Int))
      (Value.int IntKind.i64 (IntKind.i64.wrap ((↑s0.len : Int) + (3 : Int)))) w fun (s : SV) (w' : World) =>
      appV Try.prog [(23 : Nat), (23 : Nat)] (23 : Nat) [Value.slice s.a s.len s.cap, Value.slice s0.a s0.len s0.cap] w'
        fun (s : SV) (w' : World) =>
        (0 : Int) ≤ IntKind.i64.wrap ((↑s0.len : Int) + (3 : Int)) ∧
          IntKind.i64.wrap ((↑s0.len : Int) + (3 : Int)) ≤ (↑s.cap : Int) ∧
            ∃ (I : Nat → Int → World → Prop),
              (∃ (n : Nat), I n (↑s0.len : Int) w') ∧
                ∀ (n : Nat) (x : Int) (j : Nat → Value) (w' : World),
                  I n x w' →
                    let e1 := (↑((IntKind.i64.wrap ((↑s0.len : Int) + (3 : Int))).toNat - (0 : Nat)) : Int);
                    cnd (decide (x < e1))
                      ((0 : Int) ≤ x ∧
                        x < (↑((IntKind.i64.wrap ((↑s0.len : Int) + (3 : Int))).toNat - (0 : Nat)) : Int) ∧
                          onP (subA s.a (0 : Nat) (1 : Nat) s.cap) fun (A : Addr) =>
                            (w'.cell? (A.add (x.toNat * (1 : Nat)))).isSome = true ∧
                              w'.frozen? (A.add (x.toNat * (1 : Nat))) = false ∧
                                ∃ (m : Nat),
                                  m < n ∧
                                    I m (IntKind.i64.wrap (x + (1 : Int)))
                                      (w'.setCell (A.add (x.toNat * (1 : Nat))) (Value.int IntKind.u8 n1)))
                      (R s w'))
  : CallT [Ty.one Sh.slice] Try.prog 27 [Value.slice s0.a s0.len s0.cap, Value.int IntKind.u8 n1] w R :=
  fnV_sound (h := HT.z.sq (HT.z.sq (HT.z.sq (HT.z.sq ((HT.z.sq (HT.lp [((7 : Nat), Ty.one (Sh.int IntKind.i64))] HT.z).bl).sq HT.z))))) Try.func27 (by kernel_rfl) (by kernel_rfl) (Eq.mp (by kernel_rfl) h)

/-- dunnage/frame.Cut -/
theorem frame_Cut.vc (n0 : Int) (n1 : Int) (s2 : SV) (w : World) (R : SV × Int → World → Prop)
  (h : cnd (decide ((↑s2.len : Int) > (8192 : Int))) (R (SV.mk none (0 : Nat) (0 : Nat), (4 : Int)) w)
      (CallT [Ty.one (Sh.int IntKind.i64)] Try.prog (51 : Nat) [Value.int IntKind.i64 (↑s2.len : Int)] w
        fun (x : Int) (w' : World) =>
        ∃ (I : Nat → SV × Int → World → Prop),
          (∃ (n : Nat), I n (SV.mk none (0 : Nat) (0 : Nat), (0 : Int)) w') ∧
            ∀ (n : Nat) (x_1 : SV × Int) (j : Nat → Value) (w' : World),
              I n x_1 w' →
                cnd (decide (x_1.snd < x))
                  (let e1 := x_1.snd;
                  let e1_1 := IntKind.i64.wrap (IntKind.i64.wrap (e1 + (1 : Int)) * (440 : Int));
                  (0 : Int) ≤ min e1_1 (↑s2.len : Int) ∧
                    min e1_1 (↑s2.len : Int) ≤ (↑s2.cap : Int) ∧
                      (0 : Int) ≤ min e1_1 (↑s2.len : Int) ∧
                        min e1_1 (↑s2.len : Int) ≤ (↑(min e1_1 (↑s2.len : Int)).toNat : Int) ∧
                          (0 : Int) ≤ IntKind.i64.wrap (e1 * (440 : Int)) ∧
                            IntKind.i64.wrap (e1 * (440 : Int)) ≤ (↑(min e1_1 (↑s2.len : Int)).toNat : Int) ∧
                              CallT [Ty.one Sh.slice, Ty.one (Sh.int IntKind.i64)] Try.prog (46 : Nat)
                                [Value.agg
                                    #[Value.int IntKind.u64 n0, Value.int IntKind.u64 n1, Value.int IntKind.i64 x,
                                      Value.slice
                                        (subA s2.a (IntKind.i64.wrap (e1 * (440 : Int))).toNat (1 : Nat)
                                          (min e1_1 (↑s2.len : Int)).toNat)
                                        ((min e1_1 (↑s2.len : Int)).toNat - (IntKind.i64.wrap (e1 * (440 : Int))).toNat)
                                        ((min e1_1 (↑s2.len : Int)).toNat - (IntKind.i64.wrap (e1 * (440 : Int))).toNat)]]
                                w' fun (x : SV × Int) (w' : World) =>
                                cnd (x.snd != (0 : Int)) (R (SV.mk none (0 : Nat) (0 : Nat), x.snd) w')
                                  (appV Try.prog [(25 : Nat), (25 : Nat)] (25 : Nat)
                                    [Value.slice x_1.fst.a x_1.fst.len x_1.fst.cap,
                                      Value.slice (some (Addr.mk w'.heap.size (0 : Nat) none)) (1 : Nat) (1 : Nat)]
                                    (w'.alloc (Obj.cells #[Value.slice x.fst.a x.fst.len x.fst.cap] (23 : Nat)))
                                    fun (s : SV) (w' : World) =>
                                    ∃ (m : Nat), m < n ∧ I m (s, IntKind.i64.wrap (x_1.snd + (1 : Int))) w'))
                  (R (x_1.fst, (0 : Int)) w')))
  : CallT [Ty.one Sh.slice, Ty.one (Sh.int IntKind.i64)] Try.prog 28 [Value.int IntKind.u64 n0, Value.int IntKind.u64 n1, Value.slice s2.a s2.len s2.cap] w R :=
  fnV_sound (h := HT.z.sq
  (HT.z.sq
    (HT.z.sq
      (HT.z.sq
        ((HT.z.sq (HT.lp [((9 : Nat), Ty.one Sh.slice), ((21 : Nat), Ty.one (Sh.int IntKind.i64))] HT.z).bl).sq HT.z))))) Try.func28 (by kernel_rfl) (by kernel_rfl) (Eq.mp (by kernel_rfl) h)

/-- dunnage/dunnageref06.Cut -/
theorem dunnageref06_Cut.vc (n0 : Int) (n1 : Int) (s2 : SV) (w : World) (R : SV × Int → World → Prop)
  (h : cnd (decide ((↑s2.len : Int) > (8192 : Int))) (R (SV.mk none (0 : Nat) (0 : Nat), (4 : Int)) w)
      (CallT [Ty.one Sh.slice] Try.prog (103 : Nat)
        [Value.int IntKind.u64 n0, Value.int IntKind.u64 n1, Value.slice s2.a s2.len s2.cap] w fun (x : SV) (w' : World) =>
        ∃ (I : Nat → SV × Int → World → Prop),
          (∃ (n : Nat), I n (SV.mk none (0 : Nat) (0 : Nat), (0 : Int)) w') ∧
            ∀ (n : Nat) (x_1 : SV × Int) (j : Nat → Value) (w' : World),
              I n x_1 w' →
                let e1 := x_1.snd;
                cnd (decide (e1 < (↑x.len : Int)))
                  (let e1 := x_1.snd;
                  (0 : Int) ≤ e1 ∧
                    e1 < (↑x.len : Int) ∧
                      onP x.a fun (A : Addr) =>
                        ∃ (x : Int × Int × Int × SV),
                          cellsAt w' (A.add (e1.toNat * (4 : Nat)))
                              [Value.int IntKind.u64 x.fst, Value.int IntKind.u64 x.snd.fst,
                                Value.int IntKind.i64 x.snd.snd.fst,
                                Value.slice x.snd.snd.snd.a x.snd.snd.snd.len x.snd.snd.snd.cap] ∧
                            CallT [Ty.one Sh.slice, Ty.one (Sh.int IntKind.i64)] Try.prog (47 : Nat)
                              [Value.agg
                                  #[Value.int IntKind.u64 x.fst, Value.int IntKind.u64 x.snd.fst,
                                    Value.int IntKind.i64 x.snd.snd.fst,
                                    Value.slice x.snd.snd.snd.a x.snd.snd.snd.len x.snd.snd.snd.cap]]
                              w' fun (x : SV × Int) (w' : World) =>
                              appV Try.prog [(25 : Nat), (25 : Nat)] (25 : Nat)
                                [Value.slice x_1.fst.a x_1.fst.len x_1.fst.cap,
                                  Value.slice (some (Addr.mk w'.heap.size (0 : Nat) none)) (1 : Nat) (1 : Nat)]
                                (w'.alloc (Obj.cells #[Value.slice x.fst.a x.fst.len x.fst.cap] (23 : Nat)))
                                fun (s : SV) (w' : World) =>
                                ∃ (m : Nat), m < n ∧ I m (s, IntKind.i64.wrap (x_1.snd + (1 : Int))) w')
                  (R (x_1.fst, (0 : Int)) w')))
  : CallT [Ty.one Sh.slice, Ty.one (Sh.int IntKind.i64)] Try.prog 29 [Value.int IntKind.u64 n0, Value.int IntKind.u64 n1, Value.slice s2.a s2.len s2.cap] w R :=
  fnV_sound (h := HT.z.sq
  (HT.z.sq
    (HT.z.sq
      (HT.z.sq
        ((HT.z.sq (HT.lp [((8 : Nat), Ty.one Sh.slice), ((10 : Nat), Ty.one (Sh.int IntKind.i64))] HT.z).bl).sq HT.z))))) Try.func29 (by kernel_rfl) (by kernel_rfl) (Eq.mp (by kernel_rfl) h)

/-- dunnage/dunnagelaw06.awake -/
theorem dunnagelaw06_awake.vc (w : World) (R : Bool → World → Prop)
  (h : b2bV Try.prog (23 : Nat) (Value.slice (some (Addr.mk w.heap.size (0 : Nat) none)) (2 : Nat) (2 : Nat))
      (w.alloc (Obj.cells #[Value.int IntKind.u8 (97 : Int), Value.int IntKind.u8 (98 : Int)] (5 : Nat)))
      fun (s : SV) (w' : World) =>
      CallT [Ty.one Sh.slice, Ty.one (Sh.int IntKind.i64)] Try.prog (28 : Nat)
        [Value.int IntKind.u64 (2 : Int), Value.int IntKind.u64 (7 : Int), Value.slice s.a s.len s.cap] w'
        fun (x : SV × Int) (w' : World) =>
        cnd (x.snd == (0 : Int))
          (cnd ((↑x.fst.len : Int) == (1 : Int))
            (CallT [Ty.one (Sh.int IntKind.i64)] Try.prog (51 : Nat) [Value.int IntKind.i64 (441 : Int)] w'
              fun (x : Int) (w' : World) => R (x == (2 : Int)) w')
            (R false w'))
          (R false w'))
  : CallT [Ty.one Sh.bool] Try.prog 30 [] w R :=
  fnV_sound (h := HT.z) Try.func30 (by kernel_rfl) (by kernel_rfl) (Eq.mp (by kernel_rfl) h)

/-- dunnage/dunnagehelp.Lists -/
theorem dunnagehelp_Lists.vc (s0 : SV) (s1 : SV) (w : World) (R : Bool → World → Prop)
  (h : CallT [Ty.one Sh.bool] Try.prog (104 : Nat)
      [Value.slice s0.a s0.len s0.cap, Value.slice s1.a s1.len s1.cap, Value.func (Fn.func (33 : Nat)) #[] #[]] w
      fun (x : Bool) (w' : World) => R x w')
  : CallT [Ty.one Sh.bool] Try.prog 31 [Value.slice s0.a s0.len s0.cap, Value.slice s1.a s1.len s1.cap] w R :=
  fnV_sound (h := HT.z) Try.func31 (by kernel_rfl) (by kernel_rfl) (Eq.mp (by kernel_rfl) h)

/-- dunnage/dunnagehelp.Spoil -/
theorem dunnagehelp_Spoil.vc (s0 : SV) (w : World) (R : PUnit → World → Prop)
  (h : ∃ (I : Nat → Int → World → Prop),
      (∃ (n : Nat), I n (0 : Int) w) ∧
        ∀ (n : Nat) (x : Int) (j : Nat → Value) (w' : World),
          I n x w' →
            cnd (decide (x < (↑s0.len : Int)))
              ((0 : Int) ≤ x ∧
                x < (↑s0.len : Int) ∧
                  onP s0.a fun (A : Addr) =>
                    ∃ (x_1 : Int),
                      w'.cell? (A.add (x.toNat * (1 : Nat))) = some (Value.int IntKind.u8 x_1) ∧
                        (0 : Int) ≤ x ∧
                          x < (↑s0.len : Int) ∧
                            onP s0.a fun (A : Addr) =>
                              (w'.cell? (A.add (x.toNat * (1 : Nat)))).isSome = true ∧
                                w'.frozen? (A.add (x.toNat * (1 : Nat))) = false ∧
                                  ∃ (m : Nat),
                                    m < n ∧
                                      I m (IntKind.i64.wrap (x + (1 : Int)))
                                        (w'.setCell (A.add (x.toNat * (1 : Nat)))
                                          (Value.int IntKind.u8 (bxor IntKind.u8 x_1 (85 : Int)))))
              (R () w'))
  : CallT [] Try.prog 32 [Value.slice s0.a s0.len s0.cap] w R :=
  fnV_sound (h := HT.z.sq (HT.lp [((2 : Nat), Ty.one (Sh.int IntKind.i64))] HT.z).bl) Try.func32 (by kernel_rfl) (by kernel_rfl) (Eq.mp (by kernel_rfl) h)

/-- dunnage/dunnagehelp.Bytes -/
theorem dunnagehelp_Bytes.vc (s0 : SV) (s1 : SV) (w : World) (R : Bool → World → Prop)
  (h : ∃ (bs : List UInt8),
      bs.length = s0.len ∧
        (∀ (A : Addr),
            s0.a = some A →
              ∀ (i : Nat),
                i < s0.len → w.cell? (A.add i) = some (Value.int IntKind.u8 (↑(bs.getD i (0 : UInt8)).toNat : Int))) ∧
          (s0.a = none → bs = []) ∧
            ∃ (bs_1 : List UInt8),
              bs_1.length = s1.len ∧
                (∀ (A : Addr),
                    s1.a = some A →
                      ∀ (i : Nat),
                        i < s1.len →
                          w.cell? (A.add i) = some (Value.int IntKind.u8 (↑(bs_1.getD i (0 : UInt8)).toNat : Int))) ∧
                  (s1.a = none → bs_1 = []) ∧ R ((ByteArray.mk bs.toArray).toList == (ByteArray.mk bs_1.toArray).toList) w)
  : CallT [Ty.one Sh.bool] Try.prog 33 [Value.slice s0.a s0.len s0.cap, Value.slice s1.a s1.len s1.cap] w R :=
  fnV_sound (h := HT.z) Try.func33 (by kernel_rfl) (by kernel_rfl) (Eq.mp (by kernel_rfl) h)

/-- dunnage/dunnagehelp.Kept[byte] -/
theorem dunnagehelp_Kept_byte.vc (s0 : SV) (s1 : SV) (n2 : Int) (w : World) (R : Bool → World → Prop)
  (h : ∃ (R_1 : PUnit → World → Prop),
      (CallT [Ty.one Sh.bool] Try.prog (105 : Nat) [Value.slice s0.a s0.len s0.cap, Value.slice s1.a s1.len s1.cap] w
          fun (x : Bool) (w' : World) =>
          cnd (!x) (R false w')
            (cnd (decide ((↑s0.cap : Int) < IntKind.i64.wrap ((↑s1.len : Int) + (3 : Int)))) (R false w') (R_1 () w'))) ∧
        ∀ (x : PUnit) (j : Nat → Value) (w' : World),
          R_1 x w' →
            (0 : Int) ≤ IntKind.i64.wrap ((↑s1.len : Int) + (3 : Int)) ∧
              IntKind.i64.wrap ((↑s1.len : Int) + (3 : Int)) ≤ (↑s0.cap : Int) ∧
                ∃ (I : Nat → Int → World → Prop),
                  (∃ (n : Nat), I n (↑s1.len : Int) w') ∧
                    ∀ (n : Nat) (x : Int) (j : Nat → Value) (w' : World),
                      I n x w' →
                        let e1 := (↑((IntKind.i64.wrap ((↑s1.len : Int) + (3 : Int))).toNat - (0 : Nat)) : Int);
                        cnd (decide (x < e1))
                          ((0 : Int) ≤ x ∧
                            x < (↑((IntKind.i64.wrap ((↑s1.len : Int) + (3 : Int))).toNat - (0 : Nat)) : Int) ∧
                              onP (subA s0.a (0 : Nat) (1 : Nat) s0.cap) fun (A : Addr) =>
                                ∃ (x_1 : Int),
                                  w'.cell? (A.add (x.toNat * (1 : Nat))) = some (Value.int IntKind.u8 x_1) ∧
                                    cnd (x_1 != n2) (R false w')
                                      (∃ (m : Nat), m < n ∧ I m (IntKind.i64.wrap (x + (1 : Int))) w'))
                          (R true w'))
  : CallT [Ty.one Sh.bool] Try.prog 34 [Value.slice s0.a s0.len s0.cap, Value.slice s1.a s1.len s1.cap, Value.int IntKind.u8 n2] w R :=
  fnV_sound (h := HT.z.sq (HT.jn [] HT.z (HT.z.sq ((HT.z.sq (HT.lp [((8 : Nat), Ty.one (Sh.int IntKind.i64))] HT.z).bl).sq HT.z)))) Try.func34 (by kernel_rfl) (by kernel_rfl) (Eq.mp (by kernel_rfl) h)

/-- dunnage/frame.Join -/
theorem frame_Join.vc (s0 : SV) (w : World) (R : SV × Int → World → Prop)
  (h : ∃ (R_1 : PUnit → World → Prop),
      cnd ((↑s0.len : Int) == (0 : Int)) (R (SV.mk none (0 : Nat) (0 : Nat), (11 : Int)) w)
          ((0 : Int) ≤ (0 : Int) ∧
            (0 : Int) < (↑s0.len : Int) ∧
              onP s0.a fun (A : Addr) =>
                ∃ (x : Int),
                  w.cell? ((A.add (Int.toNat (0 : Int) * (4 : Nat))).add (2 : Nat)) = some (Value.int IntKind.i64 x) ∧
                    cnd (x != (↑s0.len : Int)) (R (SV.mk none (0 : Nat) (0 : Nat), (11 : Int)) w) (R_1 () w)) ∧
        ∀ (x : PUnit) (j : Nat → Value) (w' : World),
          R_1 x w' →
            ∃ (I : Nat → SV × Int → World → Prop),
              (∃ (n : Nat), I n (SV.mk none (0 : Nat) (0 : Nat), (0 : Int)) w') ∧
                ∀ (n : Nat) (x : SV × Int) (j : Nat → Value) (w' : World),
                  I n x w' →
                    cnd (decide (x.snd < (↑s0.len : Int)))
                      ((0 : Int) ≤ x.snd ∧
                        x.snd < (↑s0.len : Int) ∧
                          onP s0.a fun (A : Addr) =>
                            ∃ (x_1 : Int × Int × Int × SV),
                              cellsAt w' (A.add (Int.toNat x.snd * (4 : Nat)))
                                  [Value.int IntKind.u64 x_1.fst, Value.int IntKind.u64 x_1.snd.fst,
                                    Value.int IntKind.i64 x_1.snd.snd.fst,
                                    Value.slice x_1.snd.snd.snd.a x_1.snd.snd.snd.len x_1.snd.snd.snd.cap] ∧
                                let w1 :=
                                  w'.alloc
                                    (Obj.cells
                                      #[Value.int IntKind.u64 (0 : Int), Value.int IntKind.u64 (0 : Int),
                                        Value.int IntKind.i64 (0 : Int), Value.slice none (0 : Nat) (0 : Nat)]
                                      (51 : Nat));
                                canSt w1 (Addr.mk w'.heap.size (0 : Nat) none) (4 : Nat) ∧
                                  let w1 :=
                                    setCells w1 (Addr.mk w'.heap.size (0 : Nat) none) (0 : Nat)
                                      [Value.int IntKind.u64 x_1.fst, Value.int IntKind.u64 x_1.snd.fst,
                                        Value.int IntKind.i64 x_1.snd.snd.fst,
                                        Value.slice x_1.snd.snd.snd.a x_1.snd.snd.snd.len x_1.snd.snd.snd.cap];
                                  ∃ (x_2 : Int × Int × Int × SV),
                                    cellsAt w1.drew (Addr.mk w'.heap.size (0 : Nat) none)
                                        [Value.int IntKind.u64 x_2.fst, Value.int IntKind.u64 x_2.snd.fst,
                                          Value.int IntKind.i64 x_2.snd.snd.fst,
                                          Value.slice x_2.snd.snd.snd.a x_2.snd.snd.snd.len x_2.snd.snd.snd.cap] ∧
                                      (0 : Int) ≤ (0 : Int) ∧
                                        (0 : Int) < (↑s0.len : Int) ∧
                                          onP s0.a fun (A : Addr) =>
                                            ∃ (x_3 : Int × Int × Int × SV),
                                              cellsAt w1.drew (A.add (Int.toNat (0 : Int) * (4 : Nat)))
                                                  [Value.int IntKind.u64 x_3.fst, Value.int IntKind.u64 x_3.snd.fst,
                                                    Value.int IntKind.i64 x_3.snd.snd.fst,
                                                    Value.slice x_3.snd.snd.snd.a x_3.snd.snd.snd.len x_3.snd.snd.snd.cap] ∧
                                                CallT [Ty.one Sh.bool] Try.prog (106 : Nat)
                                                  [Value.agg
                                                      #[Value.int IntKind.u64 x_2.fst, Value.int IntKind.u64 x_2.snd.fst,
                                                        Value.int IntKind.i64 x_2.snd.snd.fst,
                                                        Value.slice x_2.snd.snd.snd.a x_2.snd.snd.snd.len
                                                          x_2.snd.snd.snd.cap],
                                                    Value.agg
                                                      #[Value.int IntKind.u64 x_3.fst, Value.int IntKind.u64 x_3.snd.fst,
                                                        Value.int IntKind.i64 x_3.snd.snd.fst,
                                                        Value.slice x_3.snd.snd.snd.a x_3.snd.snd.snd.len
                                                          x_3.snd.snd.snd.cap],
                                                    Value.int IntKind.i64 x.snd]
                                                  w1.drew fun (x_4 : Bool) (w'_1 : World) =>
                                                  cnd (!x_4) (R (SV.mk none (0 : Nat) (0 : Nat), (11 : Int)) w'_1)
                                                    (∃ (x_5 : SV),
                                                      w'_1.cell? ((Addr.mk w'.heap.size (0 : Nat) none).add (3 : Nat)) =
                                                          some (Value.slice x_5.a x_5.len x_5.cap) ∧
                                                        appV Try.prog [(23 : Nat), (23 : Nat)] (23 : Nat)
                                                          [Value.slice x.fst.a x.fst.len x.fst.cap,
                                                            Value.slice x_5.a x_5.len x_5.cap]
                                                          w'_1 fun (s : SV) (w' : World) =>
                                                          ∃ (m : Nat),
                                                            m < n ∧ I m (s, IntKind.i64.wrap (x.snd + (1 : Int))) w'))
                      (let e1 := (↑x.fst.len : Int);
                      cnd (decide (e1 > (8192 : Int))) (R (SV.mk none (0 : Nat) (0 : Nat), (11 : Int)) w')
                        (R (x.fst, (0 : Int)) w')))
  : CallT [Ty.one Sh.slice, Ty.one (Sh.int IntKind.i64)] Try.prog 35 [Value.slice s0.a s0.len s0.cap] w R :=
  fnV_sound (h := HT.z.sq
  (HT.jn [] HT.z
    (HT.z.sq
      ((HT.z.sq
            (HT.lp [((4 : Nat), Ty.one Sh.slice), ((21 : Nat), Ty.one (Sh.int IntKind.i64))]
                (HT.z.sq (HT.z.sq ((HT.z.sq (((HT.rg (5 : Nat)).sq HT.z).sq HT.z)).bl.sq HT.z)))).bl).sq
        HT.z)))) Try.func35 (by kernel_rfl) (by kernel_rfl) (Eq.mp (by kernel_rfl) h)

/-- dunnage/dunnageref06.Join -/
theorem dunnageref06_Join.vc (s0 : SV) (w : World) (R : SV × Int → World → Prop)
  (h : ∃ (R_1 : PUnit → World → Prop),
      cnd ((↑s0.len : Int) == (0 : Int)) (R (SV.mk none (0 : Nat) (0 : Nat), (11 : Int)) w)
          (cnd (decide ((↑s0.len : Int) > (32 : Int))) (R (SV.mk none (0 : Nat) (0 : Nat), (11 : Int)) w) (R_1 () w)) ∧
        ∀ (x : PUnit) (j : Nat → Value) (w' : World),
          R_1 x w' →
            ∃ (I : Nat → SV × Int → World → Prop),
              (∃ (n : Nat), I n (SV.mk none (0 : Nat) (0 : Nat), (0 : Int)) w') ∧
                ∀ (n : Nat) (x : SV × Int) (j : Nat → Value) (w' : World),
                  I n x w' →
                    let e1 := x.snd;
                    cnd (decide (e1 < (↑s0.len : Int)))
                      (let e1 := x.snd;
                      (0 : Int) ≤ e1 ∧
                        e1 < (↑s0.len : Int) ∧
                          onP s0.a fun (A : Addr) =>
                            ∃ (x_1 : SV),
                              w'.cell? ((A.add (e1.toNat * (4 : Nat))).add (3 : Nat)) =
                                  some (Value.slice x_1.a x_1.len x_1.cap) ∧
                                cnd (decide ((↑x_1.len : Int) > (440 : Int)))
                                  (R (SV.mk none (0 : Nat) (0 : Nat), (11 : Int)) w')
                                  (let e1 := x.snd;
                                  (0 : Int) ≤ e1 ∧
                                    e1 < (↑s0.len : Int) ∧
                                      onP s0.a fun (A : Addr) =>
                                        ∃ (x_2 : SV),
                                          w'.cell? ((A.add (e1.toNat * (4 : Nat))).add (3 : Nat)) =
                                              some (Value.slice x_2.a x_2.len x_2.cap) ∧
                                            appV Try.prog [(23 : Nat), (23 : Nat)] (23 : Nat)
                                              [Value.slice x.fst.a x.fst.len x.fst.cap, Value.slice x_2.a x_2.len x_2.cap]
                                              w' fun (s : SV) (w' : World) =>
                                              ∃ (m : Nat), m < n ∧ I m (s, IntKind.i64.wrap (x.snd + (1 : Int))) w'))
                      (let e1 := (↑x.fst.len : Int);
                      cnd (decide (e1 > (8192 : Int))) (R (SV.mk none (0 : Nat) (0 : Nat), (11 : Int)) w')
                        ((0 : Int) ≤ (0 : Int) ∧
                          (0 : Int) < (↑s0.len : Int) ∧
                            onP s0.a fun (A : Addr) =>
                              ∃ (x_1 : Int),
                                w'.drew.cell? ((A.add (Int.toNat (0 : Int) * (4 : Nat))).add (0 : Nat)) =
                                    some (Value.int IntKind.u64 x_1) ∧
                                  (0 : Int) ≤ (0 : Int) ∧
                                    (0 : Int) < (↑s0.len : Int) ∧
                                      onP s0.a fun (A : Addr) =>
                                        ∃ (x_2 : Int),
                                          w'.drew.cell? ((A.add (Int.toNat (0 : Int) * (4 : Nat))).add (1 : Nat)) =
                                              some (Value.int IntKind.u64 x_2) ∧
                                            CallT [Ty.one Sh.slice] Try.prog (103 : Nat)
                                              [Value.int IntKind.u64 x_1, Value.int IntKind.u64 x_2,
                                                Value.slice x.fst.a x.fst.len x.fst.cap]
                                              w'.drew fun (x_3 : SV) (w' : World) =>
                                              cnd ((↑x_3.len : Int) != (↑s0.len : Int))
                                                (R (SV.mk none (0 : Nat) (0 : Nat), (11 : Int)) w')
                                                (∃ (I : Nat → Int → World → Prop),
                                                  (∃ (n : Nat), I n (0 : Int) w') ∧
                                                    ∀ (n : Nat) (x_4 : Int) (j : Nat → Value) (w' : World),
                                                      I n x_4 w' →
                                                        cnd (decide (x_4 < (↑s0.len : Int)))
                                                          ((0 : Int) ≤ x_4 ∧
                                                            x_4 < (↑s0.len : Int) ∧
                                                              onP s0.a fun (A : Addr) =>
                                                                ∃ (x : Int × Int × Int × SV),
                                                                  cellsAt w'.drew (A.add (x_4.toNat * (4 : Nat)))
                                                                      [Value.int IntKind.u64 x.fst,
                                                                        Value.int IntKind.u64 x.snd.fst,
                                                                        Value.int IntKind.i64 x.snd.snd.fst,
                                                                        Value.slice x.snd.snd.snd.a x.snd.snd.snd.len
                                                                          x.snd.snd.snd.cap] ∧
                                                                    (0 : Int) ≤ x_4 ∧
                                                                      x_4 < (↑x_3.len : Int) ∧
                                                                        onP x_3.a fun (A : Addr) =>
                                                                          ∃ (x_5 : Int × Int × Int × SV),
                                                                            cellsAt w'.drew (A.add (x_4.toNat * (4 : Nat)))
                                                                                [Value.int IntKind.u64 x_5.fst,
                                                                                  Value.int IntKind.u64 x_5.snd.fst,
                                                                                  Value.int IntKind.i64 x_5.snd.snd.fst,
                                                                                  Value.slice x_5.snd.snd.snd.a
                                                                                    x_5.snd.snd.snd.len
                                                                                    x_5.snd.snd.snd.cap] ∧
                                                                              CallT [Ty.one Sh.bool] Try.prog (50 : Nat)
                                                                                [Value.agg
                                                                                    #[Value.int IntKind.u64 x.fst,
                                                                                      Value.int IntKind.u64 x.snd.fst,
                                                                                      Value.int IntKind.i64 x.snd.snd.fst,
                                                                                      Value.slice x.snd.snd.snd.a
                                                                                        x.snd.snd.snd.len
                                                                                        x.snd.snd.snd.cap],
                                                                                  Value.agg
                                                                                    #[Value.int IntKind.u64 x_5.fst,
                                                                                      Value.int IntKind.u64 x_5.snd.fst,
                                                                                      Value.int IntKind.i64 x_5.snd.snd.fst,
                                                                                      Value.slice x_5.snd.snd.snd.a
                                                                                        x_5.snd.snd.snd.len
                                                                                        x_5.snd.snd.snd.cap]]
                                                                                w'.drew fun (x : Bool) (w' : World) =>
                                                                                cnd (!x)
                                                                                  (R
                                                                                    (SV.mk none (0 : Nat) (0 : Nat),
                                                                                      (11 : Int))
                                                                                    w')
                                                                                  (∃ (m : Nat),
                                                                                    m < n ∧
                                                                                      I m
                                                                                        (IntKind.i64.wrap (x_4 + (1 : Int)))
                                                                                        w'))
                                                          (R (x.fst, (0 : Int)) w')))))
  : CallT [Ty.one Sh.slice, Ty.one (Sh.int IntKind.i64)] Try.prog 36 [Value.slice s0.a s0.len s0.cap] w R :=
  fnV_sound (h := HT.z.sq
  (HT.jn [] HT.z
    (HT.z.sq
      ((HT.z.sq (HT.lp [((4 : Nat), Ty.one Sh.slice), ((5 : Nat), Ty.one (Sh.int IntKind.i64))] HT.z).bl).sq
        (HT.z.sq
          ((HT.rg (9 : Nat)).sq
            (HT.z.sq
              ((HT.z.sq
                    (HT.lp [((7 : Nat), Ty.one (Sh.int IntKind.i64))]
                        (HT.z.sq (((HT.rg (8 : Nat)).sq HT.z).bl.sq HT.z))).bl).sq
                HT.z)))))))) Try.func36 (by kernel_rfl) (by kernel_rfl) (Eq.mp (by kernel_rfl) h)

/-- dunnage/disk.New -/
theorem disk_New.vc (n0 : Int) (w : World) (R : Option Addr × Int → World → Prop)
  (h : cnd (decide (n0 < (1 : Int))) (R (none, (1 : Int)) w)
      (cnd (decide (n0 > (65536 : Int))) (R (none, (1 : Int)) w)
        (mkSV Try.prog (148 : Nat) (Value.int IntKind.i64 n0) (Value.int IntKind.i64 n0) w fun (s : SV) (w' : World) =>
          R (some (Addr.mk w'.heap.size (0 : Nat) none), (0 : Int))
            (w'.alloc
              (Obj.cells
                #[Value.slice s.a s.len s.cap, Value.slice none (0 : Nat) (0 : Nat), Value.bool false,
                  Value.int IntKind.i64 (0 : Int), Value.int IntKind.i64 (0 : Int)]
                (151 : Nat))))))
  : CallT [Ty.one Sh.ptr, Ty.one (Sh.int IntKind.i64)] Try.prog 37 [Value.int IntKind.i64 n0] w R :=
  fnV_sound (h := HT.z) Try.func37 (by kernel_rfl) (by kernel_rfl) (Eq.mp (by kernel_rfl) h)

/-- dunnage/dunnagelaw04.awake -/
theorem dunnagelaw04_awake.vc (w : World) (R : Bool → World → Prop)
  (h : CallT [Ty.one Sh.ptr, Ty.one (Sh.int IntKind.i64)] Try.prog (37 : Nat) [Value.int IntKind.i64 (2 : Int)] w
      fun (x : Option Addr × Int) (w' : World) =>
      ∃ (R_1 : PUnit → World → Prop),
        cnd (x.snd != (0 : Int)) (R false w')
            (cnd (Option.isNone x.fst) (R false w')
              (CallT [Ty.one Sh.slice] Try.prog (42 : Nat) [Value.int IntKind.u8 (7 : Int), Value.bool false] w'
                fun (x_1 : SV) (w' : World) =>
                CallT [Ty.one (Sh.int IntKind.i64)] Try.prog (41 : Nat)
                  [Value.pointer x.fst, Value.int IntKind.i64 (1 : Int), Value.slice x_1.a x_1.len x_1.cap] w'
                  fun (x : Int) (w' : World) => cnd (x != (0 : Int)) (R false w') (R_1 () w'))) ∧
          ∀ (x_1 : PUnit) (j : Nat → Value) (w' : World),
            R_1 x_1 w' →
              CallT [Ty.one Sh.slice, Ty.one (Sh.int IntKind.i64)] Try.prog (44 : Nat)
                [Value.pointer x.fst, Value.int IntKind.i64 (1 : Int)] w' fun (x_2 : SV × Int) (w' : World) =>
                cnd (x_2.snd == (0 : Int))
                  (cnd ((↑x_2.fst.len : Int) == (512 : Int))
                    ((0 : Int) ≤ (0 : Int) ∧
                      (0 : Int) < (↑x_2.fst.len : Int) ∧
                        onP x_2.fst.a fun (A : Addr) =>
                          ∃ (x_3 : Int),
                            w'.cell? (A.add (Int.toNat (0 : Int) * (1 : Nat))) = some (Value.int IntKind.u8 x_3) ∧
                              cnd (x_3 == (7 : Int))
                                (CallT [Ty.one (Sh.int IntKind.i64)] Try.prog (55 : Nat) [Value.pointer x.fst] w'
                                  fun (x : Int) (w' : World) => R (x == (1 : Int)) w')
                                (R false w'))
                    (R false w'))
                  (R false w'))
  : CallT [Ty.one Sh.bool] Try.prog 38 [] w R :=
  fnV_sound (h := HT.z.sq (HT.z.sq (HT.jn [] HT.z HT.z))) Try.func38 (by kernel_rfl) (by kernel_rfl) (Eq.mp (by kernel_rfl) h)

/-- (*dunnage/disk.Disk).Arm -/
theorem disk_Disk_Arm.vc (p0 : Option Addr) (n1 : Int) (w : World) (R : Int → World → Prop)
  (h : CallT [Ty.one (Sh.int IntKind.i64)] Try.prog (107 : Nat) [Value.pointer p0] w fun (x : Int) (w' : World) =>
      cnd (x != (0 : Int)) (R x w')
        (onP p0 fun (a : Addr) =>
          (w'.cell? (a.add (3 : Nat))).isSome = true ∧
            w'.frozen? (a.add (3 : Nat)) = false ∧
              R (0 : Int) (w'.setCell (a.add (3 : Nat)) (Value.int IntKind.i64 (max n1 (0 : Int))))))
  : CallT [Ty.one (Sh.int IntKind.i64)] Try.prog 39 [Value.pointer p0, Value.int IntKind.i64 n1] w R :=
  fnV_sound (h := HT.z) Try.func39 (by kernel_rfl) (by kernel_rfl) (Eq.mp (by kernel_rfl) h)

/-- (*dunnage/disk.Disk).Flush -/
theorem disk_Disk_Flush.vc (p0 : Option Addr) (w : World) (R : Int → World → Prop)
  (h : CallT [Ty.one (Sh.int IntKind.i64)] Try.prog (107 : Nat) [Value.pointer p0] w fun (x : Int) (w' : World) =>
      cnd (x != (0 : Int)) (R x w')
        (CallT [Ty.one (Sh.int IntKind.i64)] Try.prog (108 : Nat)
          [Value.pointer p0, Value.func (Fn.func (109 : Nat)) #[Value.pointer p0] #[]] w' fun (x : Int) (w' : World) =>
          cnd (x != (0 : Int)) (R x w')
            (onP p0 fun (a : Addr) =>
              ∃ (x : SV),
                w'.cell? (a.add (1 : Nat)) = some (Value.slice x.a x.len x.cap) ∧
                  ∃ (I : Nat → Int → World → Prop),
                    (∃ (n : Nat), I n (0 : Int) w') ∧
                      ∀ (n : Nat) (x_1 : Int) (j : Nat → Value) (w' : World),
                        I n x_1 w' →
                          cnd (decide (x_1 < (↑x.len : Int)))
                            ((0 : Int) ≤ x_1 ∧
                              x_1 < (↑x.len : Int) ∧
                                onP x.a fun (A : Addr) =>
                                  ∃ (cs : Array Value),
                                    cs.size = (513 : Nat) ∧
                                      (∀ (i : Nat),
                                          i < (513 : Nat) → w'.cell? ((A.add (x_1.toNat * (513 : Nat))).add i) = cs[i]?) ∧
                                        let w1 := w'.alloc (Obj.cells (zc Try.prog (156 : Nat)).toArray (156 : Nat));
                                        cs.toList.length = (513 : Nat) ∧
                                          (∀ (v : Value), v ∈ cs.toList → oneV v True) ∧
                                            canSt w1 (Addr.mk w'.heap.size (0 : Nat) none) cs.toList.length ∧
                                              let w1 :=
                                                setCells w1 (Addr.mk w'.heap.size (0 : Nat) none) (0 : Nat) cs.toList;
                                              onP p0 fun (a : Addr) =>
                                                ∃ (x : SV),
                                                  w1.drew.cell? (a.add (0 : Nat)) = some (Value.slice x.a x.len x.cap) ∧
                                                    ∃ (x_2 : Int),
                                                      w1.drew.cell? ((Addr.mk w'.heap.size (0 : Nat) none).add (0 : Nat)) =
                                                          some (Value.int IntKind.i64 x_2) ∧
                                                        ∃ (cs : Array Value),
                                                          cs.size = (512 : Nat) ∧
                                                            (∀ (i : Nat),
                                                                i < (512 : Nat) →
                                                                  w1.drew.cell?
                                                                      (((Addr.mk w'.heap.size (0 : Nat) none).add
                                                                            (1 : Nat)).add
                                                                        i) =
                                                                    cs[i]?) ∧
                                                              (0 : Int) ≤ x_2 ∧
                                                                x_2 < (↑x.len : Int) ∧
                                                                  onP x.a fun (A : Addr) =>
                                                                    cs.toList.length = (512 : Nat) ∧
                                                                      (∀ (v : Value), v ∈ cs.toList → oneV v True) ∧
                                                                        canSt w1.drew (A.add (x_2.toNat * (512 : Nat)))
                                                                            cs.toList.length ∧
                                                                          ∃ (m : Nat),
                                                                            m < n ∧
                                                                              I m (IntKind.i64.wrap (x_1 + (1 : Int)))
                                                                                (setCells w1.drew
                                                                                  (A.add (x_2.toNat * (512 : Nat)))
                                                                                  (0 : Nat) cs.toList))
                            (onP p0 fun (a : Addr) =>
                              (w'.cell? (a.add (1 : Nat))).isSome = true ∧
                                w'.frozen? (a.add (1 : Nat)) = false ∧
                                  R (0 : Int) (w'.setCell (a.add (1 : Nat)) (Value.slice none (0 : Nat) (0 : Nat)))))))
  : CallT [Ty.one (Sh.int IntKind.i64)] Try.prog 40 [Value.pointer p0] w R :=
  fnV_sound (h := HT.z.sq
  (HT.z.sq
    (HT.z.sq
      ((HT.z.sq
            (HT.lp [((24 : Nat), Ty.one (Sh.int IntKind.i64))]
                (HT.z.sq (HT.z.sq ((HT.z.sq (HT.rg (9 : Nat))).bl.sq HT.z)))).bl).sq
        HT.z)))) Try.func40 (by kernel_rfl) (by kernel_rfl) (Eq.mp (by kernel_rfl) h)

/-- (*dunnage/disk.Disk).Write -/
theorem disk_Disk_Write.vc (p0 : Option Addr) (n1 : Int) (s2 : SV) (w : World) (R : Int → World → Prop)
  (h : CallT [Ty.one (Sh.int IntKind.i64)] Try.prog (107 : Nat) [Value.pointer p0] w fun (x : Int) (w' : World) =>
      cnd (x != (0 : Int)) (R x w')
        (∃ (R_1 : PUnit → World → Prop),
          (CallT [Ty.one Sh.bool] Try.prog (110 : Nat) [Value.pointer p0, Value.int IntKind.i64 n1] w'
              fun (x : Bool) (w' : World) =>
              cnd (!x) (R (1 : Int) w') (cnd ((↑s2.len : Int) != (512 : Int)) (R (1 : Int) w') (R_1 () w'))) ∧
            ∀ (x : PUnit) (j : Nat → Value) (w' : World),
              R_1 x w' →
                ∃ (S : World → Prop),
                  S w'.drew ∧
                    onP p0 fun (a : Addr) =>
                      ∃ (x : SV),
                        (∀ (w : World), S w → w.cell? (a.add (1 : Nat)) = some (Value.slice x.a x.len x.cap)) ∧
                          (512 : Nat) ≤ s2.len ∧
                            onP s2.a fun (A : Addr) =>
                              ∃ (cs : Array Value),
                                cs.size = (512 : Nat) ∧
                                  (∀ (w : World), S w → ∀ (i : Nat), i < (512 : Nat) → w.cell? (A.add i) = cs[i]?) ∧
                                    (1 : Nat) = (1 : Nat) ∧
                                      (1 : Nat) ≤ (zc Try.prog (156 : Nat)).length ∧
                                        cs.toList.length = (512 : Nat) ∧
                                          (513 : Nat) ≤
                                              (splL (zc Try.prog (156 : Nat)) (0 : Nat) [Value.int IntKind.i64 n1]).length ∧
                                            (splL (splL (zc Try.prog (156 : Nat)) (0 : Nat) [Value.int IntKind.i64 n1])
                                                    (1 : Nat) cs.toList).length =
                                                (513 : Nat) ∧
                                              (513 : Nat) ≤ (repz (1 : Nat) (zc Try.prog (156 : Nat))).length ∧
                                                let w1 :=
                                                  w'.drew.alloc
                                                    (Obj.cells
                                                      (splL (repz (1 : Nat) (zc Try.prog (156 : Nat)))
                                                          ((0 : Nat) * (513 : Nat))
                                                          (splL
                                                            (splL (zc Try.prog (156 : Nat)) (0 : Nat)
                                                              [Value.int IntKind.i64 n1])
                                                            (1 : Nat) cs.toList)).toArray
                                                      (156 : Nat));
                                                S w1 ∧
                                                  appV Try.prog [(149 : Nat), (149 : Nat)] (149 : Nat)
                                                    [Value.slice x.a x.len x.cap,
                                                      Value.slice (some (Addr.mk w'.drew.heap.size (0 : Nat) none))
                                                        (1 : Nat) (1 : Nat)]
                                                    w1 fun (s : SV) (w' : World) =>
                                                    S w' ∧
                                                      onP p0 fun (a : Addr) =>
                                                        (w'.cell? (a.add (1 : Nat))).isSome = true ∧
                                                          w'.frozen? (a.add (1 : Nat)) = false ∧
                                                            CallT [Ty.one (Sh.int IntKind.i64)] Try.prog (108 : Nat)
                                                              [Value.pointer p0,
                                                                Value.func (Fn.func (109 : Nat)) #[Value.pointer p0] #[]]
                                                              (w'.setCell (a.add (1 : Nat)) (Value.slice s.a s.len s.cap))
                                                              fun (x : Int) (w' : World) => R x w'))
  : CallT [Ty.one (Sh.int IntKind.i64)] Try.prog 41 [Value.pointer p0, Value.int IntKind.i64 n1, Value.slice s2.a s2.len s2.cap] w R :=
  fnV_sound (h := HT.z.sq
  (HT.z.sq
    (HT.jn [] HT.z
      ((HT.dr
            (DT.take (0 : Nat)
              (DT.take (1 : Nat)
                (DT.take (2 : Nat)
                  (DT.take (3 : Nat)
                    (DT.take (4 : Nat)
                      (DT.take (5 : Nat)
                        (DT.take (6 : Nat)
                          (DT.take (7 : Nat)
                            (DT.take (8 : Nat)
                              (DT.take (9 : Nat)
                                (DT.alt (10 : Nat)
                                  (DT.alt (11 : Nat)
                                    (DT.take (12 : Nat) (DT.take (13 : Nat) (DT.alt (14 : Nat) DT.fin DT.fin))) DT.fin)
                                  DT.fin)))))))))))).sq
        HT.z)))) Try.func41 (by kernel_rfl) (by kernel_rfl) (Eq.mp (by kernel_rfl) h)

/-- dunnage/dunnagelaw04.full -/
theorem dunnagelaw04_full.vc (n0 : Int) (b1 : Bool) (w : World) (R : SV → World → Prop)
  (h : mkSV Try.prog (23 : Nat) (Value.int IntKind.i64 (512 : Int)) (Value.int IntKind.i64 (512 : Int)) w
      fun (s : SV) (w' : World) =>
      ∃ (I : Nat → Int → World → Prop),
        (∃ (n : Nat), I n (0 : Int) w') ∧
          ∀ (n : Nat) (x : Int) (j : Nat → Value) (w' : World),
            I n x w' →
              cnd (decide (x < (↑s.len : Int)))
                ((0 : Int) ≤ x ∧
                  x < (↑s.len : Int) ∧
                    onP s.a fun (A : Addr) =>
                      (w'.cell? (A.add (x.toNat * (1 : Nat)))).isSome = true ∧
                        w'.frozen? (A.add (x.toNat * (1 : Nat))) = false ∧
                          ∃ (m : Nat),
                            m < n ∧
                              I m (IntKind.i64.wrap (x + (1 : Int)))
                                (w'.setCell (A.add (x.toNat * (1 : Nat)))
                                  (Value.int IntKind.u8 (IntKind.u8.wrap (n0 + IntKind.u8.wrap x)))))
                (cnd b1
                  ((0 : Int) ≤ IntKind.i64.wrap ((↑s.len : Int) - (1 : Int)) ∧
                    IntKind.i64.wrap ((↑s.len : Int) - (1 : Int)) ≤ (↑s.cap : Int) ∧
                      R
                        (SV.mk (subA s.a (0 : Nat) (1 : Nat) s.cap)
                          ((IntKind.i64.wrap ((↑s.len : Int) - (1 : Int))).toNat - (0 : Nat)) (s.cap - (0 : Nat)))
                        w')
                  (R s w')))
  : CallT [Ty.one Sh.slice] Try.prog 42 [Value.int IntKind.u8 n0, Value.bool b1] w R :=
  fnV_sound (h := HT.z.sq (HT.z.sq ((HT.z.sq (HT.lp [((6 : Nat), Ty.one (Sh.int IntKind.i64))] HT.z).bl).sq HT.z))) Try.func42 (by kernel_rfl) (by kernel_rfl) (Eq.mp (by kernel_rfl) h)

/-- (*dunnage/disk.Disk).Down -/
theorem disk_Disk_Down.vc (p0 : Option Addr) (w : World) (R : Bool → World → Prop)
  (h : cnd (!p0.isNone) (onP p0 fun (a : Addr) => ∃ (x : Bool), w.cell? (a.add (2 : Nat)) = some (Value.bool x) ∧ R x w)
      (R false w))
  : CallT [Ty.one Sh.bool] Try.prog 43 [Value.pointer p0] w R :=
  fnV_sound (h := HT.z) Try.func43 (by kernel_rfl) (by kernel_rfl) (Eq.mp (by kernel_rfl) h)

/-- (*dunnage/disk.Disk).Read -/
theorem disk_Disk_Read.vc (p0 : Option Addr) (n1 : Int) (w : World) (R : SV × Int → World → Prop)
  (h : CallT [Ty.one (Sh.int IntKind.i64)] Try.prog (107 : Nat) [Value.pointer p0] w fun (x : Int) (w' : World) =>
      cnd (x != (0 : Int)) (R (SV.mk none (0 : Nat) (0 : Nat), x) w')
        (CallT [Ty.one Sh.bool] Try.prog (110 : Nat) [Value.pointer p0, Value.int IntKind.i64 n1] w'
          fun (x : Bool) (w' : World) =>
          cnd (!x) (R (SV.mk none (0 : Nat) (0 : Nat), (1 : Int)) w')
            (onP p0 fun (a : Addr) =>
              ∃ (x : SV),
                w'.cell? (a.add (1 : Nat)) = some (Value.slice x.a x.len x.cap) ∧
                  ∃ (I : Nat → Int → World → Prop),
                    (∃ (n : Nat), I n (IntKind.i64.wrap ((↑x.len : Int) - (1 : Int))) w') ∧
                      ∀ (n : Nat) (x : Int) (j : Nat → Value) (w' : World),
                        I n x w' →
                          cnd (decide (x ≥ (0 : Int)))
                            (onP p0 fun (a : Addr) =>
                              ∃ (x_1 : SV),
                                w'.cell? (a.add (1 : Nat)) = some (Value.slice x_1.a x_1.len x_1.cap) ∧
                                  (0 : Int) ≤ x ∧
                                    x < (↑x_1.len : Int) ∧
                                      onP x_1.a fun (A : Addr) =>
                                        ∃ (x_2 : Int),
                                          w'.cell? ((A.add (x.toNat * (513 : Nat))).add (0 : Nat)) =
                                              some (Value.int IntKind.i64 x_2) ∧
                                            cnd (x_2 == n1)
                                              (onP p0 fun (a : Addr) =>
                                                ∃ (x_3 : SV),
                                                  w'.cell? (a.add (1 : Nat)) = some (Value.slice x_3.a x_3.len x_3.cap) ∧
                                                    (0 : Int) ≤ x ∧
                                                      x < (↑x_3.len : Int) ∧
                                                        onP x_3.a fun (A : Addr) =>
                                                          CallT [Ty.one Sh.slice] Try.prog (111 : Nat)
                                                            [Value.slice
                                                                (subA (some ((A.add (x.toNat * (513 : Nat))).add (1 : Nat)))
                                                                  (0 : Nat) (1 : Nat) (512 : Nat))
                                                                ((512 : Nat) - (0 : Nat)) ((512 : Nat) - (0 : Nat))]
                                                            w' fun (x : SV) (w' : World) => R (x, (0 : Int)) w')
                                              (∃ (m : Nat), m < n ∧ I m (IntKind.i64.wrap (x - (1 : Int))) w'))
                            (onP p0 fun (a : Addr) =>
                              ∃ (x : SV),
                                w'.cell? (a.add (0 : Nat)) = some (Value.slice x.a x.len x.cap) ∧
                                  (0 : Int) ≤ n1 ∧
                                    n1 < (↑x.len : Int) ∧
                                      onP x.a fun (A : Addr) =>
                                        CallT [Ty.one Sh.slice] Try.prog (111 : Nat)
                                          [Value.slice
                                              (subA (some (A.add (n1.toNat * (512 : Nat)))) (0 : Nat) (1 : Nat) (512 : Nat))
                                              ((512 : Nat) - (0 : Nat)) ((512 : Nat) - (0 : Nat))]
                                          w' fun (x : SV) (w' : World) => R (x, (0 : Int)) w'))))
  : CallT [Ty.one Sh.slice, Ty.one (Sh.int IntKind.i64)] Try.prog 44 [Value.pointer p0, Value.int IntKind.i64 n1] w R :=
  fnV_sound (h := HT.z.sq (HT.z.sq (HT.z.sq ((HT.z.sq (HT.lp [((7 : Nat), Ty.one (Sh.int IntKind.i64))] HT.z).bl).sq HT.z)))) Try.func44 (by kernel_rfl) (by kernel_rfl) (Eq.mp (by kernel_rfl) h)

/-- (*dunnage/disk.Disk).Start -/
theorem disk_Disk_Start.vc (p0 : Option Addr) (w : World) (R : Int → World → Prop)
  (h : cnd p0.isNone (R (2 : Int) w)
      (onP p0 fun (a : Addr) =>
        ∃ (x : Bool),
          w.cell? (a.add (2 : Nat)) = some (Value.bool x) ∧
            cnd x
              (onP p0 fun (a : Addr) =>
                (w.cell? (a.add (1 : Nat))).isSome = true ∧
                  w.frozen? (a.add (1 : Nat)) = false ∧
                    let w1 := w.setCell (a.add (1 : Nat)) (Value.slice none (0 : Nat) (0 : Nat));
                    onP p0 fun (a : Addr) =>
                      (w1.cell? (a.add (3 : Nat))).isSome = true ∧
                        w1.frozen? (a.add (3 : Nat)) = false ∧
                          let w1 := w1.setCell (a.add (3 : Nat)) (Value.int IntKind.i64 (0 : Int));
                          onP p0 fun (a : Addr) =>
                            (w1.cell? (a.add (2 : Nat))).isSome = true ∧
                              w1.frozen? (a.add (2 : Nat)) = false ∧
                                R (0 : Int) (w1.setCell (a.add (2 : Nat)) (Value.bool false)))
              (onP p0 fun (a : Addr) =>
                (w.cell? (a.add (2 : Nat))).isSome = true ∧
                  w.frozen? (a.add (2 : Nat)) = false ∧ R (0 : Int) (w.setCell (a.add (2 : Nat)) (Value.bool false)))))
  : CallT [Ty.one (Sh.int IntKind.i64)] Try.prog 45 [Value.pointer p0] w R :=
  fnV_sound (h := HT.z) Try.func45 (by kernel_rfl) (by kernel_rfl) (Eq.mp (by kernel_rfl) h)

/-- dunnage/frame.Write -/
theorem frame_Write.vc (x0 : Int × Int × Int × SV) (w : World) (R : SV × Int → World → Prop)
  (h : let w1 :=
      w.alloc
        (Obj.cells
          #[Value.int IntKind.u64 x0.fst, Value.int IntKind.u64 x0.snd.fst, Value.int IntKind.i64 x0.snd.snd.fst,
            Value.slice x0.snd.snd.snd.a x0.snd.snd.snd.len x0.snd.snd.snd.cap]
          (51 : Nat));
    ∃ (x : Int × Int × Int × SV),
      cellsAt w1 (Addr.mk w.heap.size (0 : Nat) none)
          [Value.int IntKind.u64 x.fst, Value.int IntKind.u64 x.snd.fst, Value.int IntKind.i64 x.snd.snd.fst,
            Value.slice x.snd.snd.snd.a x.snd.snd.snd.len x.snd.snd.snd.cap] ∧
        CallT [Ty.one Sh.bool] Try.prog (112 : Nat)
          [Value.agg
              #[Value.int IntKind.u64 x.fst, Value.int IntKind.u64 x.snd.fst, Value.int IntKind.i64 x.snd.snd.fst,
                Value.slice x.snd.snd.snd.a x.snd.snd.snd.len x.snd.snd.snd.cap]]
          w1 fun (x : Bool) (w' : World) =>
          cnd (!x) (R (SV.mk none (0 : Nat) (0 : Nat), (11 : Int)) w')
            (∃ (S : World → Prop),
              S w'.drew ∧
                ∃ (x : Int),
                  (∀ (w_1 : World),
                      S w_1 →
                        w_1.cell? ((Addr.mk w.heap.size (0 : Nat) none).add (0 : Nat)) = some (Value.int IntKind.u64 x)) ∧
                    ∃ (x_1 : Int),
                      (∀ (w_1 : World),
                          S w_1 →
                            w_1.cell? ((Addr.mk w.heap.size (0 : Nat) none).add (1 : Nat)) =
                              some (Value.int IntKind.u64 x_1)) ∧
                        ∃ (x_2 : Int),
                          (∀ (w_1 : World),
                              S w_1 →
                                w_1.cell? ((Addr.mk w.heap.size (0 : Nat) none).add (2 : Nat)) =
                                  some (Value.int IntKind.i64 x_2)) ∧
                            ∃ (x_3 : SV),
                              (∀ (w_1 : World),
                                  S w_1 →
                                    w_1.cell? ((Addr.mk w.heap.size (0 : Nat) none).add (3 : Nat)) =
                                      some (Value.slice x_3.a x_3.len x_3.cap)) ∧
                                CallT [Ty.one Sh.slice] Try.prog (114 : Nat) [Value.int IntKind.u64 x] w'.drew
                                  fun (x : SV) (w' : World) =>
                                  S w' ∧
                                    CallT [Ty.one Sh.slice] Try.prog (114 : Nat) [Value.int IntKind.u64 x_1] w'
                                      fun (x_4 : SV) (w' : World) =>
                                      S w' ∧
                                        CallT [Ty.one Sh.slice] Try.prog (114 : Nat)
                                          [Value.int IntKind.u64 (IntKind.u64.wrap x_2)] w' fun (x_5 : SV) (w' : World) =>
                                          S w' ∧
                                            let w1 :=
                                              w'.alloc
                                                (Obj.cells
                                                  #[Value.slice x.a x.len x.cap, Value.slice x_4.a x_4.len x_4.cap,
                                                    Value.slice x_5.a x_5.len x_5.cap, Value.slice x_3.a x_3.len x_3.cap]
                                                  (23 : Nat));
                                            S w1 ∧
                                              CallT [Ty.one Sh.slice] Try.prog (113 : Nat)
                                                [Value.slice (some (Addr.mk w'.heap.size (0 : Nat) none)) (4 : Nat)
                                                    (4 : Nat)]
                                                w1 fun (x : SV) (w' : World) => S w' ∧ R (x, (0 : Int)) w'))
  : CallT [Ty.one Sh.slice, Ty.one (Sh.int IntKind.i64)] Try.prog 46 [Value.agg
    #[Value.int IntKind.u64 x0.fst, Value.int IntKind.u64 x0.snd.fst, Value.int IntKind.i64 x0.snd.snd.fst,
      Value.slice x0.snd.snd.snd.a x0.snd.snd.snd.len x0.snd.snd.snd.cap]] w R :=
  fnV_sound (h := HT.z.sq
  (HT.z.sq
    ((HT.dr
          (DT.take (0 : Nat)
            (DT.take (1 : Nat)
              (DT.take (3 : Nat)
                (DT.take (4 : Nat)
                  (DT.take (6 : Nat)
                    (DT.take (7 : Nat)
                      (DT.take (8 : Nat)
                        (DT.take (10 : Nat)
                          (DT.take (11 : Nat)
                            (DT.alt (2 : Nat)
                              (DT.alt (5 : Nat)
                                (DT.alt (9 : Nat)
                                  (DT.alt (12 : Nat) (DT.alt (13 : Nat) (DT.take (14 : Nat) DT.fin) DT.fin) DT.fin)
                                  DT.fin)
                                DT.fin)
                              DT.fin))))))))))).sq
      HT.z))) Try.func46 (by kernel_rfl) (by kernel_rfl) (Eq.mp (by kernel_rfl) h)

/-- dunnage/dunnageref06.Write -/
theorem dunnageref06_Write.vc (x0 : Int × Int × Int × SV) (w : World) (R : SV × Int → World → Prop)
  (h : let w1 :=
      w.alloc
        (Obj.cells
          #[Value.int IntKind.u64 x0.fst, Value.int IntKind.u64 x0.snd.fst, Value.int IntKind.i64 x0.snd.snd.fst,
            Value.slice x0.snd.snd.snd.a x0.snd.snd.snd.len x0.snd.snd.snd.cap]
          (51 : Nat));
    ∃ (x : Int × Int × Int × SV),
      cellsAt w1 (Addr.mk w.heap.size (0 : Nat) none)
          [Value.int IntKind.u64 x.fst, Value.int IntKind.u64 x.snd.fst, Value.int IntKind.i64 x.snd.snd.fst,
            Value.slice x.snd.snd.snd.a x.snd.snd.snd.len x.snd.snd.snd.cap] ∧
        CallT [Ty.one Sh.bool] Try.prog (115 : Nat)
          [Value.agg
              #[Value.int IntKind.u64 x.fst, Value.int IntKind.u64 x.snd.fst, Value.int IntKind.i64 x.snd.snd.fst,
                Value.slice x.snd.snd.snd.a x.snd.snd.snd.len x.snd.snd.snd.cap]]
          w1 fun (x : Bool) (w' : World) =>
          cnd (!x) (R (SV.mk none (0 : Nat) (0 : Nat), (11 : Int)) w')
            (∃ (x : Int),
              w'.cell? ((Addr.mk w.heap.size (0 : Nat) none).add (0 : Nat)) = some (Value.int IntKind.u64 x) ∧
                CallT [Ty.one Sh.slice] Try.prog (116 : Nat) [Value.int IntKind.u64 x] w' fun (x : SV) (w' : World) =>
                  ∃ (x_1 : Int),
                    w'.cell? ((Addr.mk w.heap.size (0 : Nat) none).add (1 : Nat)) = some (Value.int IntKind.u64 x_1) ∧
                      CallT [Ty.one Sh.slice] Try.prog (116 : Nat) [Value.int IntKind.u64 x_1] w'
                        fun (x_2 : SV) (w' : World) =>
                        appV Try.prog [(23 : Nat), (23 : Nat)] (23 : Nat)
                          [Value.slice x.a x.len x.cap, Value.slice x_2.a x_2.len x_2.cap] w' fun (s : SV) (w' : World) =>
                          ∃ (x : Int),
                            w'.cell? ((Addr.mk w.heap.size (0 : Nat) none).add (2 : Nat)) = some (Value.int IntKind.i64 x) ∧
                              CallT [Ty.one Sh.slice] Try.prog (116 : Nat) [Value.int IntKind.u64 (IntKind.u64.wrap x)] w'
                                fun (x : SV) (w' : World) =>
                                appV Try.prog [(23 : Nat), (23 : Nat)] (23 : Nat)
                                  [Value.slice s.a s.len s.cap, Value.slice x.a x.len x.cap] w' fun (s : SV) (w' : World) =>
                                  ∃ (x : SV),
                                    w'.cell? ((Addr.mk w.heap.size (0 : Nat) none).add (3 : Nat)) =
                                        some (Value.slice x.a x.len x.cap) ∧
                                      appV Try.prog [(23 : Nat), (23 : Nat)] (23 : Nat)
                                        [Value.slice s.a s.len s.cap, Value.slice x.a x.len x.cap] w'
                                        fun (s : SV) (w' : World) => R (s, (0 : Int)) w'))
  : CallT [Ty.one Sh.slice, Ty.one (Sh.int IntKind.i64)] Try.prog 47 [Value.agg
    #[Value.int IntKind.u64 x0.fst, Value.int IntKind.u64 x0.snd.fst, Value.int IntKind.i64 x0.snd.snd.fst,
      Value.slice x0.snd.snd.snd.a x0.snd.snd.snd.len x0.snd.snd.snd.cap]] w R :=
  fnV_sound (h := HT.z) Try.func47 (by kernel_rfl) (by kernel_rfl) (Eq.mp (by kernel_rfl) h)

/-- dunnage/frame.Read -/
theorem frame_Read.vc (s0 : SV) (w : World) (R : (Int × Int × Int × SV) × Int → World → Prop)
  (h : let w1 :=
      w.alloc
        (Obj.cells
          #[Value.int IntKind.u64 (0 : Int), Value.int IntKind.u64 (0 : Int), Value.int IntKind.i64 (0 : Int),
            Value.slice none (0 : Nat) (0 : Nat)]
          (51 : Nat));
    ∃ (I : Nat → Int × Int → World → Prop),
      (∃ (n : Nat),
          I n ((0 : Int), (0 : Int))
            (w1.alloc
              (Obj.cells
                #[Value.int IntKind.u64 (0 : Int), Value.int IntKind.u64 (0 : Int), Value.int IntKind.u64 (0 : Int)]
                (161 : Nat)))) ∧
        ∀ (n : Nat) (x : Int × Int) (j : Nat → Value) (w' : World),
          I n x w' →
            cnd (decide (x.snd < (3 : Int)))
              (let e1 := x.snd;
              CallT [Ty.one (Sh.int IntKind.u64), Ty.one (Sh.int IntKind.i64), Ty.one (Sh.int IntKind.i64)] Try.prog
                (117 : Nat) [Value.slice s0.a s0.len s0.cap, Value.int IntKind.i64 x.fst] w'
                fun (x_1 : Int × Int × Int) (w' : World) =>
                let e1_1 := x_1.snd.snd;
                cnd (e1_1 != (0 : Int))
                  (canSt w' (Addr.mk w.heap.size (0 : Nat) none) (4 : Nat) ∧
                    let w1 :=
                      setCells w' (Addr.mk w.heap.size (0 : Nat) none) (0 : Nat)
                        [Value.int IntKind.u64 (0 : Int), Value.int IntKind.u64 (0 : Int), Value.int IntKind.i64 (0 : Int),
                          Value.slice none (0 : Nat) (0 : Nat)];
                    ∃ (x : Int × Int × Int × SV),
                      cellsAt w1 (Addr.mk w.heap.size (0 : Nat) none)
                          [Value.int IntKind.u64 x.fst, Value.int IntKind.u64 x.snd.fst,
                            Value.int IntKind.i64 x.snd.snd.fst,
                            Value.slice x.snd.snd.snd.a x.snd.snd.snd.len x.snd.snd.snd.cap] ∧
                        R ((x.fst, x.snd.fst, x.snd.snd.fst, x.snd.snd.snd), e1_1) w1)
                  ((0 : Int) ≤ e1 ∧
                    e1 < (↑(3 : Nat) : Int) ∧
                      (w'.cell? ((Addr.mk w1.heap.size (0 : Nat) none).add (e1.toNat * (1 : Nat)))).isSome = true ∧
                        w'.frozen? ((Addr.mk w1.heap.size (0 : Nat) none).add (e1.toNat * (1 : Nat))) = false ∧
                          ∃ (m : Nat),
                            m < n ∧
                              I m (x_1.snd.fst, IntKind.i64.wrap (x.snd + (1 : Int)))
                                (w'.setCell ((Addr.mk w1.heap.size (0 : Nat) none).add (e1.toNat * (1 : Nat)))
                                  (Value.int IntKind.u64 x_1.fst))))
              (∃ (R_1 : Option Addr → World → Prop),
                (∃ (S : World → Prop),
                    S w'.drew ∧
                      (0 : Int) ≤ (0 : Int) ∧
                        (0 : Int) < (↑(3 : Nat) : Int) ∧
                          ∃ (x_1 : Int),
                            (∀ (w : World),
                                S w →
                                  w.cell? ((Addr.mk w1.heap.size (0 : Nat) none).add (Int.toNat (0 : Int) * (1 : Nat))) =
                                    some (Value.int IntKind.u64 x_1)) ∧
                              (0 : Int) ≤ (1 : Int) ∧
                                (1 : Int) < (↑(3 : Nat) : Int) ∧
                                  ∃ (x_2 : Int),
                                    (∀ (w : World),
                                        S w →
                                          w.cell?
                                              ((Addr.mk w1.heap.size (0 : Nat) none).add
                                                (Int.toNat (1 : Int) * (1 : Nat))) =
                                            some (Value.int IntKind.u64 x_2)) ∧
                                      (0 : Int) ≤ (2 : Int) ∧
                                        (2 : Int) < (↑(3 : Nat) : Int) ∧
                                          ∃ (x_3 : Int),
                                            (∀ (w : World),
                                                S w →
                                                  w.cell?
                                                      ((Addr.mk w1.heap.size (0 : Nat) none).add
                                                        (Int.toNat (2 : Int) * (1 : Nat))) =
                                                    some (Value.int IntKind.u64 x_3)) ∧
                                              let e1 := x.fst;
                                              (0 : Int) ≤ e1 ∧
                                                e1 ≤ (↑s0.len : Int) ∧
                                                  (CallT [Ty.one Sh.slice] Try.prog (111 : Nat)
                                                      [Value.slice (subA s0.a e1.toNat (1 : Nat) s0.cap) (s0.len - e1.toNat)
                                                          (s0.cap - e1.toNat)]
                                                      w'.drew fun (x : SV) (w' : World) =>
                                                      S w' ∧
                                                        let w1 :=
                                                          w'.alloc
                                                            (Obj.cells
                                                              #[Value.int IntKind.u64 (0 : Int),
                                                                Value.int IntKind.u64 (0 : Int),
                                                                Value.int IntKind.i64 (0 : Int),
                                                                Value.slice none (0 : Nat) (0 : Nat)]
                                                              (51 : Nat));
                                                        S w1 ∧
                                                          canSt w1 (Addr.mk w'.heap.size (0 : Nat) none) (4 : Nat) ∧
                                                            R_1 (some (Addr.mk w'.heap.size (0 : Nat) none))
                                                              (setCells w1 (Addr.mk w'.heap.size (0 : Nat) none) (0 : Nat)
                                                                [Value.int IntKind.u64 x_1, Value.int IntKind.u64 x_2,
                                                                  Value.int IntKind.i64
                                                                    (IntKind.i64.wrap (min x_3 (33 : Int))),
                                                                  Value.slice x.a x.len x.cap])) ∧
                                                    let w1 :=
                                                      w'.drew.alloc
                                                        (Obj.cells
                                                          #[Value.int IntKind.u64 (0 : Int),
                                                            Value.int IntKind.u64 (0 : Int),
                                                            Value.int IntKind.i64 (0 : Int),
                                                            Value.slice none (0 : Nat) (0 : Nat)]
                                                          (51 : Nat));
                                                    S w1 ∧
                                                      CallT [Ty.one Sh.slice] Try.prog (111 : Nat)
                                                        [Value.slice (subA s0.a e1.toNat (1 : Nat) s0.cap)
                                                            (s0.len - e1.toNat) (s0.cap - e1.toNat)]
                                                        w1 fun (x : SV) (w'_1 : World) =>
                                                        S w'_1 ∧
                                                          canSt w'_1 (Addr.mk w'.drew.heap.size (0 : Nat) none) (4 : Nat) ∧
                                                            R_1 (some (Addr.mk w'.drew.heap.size (0 : Nat) none))
                                                              (setCells w'_1 (Addr.mk w'.drew.heap.size (0 : Nat) none)
                                                                (0 : Nat)
                                                                [Value.int IntKind.u64 x_1, Value.int IntKind.u64 x_2,
                                                                  Value.int IntKind.i64
                                                                    (IntKind.i64.wrap (min x_3 (33 : Int))),
                                                                  Value.slice x.a x.len x.cap])) ∧
                  ∀ (x : Option Addr) (j : Nat → Value) (w' : World),
                    R_1 x w' →
                      onP x fun (A : Addr) =>
                        ∃ (x_1 : Int × Int × Int × SV),
                          cellsAt w' A
                              [Value.int IntKind.u64 x_1.fst, Value.int IntKind.u64 x_1.snd.fst,
                                Value.int IntKind.i64 x_1.snd.snd.fst,
                                Value.slice x_1.snd.snd.snd.a x_1.snd.snd.snd.len x_1.snd.snd.snd.cap] ∧
                            CallT [Ty.one Sh.bool] Try.prog (112 : Nat)
                              [Value.agg
                                  #[Value.int IntKind.u64 x_1.fst, Value.int IntKind.u64 x_1.snd.fst,
                                    Value.int IntKind.i64 x_1.snd.snd.fst,
                                    Value.slice x_1.snd.snd.snd.a x_1.snd.snd.snd.len x_1.snd.snd.snd.cap]]
                              w' fun (x_2 : Bool) (w' : World) =>
                              cnd (!x_2)
                                (canSt w' (Addr.mk w.heap.size (0 : Nat) none) (4 : Nat) ∧
                                  let w1 :=
                                    setCells w' (Addr.mk w.heap.size (0 : Nat) none) (0 : Nat)
                                      [Value.int IntKind.u64 (0 : Int), Value.int IntKind.u64 (0 : Int),
                                        Value.int IntKind.i64 (0 : Int), Value.slice none (0 : Nat) (0 : Nat)];
                                  ∃ (x : Int × Int × Int × SV),
                                    cellsAt w1 (Addr.mk w.heap.size (0 : Nat) none)
                                        [Value.int IntKind.u64 x.fst, Value.int IntKind.u64 x.snd.fst,
                                          Value.int IntKind.i64 x.snd.snd.fst,
                                          Value.slice x.snd.snd.snd.a x.snd.snd.snd.len x.snd.snd.snd.cap] ∧
                                      R ((x.fst, x.snd.fst, x.snd.snd.fst, x.snd.snd.snd), (11 : Int)) w1)
                                (onP x fun (A : Addr) =>
                                  ∃ (x : Int × Int × Int × SV),
                                    cellsAt w' A
                                        [Value.int IntKind.u64 x.fst, Value.int IntKind.u64 x.snd.fst,
                                          Value.int IntKind.i64 x.snd.snd.fst,
                                          Value.slice x.snd.snd.snd.a x.snd.snd.snd.len x.snd.snd.snd.cap] ∧
                                      canSt w' (Addr.mk w.heap.size (0 : Nat) none) (4 : Nat) ∧
                                        let w1 :=
                                          setCells w' (Addr.mk w.heap.size (0 : Nat) none) (0 : Nat)
                                            [Value.int IntKind.u64 x.fst, Value.int IntKind.u64 x.snd.fst,
                                              Value.int IntKind.i64 x.snd.snd.fst,
                                              Value.slice x.snd.snd.snd.a x.snd.snd.snd.len x.snd.snd.snd.cap];
                                        ∃ (x : Int × Int × Int × SV),
                                          cellsAt w1 (Addr.mk w.heap.size (0 : Nat) none)
                                              [Value.int IntKind.u64 x.fst, Value.int IntKind.u64 x.snd.fst,
                                                Value.int IntKind.i64 x.snd.snd.fst,
                                                Value.slice x.snd.snd.snd.a x.snd.snd.snd.len x.snd.snd.snd.cap] ∧
                                            R ((x.fst, x.snd.fst, x.snd.snd.fst, x.snd.snd.snd), (0 : Int)) w1)))
  : CallT [Ty.agg [Sh.int IntKind.u64, Sh.int IntKind.u64, Sh.int IntKind.i64, Sh.slice], Ty.one (Sh.int IntKind.i64)] Try.prog 48 [Value.slice s0.a s0.len s0.cap] w R :=
  fnV_sound (h := HT.z.sq
  (HT.z.sq
    (HT.z.sq
      ((HT.z.sq
            (HT.lp [((5 : Nat), Ty.one (Sh.int IntKind.i64)), ((11 : Nat), Ty.one (Sh.int IntKind.i64))] HT.z).bl).sq
        (HT.jn [((10 : Nat), Ty.one Sh.ptr)]
          (HT.dr
            (DT.take (0 : Nat)
              (DT.take (1 : Nat)
                (DT.take (2 : Nat)
                  (DT.take (3 : Nat)
                    (DT.take (4 : Nat)
                      (DT.take (5 : Nat)
                        (DT.take (6 : Nat)
                          (DT.take (7 : Nat)
                            (DT.take (8 : Nat)
                              (DT.take (9 : Nat)
                                (DT.take (10 : Nat)
                                  (DT.alt (11 : Nat)
                                    (DT.take (12 : Nat) (DT.alt (13 : Nat) (DT.alt (14 : Nat) DT.fin DT.fin) DT.fin))
                                    (DT.alt (13 : Nat)
                                      (DT.alt (11 : Nat) (DT.take (12 : Nat) (DT.alt (14 : Nat) DT.fin DT.fin)) DT.fin)
                                      DT.fin))))))))))))))
          HT.z))))) Try.func48 (by kernel_rfl) (by kernel_rfl) (Eq.mp (by kernel_rfl) h)

/-- dunnage/dunnageref06.Read -/
theorem dunnageref06_Read.vc (s0 : SV) (w : World) (R : (Int × Int × Int × SV) × Int → World → Prop)
  (h : let w1 :=
      w.alloc
        (Obj.cells
          #[Value.int IntKind.u64 (0 : Int), Value.int IntKind.u64 (0 : Int), Value.int IntKind.i64 (0 : Int),
            Value.slice none (0 : Nat) (0 : Nat)]
          (51 : Nat));
    CallT [Ty.one (Sh.int IntKind.u64)] Try.prog (118 : Nat) [Value.pointer (some (Addr.mk w1.heap.size (0 : Nat) none))]
      (w1.alloc
        (Obj.cells #[Value.slice s0.a s0.len s0.cap, Value.int IntKind.i64 (0 : Int), Value.int IntKind.i64 (0 : Int)]
          (166 : Nat)))
      fun (x : Int) (w' : World) =>
      CallT [Ty.one (Sh.int IntKind.u64)] Try.prog (118 : Nat) [Value.pointer (some (Addr.mk w1.heap.size (0 : Nat) none))]
        w' fun (x_1 : Int) (w' : World) =>
        CallT [Ty.one (Sh.int IntKind.i64)] Try.prog (119 : Nat)
          [Value.pointer (some (Addr.mk w1.heap.size (0 : Nat) none)), Value.int IntKind.u64 (32 : Int)] w'
          fun (x_2 : Int) (w' : World) =>
          let w1_1 :=
            w'.alloc
              (Obj.cells
                #[Value.int IntKind.u64 (0 : Int), Value.int IntKind.u64 (0 : Int), Value.int IntKind.i64 (0 : Int),
                  Value.slice none (0 : Nat) (0 : Nat)]
                (51 : Nat));
          canSt w1_1 (Addr.mk w'.heap.size (0 : Nat) none) (4 : Nat) ∧
            let w1_2 :=
              setCells w1_1 (Addr.mk w'.heap.size (0 : Nat) none) (0 : Nat)
                [Value.int IntKind.u64 x, Value.int IntKind.u64 x_1, Value.int IntKind.i64 x_2,
                  Value.slice none (0 : Nat) (0 : Nat)];
            ∃ (x : Int),
              w1_2.cell? ((Addr.mk w1.heap.size (0 : Nat) none).add (2 : Nat)) = some (Value.int IntKind.i64 x) ∧
                cnd (x != (0 : Int))
                  (∃ (S : World → Prop),
                    S w1_2.drew ∧
                      ∃ (x : Int),
                        (∀ (w : World),
                            S w →
                              w.cell? ((Addr.mk w1.heap.size (0 : Nat) none).add (2 : Nat)) =
                                some (Value.int IntKind.i64 x)) ∧
                          canSt w1_2.drew (Addr.mk w.heap.size (0 : Nat) none) (4 : Nat) ∧
                            let w1 :=
                              setCells w1_2.drew (Addr.mk w.heap.size (0 : Nat) none) (0 : Nat)
                                [Value.int IntKind.u64 (0 : Int), Value.int IntKind.u64 (0 : Int),
                                  Value.int IntKind.i64 (0 : Int), Value.slice none (0 : Nat) (0 : Nat)];
                            S w1 ∧
                              ∃ (x_3 : Int × Int × Int × SV),
                                cellsAt w1 (Addr.mk w.heap.size (0 : Nat) none)
                                    [Value.int IntKind.u64 x_3.fst, Value.int IntKind.u64 x_3.snd.fst,
                                      Value.int IntKind.i64 x_3.snd.snd.fst,
                                      Value.slice x_3.snd.snd.snd.a x_3.snd.snd.snd.len x_3.snd.snd.snd.cap] ∧
                                  R ((x_3.fst, x_3.snd.fst, x_3.snd.snd.fst, x_3.snd.snd.snd), x) w1)
                  (∃ (x : Int),
                    w1_2.cell? ((Addr.mk w1.heap.size (0 : Nat) none).add (1 : Nat)) = some (Value.int IntKind.i64 x) ∧
                      (0 : Int) ≤ x ∧
                        x ≤ (↑s0.len : Int) ∧
                          CallT [Ty.one Sh.slice] Try.prog (120 : Nat)
                            [Value.slice (subA s0.a x.toNat (1 : Nat) s0.cap) (s0.len - x.toNat) (s0.cap - x.toNat)] w1_2
                            fun (x : SV) (w'_1 : World) =>
                            (w'_1.cell? ((Addr.mk w'.heap.size (0 : Nat) none).add (3 : Nat))).isSome = true ∧
                              w'_1.frozen? ((Addr.mk w'.heap.size (0 : Nat) none).add (3 : Nat)) = false ∧
                                let w1 :=
                                  w'_1.setCell ((Addr.mk w'.heap.size (0 : Nat) none).add (3 : Nat))
                                    (Value.slice x.a x.len x.cap);
                                ∃ (x : Int × Int × Int × SV),
                                  cellsAt w1 (Addr.mk w'.heap.size (0 : Nat) none)
                                      [Value.int IntKind.u64 x.fst, Value.int IntKind.u64 x.snd.fst,
                                        Value.int IntKind.i64 x.snd.snd.fst,
                                        Value.slice x.snd.snd.snd.a x.snd.snd.snd.len x.snd.snd.snd.cap] ∧
                                    CallT [Ty.one Sh.bool] Try.prog (115 : Nat)
                                      [Value.agg
                                          #[Value.int IntKind.u64 x.fst, Value.int IntKind.u64 x.snd.fst,
                                            Value.int IntKind.i64 x.snd.snd.fst,
                                            Value.slice x.snd.snd.snd.a x.snd.snd.snd.len x.snd.snd.snd.cap]]
                                      w1 fun (x : Bool) (w'_2 : World) =>
                                      cnd (!x)
                                        (canSt w'_2 (Addr.mk w.heap.size (0 : Nat) none) (4 : Nat) ∧
                                          let w1 :=
                                            setCells w'_2 (Addr.mk w.heap.size (0 : Nat) none) (0 : Nat)
                                              [Value.int IntKind.u64 (0 : Int), Value.int IntKind.u64 (0 : Int),
                                                Value.int IntKind.i64 (0 : Int), Value.slice none (0 : Nat) (0 : Nat)];
                                          ∃ (x : Int × Int × Int × SV),
                                            cellsAt w1 (Addr.mk w.heap.size (0 : Nat) none)
                                                [Value.int IntKind.u64 x.fst, Value.int IntKind.u64 x.snd.fst,
                                                  Value.int IntKind.i64 x.snd.snd.fst,
                                                  Value.slice x.snd.snd.snd.a x.snd.snd.snd.len x.snd.snd.snd.cap] ∧
                                              R ((x.fst, x.snd.fst, x.snd.snd.fst, x.snd.snd.snd), (11 : Int)) w1)
                                        (∃ (x : Int × Int × Int × SV),
                                          cellsAt w'_2 (Addr.mk w'.heap.size (0 : Nat) none)
                                              [Value.int IntKind.u64 x.fst, Value.int IntKind.u64 x.snd.fst,
                                                Value.int IntKind.i64 x.snd.snd.fst,
                                                Value.slice x.snd.snd.snd.a x.snd.snd.snd.len x.snd.snd.snd.cap] ∧
                                            canSt w'_2 (Addr.mk w.heap.size (0 : Nat) none) (4 : Nat) ∧
                                              let w1 :=
                                                setCells w'_2 (Addr.mk w.heap.size (0 : Nat) none) (0 : Nat)
                                                  [Value.int IntKind.u64 x.fst, Value.int IntKind.u64 x.snd.fst,
                                                    Value.int IntKind.i64 x.snd.snd.fst,
                                                    Value.slice x.snd.snd.snd.a x.snd.snd.snd.len x.snd.snd.snd.cap];
                                              ∃ (x : Int × Int × Int × SV),
                                                cellsAt w1 (Addr.mk w.heap.size (0 : Nat) none)
                                                    [Value.int IntKind.u64 x.fst, Value.int IntKind.u64 x.snd.fst,
                                                      Value.int IntKind.i64 x.snd.snd.fst,
                                                      Value.slice x.snd.snd.snd.a x.snd.snd.snd.len x.snd.snd.snd.cap] ∧
                                                  R ((x.fst, x.snd.fst, x.snd.snd.fst, x.snd.snd.snd), (0 : Int)) w1)))
  : CallT [Ty.agg [Sh.int IntKind.u64, Sh.int IntKind.u64, Sh.int IntKind.i64, Sh.slice], Ty.one (Sh.int IntKind.i64)] Try.prog 49 [Value.slice s0.a s0.len s0.cap] w R :=
  fnV_sound (h := HT.z.sq
  (HT.z.sq
    (HT.z.sq
      ((HT.z.sq
            (((HT.dr
                      (DT.take (0 : Nat)
                        (DT.take (1 : Nat)
                          (DT.take (2 : Nat)
                            (DT.take (3 : Nat)
                              (DT.take (4 : Nat) (DT.alt (5 : Nat) (DT.take (6 : Nat) DT.fin) DT.fin))))))).sq
                  HT.z).cd
              HT.z)).sq
        HT.z)))) Try.func49 (by kernel_rfl) (by kernel_rfl) (Eq.mp (by kernel_rfl) h)

/-- dunnage/dunnagehelp.Frame -/
theorem dunnagehelp_Frame.vc (x0 : Int × Int × Int × SV) (x1 : Int × Int × Int × SV) (w : World) (R : Bool → World → Prop)
  (h : let w1 :=
      w.alloc
        (Obj.cells
          #[Value.int IntKind.u64 x0.fst, Value.int IntKind.u64 x0.snd.fst, Value.int IntKind.i64 x0.snd.snd.fst,
            Value.slice x0.snd.snd.snd.a x0.snd.snd.snd.len x0.snd.snd.snd.cap]
          (51 : Nat));
    let w1_1 :=
      w1.alloc
        (Obj.cells
          #[Value.int IntKind.u64 x1.fst, Value.int IntKind.u64 x1.snd.fst, Value.int IntKind.i64 x1.snd.snd.fst,
            Value.slice x1.snd.snd.snd.a x1.snd.snd.snd.len x1.snd.snd.snd.cap]
          (51 : Nat));
    ∃ (x : Int),
      w1_1.cell? ((Addr.mk w.heap.size (0 : Nat) none).add (0 : Nat)) = some (Value.int IntKind.u64 x) ∧
        ∃ (x_1 : Int),
          w1_1.cell? ((Addr.mk w1.heap.size (0 : Nat) none).add (0 : Nat)) = some (Value.int IntKind.u64 x_1) ∧
            cnd (x == x_1)
              (∃ (x : Int),
                w1_1.cell? ((Addr.mk w.heap.size (0 : Nat) none).add (1 : Nat)) = some (Value.int IntKind.u64 x) ∧
                  ∃ (x_2 : Int),
                    w1_1.cell? ((Addr.mk w1.heap.size (0 : Nat) none).add (1 : Nat)) = some (Value.int IntKind.u64 x_2) ∧
                      cnd (x == x_2)
                        (∃ (x : Int),
                          w1_1.cell? ((Addr.mk w.heap.size (0 : Nat) none).add (2 : Nat)) = some (Value.int IntKind.i64 x) ∧
                            ∃ (x_3 : Int),
                              w1_1.cell? ((Addr.mk w1.heap.size (0 : Nat) none).add (2 : Nat)) =
                                  some (Value.int IntKind.i64 x_3) ∧
                                cnd (x == x_3)
                                  (∃ (x : SV),
                                    w1_1.cell? ((Addr.mk w.heap.size (0 : Nat) none).add (3 : Nat)) =
                                        some (Value.slice x.a x.len x.cap) ∧
                                      ∃ (x_4 : SV),
                                        w1_1.cell? ((Addr.mk w1.heap.size (0 : Nat) none).add (3 : Nat)) =
                                            some (Value.slice x_4.a x_4.len x_4.cap) ∧
                                          CallT [Ty.one Sh.bool] Try.prog (33 : Nat)
                                            [Value.slice x.a x.len x.cap, Value.slice x_4.a x_4.len x_4.cap] w1_1
                                            fun (x : Bool) (w' : World) => R x w')
                                  (R false w1_1))
                        (R false w1_1))
              (R false w1_1))
  : CallT [Ty.one Sh.bool] Try.prog 50 [Value.agg
    #[Value.int IntKind.u64 x0.fst, Value.int IntKind.u64 x0.snd.fst, Value.int IntKind.i64 x0.snd.snd.fst,
      Value.slice x0.snd.snd.snd.a x0.snd.snd.snd.len x0.snd.snd.snd.cap],
  Value.agg
    #[Value.int IntKind.u64 x1.fst, Value.int IntKind.u64 x1.snd.fst, Value.int IntKind.i64 x1.snd.snd.fst,
      Value.slice x1.snd.snd.snd.a x1.snd.snd.snd.len x1.snd.snd.snd.cap]] w R :=
  fnV_sound (h := HT.z) Try.func50 (by kernel_rfl) (by kernel_rfl) (Eq.mp (by kernel_rfl) h)

/-- dunnage/frame.Count -/
theorem frame_Count.vc (n0 : Int) (w : World) (R : Int → World → Prop)
  (h : cnd (decide (n0 < (0 : Int))) (R (0 : Int) w)
      (R (max (IntKind.i64.wrap (IntKind.i64.wrap (n0.tdiv (440 : Int)) + min (n0.tmod (440 : Int)) (1 : Int))) (1 : Int))
        w))
  : CallT [Ty.one (Sh.int IntKind.i64)] Try.prog 51 [Value.int IntKind.i64 n0] w R :=
  fnV_sound (h := HT.z) Try.func51 (by kernel_rfl) (by kernel_rfl) (Eq.mp (by kernel_rfl) h)

/-- dunnage/dunnageref06.Count -/
theorem dunnageref06_Count.vc (n0 : Int) (w : World) (R : Int → World → Prop)
  (h : cnd (decide (n0 < (0 : Int))) (R (0 : Int) w)
      (cnd (n0 == (0 : Int)) (R (1 : Int) w)
        (R (IntKind.i64.wrap (IntKind.i64.wrap ((IntKind.i64.wrap (n0 - (1 : Int))).tdiv (440 : Int)) + (1 : Int))) w)))
  : CallT [Ty.one (Sh.int IntKind.i64)] Try.prog 52 [Value.int IntKind.i64 n0] w R :=
  fnV_sound (h := HT.z) Try.func52 (by kernel_rfl) (by kernel_rfl) (Eq.mp (by kernel_rfl) h)

/-- dunnage/dunnagelaw04.ran -/
theorem dunnagelaw04_ran.vc (s0 : SV) (w : World) (R : Option Addr → World → Prop)
  (h : CallT [Ty.one Sh.ptr, Ty.one (Sh.int IntKind.i64)] Try.prog (37 : Nat) [Value.int IntKind.i64 (8 : Int)] w
      fun (x : Option Addr × Int) (w' : World) =>
      ∃ (R_1 : PUnit → World → Prop),
        cnd (x.snd != (0 : Int)) (R none w') (cnd (Option.isNone x.fst) (R none w') (R_1 () w')) ∧
          ∀ (x_1 : PUnit) (j : Nat → Value) (w' : World),
            R_1 x_1 w' →
              ∃ (I : Nat → Int → World → Prop),
                (∃ (n : Nat), I n (0 : Int) w') ∧
                  ∀ (n : Nat) (x_2 : Int) (j : Nat → Value) (w' : World),
                    I n x_2 w' →
                      ∃ (R_2 : PUnit → World → Prop),
                        cnd (decide (x_2 < (↑s0.len : Int))) (cnd (decide (x_2 < (100 : Int))) (R_2 () w') (R x.fst w'))
                            (R x.fst w') ∧
                          ∀ (x_3 : PUnit) (j : Nat → Value) (w' : World),
                            R_2 x_3 w' →
                              (0 : Int) ≤ x_2 ∧
                                x_2 < (↑s0.len : Int) ∧
                                  onP s0.a fun (A : Addr) =>
                                    ∃ (x_4 : Int × Int × Int × Int × Bool × SV),
                                      cellsAt w' (A.add (x_2.toNat * (6 : Nat)))
                                          [Value.int IntKind.i64 x_4.fst, Value.int IntKind.i64 x_4.snd.fst,
                                            Value.int IntKind.i64 x_4.snd.snd.fst, Value.int IntKind.u8 x_4.snd.snd.snd.fst,
                                            Value.bool x_4.snd.snd.snd.snd.fst,
                                            Value.slice x_4.snd.snd.snd.snd.snd.a x_4.snd.snd.snd.snd.snd.len
                                              x_4.snd.snd.snd.snd.snd.cap] ∧
                                        let w1 :=
                                          w'.alloc
                                            (Obj.cells
                                              #[Value.int IntKind.i64 (0 : Int), Value.int IntKind.i64 (0 : Int),
                                                Value.int IntKind.i64 (0 : Int), Value.int IntKind.u8 (0 : Int),
                                                Value.bool false, Value.slice none (0 : Nat) (0 : Nat)]
                                              (62 : Nat));
                                        canSt w1 (Addr.mk w'.heap.size (0 : Nat) none) (6 : Nat) ∧
                                          let w1 :=
                                            setCells w1 (Addr.mk w'.heap.size (0 : Nat) none) (0 : Nat)
                                              [Value.int IntKind.i64 x_4.fst, Value.int IntKind.i64 x_4.snd.fst,
                                                Value.int IntKind.i64 x_4.snd.snd.fst,
                                                Value.int IntKind.u8 x_4.snd.snd.snd.fst,
                                                Value.bool x_4.snd.snd.snd.snd.fst,
                                                Value.slice x_4.snd.snd.snd.snd.snd.a x_4.snd.snd.snd.snd.snd.len
                                                  x_4.snd.snd.snd.snd.snd.cap];
                                          ∃ (x_5 : Int),
                                            w1.cell? ((Addr.mk w'.heap.size (0 : Nat) none).add (0 : Nat)) =
                                                some (Value.int IntKind.i64 x_5) ∧
                                              cnd (x_5 == (1 : Int))
                                                (∃ (x_6 : Int),
                                                  w1.cell? ((Addr.mk w'.heap.size (0 : Nat) none).add (1 : Nat)) =
                                                      some (Value.int IntKind.i64 x_6) ∧
                                                    CallT [Ty.one Sh.slice, Ty.one (Sh.int IntKind.i64)] Try.prog (44 : Nat)
                                                      [Value.pointer x.fst, Value.int IntKind.i64 x_6] w1
                                                      fun (x : SV × Int) (w' : World) =>
                                                      ∃ (m : Nat), m < n ∧ I m (IntKind.i64.wrap (x_2 + (1 : Int))) w')
                                                (cnd (x_5 == (2 : Int))
                                                  (CallT [Ty.one (Sh.int IntKind.i64)] Try.prog (40 : Nat)
                                                    [Value.pointer x.fst] w1 fun (x : Int) (w' : World) =>
                                                    ∃ (m : Nat), m < n ∧ I m (IntKind.i64.wrap (x_2 + (1 : Int))) w')
                                                  (cnd (x_5 == (3 : Int))
                                                    (∃ (x_6 : Int),
                                                      w1.cell? ((Addr.mk w'.heap.size (0 : Nat) none).add (2 : Nat)) =
                                                          some (Value.int IntKind.i64 x_6) ∧
                                                        CallT [Ty.one (Sh.int IntKind.i64)] Try.prog (39 : Nat)
                                                          [Value.pointer x.fst, Value.int IntKind.i64 x_6] w1
                                                          fun (x : Int) (w' : World) =>
                                                          ∃ (m : Nat), m < n ∧ I m (IntKind.i64.wrap (x_2 + (1 : Int))) w')
                                                    (cnd (x_5 == (4 : Int))
                                                      (∃ (x_6 : SV),
                                                        w1.cell? ((Addr.mk w'.heap.size (0 : Nat) none).add (5 : Nat)) =
                                                            some (Value.slice x_6.a x_6.len x_6.cap) ∧
                                                          CallT [Ty.one (Sh.int IntKind.i64)] Try.prog (54 : Nat)
                                                            [Value.pointer x.fst, Value.slice x_6.a x_6.len x_6.cap] w1
                                                            fun (x : Int) (w' : World) =>
                                                            ∃ (m : Nat),
                                                              m < n ∧ I m (IntKind.i64.wrap (x_2 + (1 : Int))) w')
                                                      (cnd (x_5 == (5 : Int))
                                                        (CallT [Ty.one (Sh.int IntKind.i64)] Try.prog (45 : Nat)
                                                          [Value.pointer x.fst] w1 fun (x : Int) (w' : World) =>
                                                          ∃ (m : Nat), m < n ∧ I m (IntKind.i64.wrap (x_2 + (1 : Int))) w')
                                                        (cnd (x_5 == (6 : Int))
                                                          (∃ (x_6 : Int),
                                                            w1.cell? ((Addr.mk w'.heap.size (0 : Nat) none).add (1 : Nat)) =
                                                                some (Value.int IntKind.i64 x_6) ∧
                                                              ∃ (x_7 : Int),
                                                                w1.cell?
                                                                      ((Addr.mk w'.heap.size (0 : Nat) none).add
                                                                        (2 : Nat)) =
                                                                    some (Value.int IntKind.i64 x_7) ∧
                                                                  CallT [Ty.one (Sh.int IntKind.i64)] Try.prog (57 : Nat)
                                                                    [Value.pointer x.fst, Value.int IntKind.i64 x_6,
                                                                      Value.int IntKind.i64 x_7]
                                                                    w1 fun (x : Int) (w' : World) =>
                                                                    ∃ (m : Nat),
                                                                      m < n ∧ I m (IntKind.i64.wrap (x_2 + (1 : Int))) w')
                                                          (∃ (S : World → Prop),
                                                            S w1.drew ∧
                                                              ∃ (x_6 : Int),
                                                                (∀ (w : World),
                                                                    S w →
                                                                      w.cell?
                                                                          ((Addr.mk w'.heap.size (0 : Nat) none).add
                                                                            (1 : Nat)) =
                                                                        some (Value.int IntKind.i64 x_6)) ∧
                                                                  ∃ (x_7 : Int),
                                                                    (∀ (w : World),
                                                                        S w →
                                                                          w.cell?
                                                                              ((Addr.mk w'.heap.size (0 : Nat) none).add
                                                                                (3 : Nat)) =
                                                                            some (Value.int IntKind.u8 x_7)) ∧
                                                                      ∃ (x_8 : Bool),
                                                                        (∀ (w : World),
                                                                            S w →
                                                                              w.cell?
                                                                                  ((Addr.mk w'.heap.size (0 : Nat) none).add
                                                                                    (4 : Nat)) =
                                                                                some (Value.bool x_8)) ∧
                                                                          CallT [Ty.one Sh.slice] Try.prog (42 : Nat)
                                                                            [Value.int IntKind.u8 x_7, Value.bool x_8]
                                                                            w1.drew fun (x_9 : SV) (w' : World) =>
                                                                            S w' ∧
                                                                              CallT [Ty.one (Sh.int IntKind.i64)] Try.prog
                                                                                (41 : Nat)
                                                                                [Value.pointer x.fst,
                                                                                  Value.int IntKind.i64 x_6,
                                                                                  Value.slice x_9.a x_9.len x_9.cap]
                                                                                w' fun (x : Int) (w' : World) =>
                                                                                S w' ∧
                                                                                  ∃ (m : Nat),
                                                                                    m < n ∧
                                                                                      I m
                                                                                        (IntKind.i64.wrap (x_2 + (1 : Int)))
                                                                                        w')))))))
  : CallT [Ty.one Sh.ptr] Try.prog 53 [Value.slice s0.a s0.len s0.cap] w R :=
  fnV_sound (h := HT.z.sq
  (HT.z.sq
    (HT.jn [] HT.z
      ((HT.z.sq
            (HT.lp [((5 : Nat), Ty.one (Sh.int IntKind.i64))]
                (HT.jn [] HT.z
                  ((HT.z.sq
                          (HT.z.sq
                            (HT.z.sq
                                (HT.z.cd
                                  (HT.z.sq
                                    (HT.z.cd
                                      (HT.z.sq
                                        (HT.z.cd
                                          (HT.z.sq
                                            (HT.z.cd
                                              (HT.z.sq
                                                (HT.z.cd
                                                  (HT.z.sq
                                                    (HT.z.cd
                                                      (HT.dr
                                                        (DT.take (0 : Nat)
                                                          (DT.take (1 : Nat)
                                                            (DT.take (2 : Nat)
                                                              (DT.take (3 : Nat)
                                                                (DT.take (4 : Nat)
                                                                  (DT.take (5 : Nat)
                                                                    (DT.take (6 : Nat)
                                                                      (DT.alt (7 : Nat) (DT.alt (8 : Nat) DT.fin DT.fin)
                                                                        DT.fin))))))))))))))))))))).bl)).bl.sq
                    HT.z))).bl).sq
        HT.z)))) Try.func53 (by kernel_rfl) (by kernel_rfl) (Eq.mp (by kernel_rfl) h)

end Go.Proofs
