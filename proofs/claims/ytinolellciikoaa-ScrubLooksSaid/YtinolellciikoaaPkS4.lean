/- Texts that the claim leans on, one behind the other: each begins with a sentence of its own. Conditions: those that each names. -/
import Derived.Below
import Derived.ChangeOld
import Derived.Deep.Quiet
import Derived.KernelRfl
import Derived.Laws.Cells
import Derived.Laws.Entries
import Derived.Laws.Sem
import Derived.Laws.Strings
import Derived.Laws.World
import Derived.Lib.SlBytesConst
import Derived.OpenShut
import Derived.Orders
import Derived.OrdersHeld
import Derived.ProofKit
import Derived.ShutString
import Derived.SizedLaws
import Derived.StillTail
import Derived.Tactics
import Derived.Test.YtinolellciikoaaProg
import Derived.Test.YtinolellciikoaaRows
import Derived.Test.YtinolellciikoaaPkS3
/- The conditions of the seat's functions, written by a program (VcTool, genvc.py) off 'vc' reduced; each is tied to 'vc' by the kernel. Conditions: none. -/
set_option linter.unusedVariables false
set_option maxRecDepth 100000
namespace Go.Proofs
open Go Go.Vc
/-- dunnage/dunnagelaw29.ScrubLooks -/
theorem dunnagelaw29_ScrubLooks.vc (s0 : SV) (n1 : Int) (n2 : Int) (w : World) (R : Bool → World → Prop)
  (h : CallT [Ty.one Sh.ptr] Try.prog (80 : Nat) [Value.slice s0.a s0.len s0.cap] w fun (x : Option Addr) (w' : World) =>
      CallT
        [Ty.agg
            [Sh.int IntKind.i64, Sh.int IntKind.i64, Sh.int IntKind.i64, Sh.int IntKind.i64, Sh.int IntKind.i64,
              Sh.int IntKind.i64, Sh.int IntKind.i64, Sh.int IntKind.i64, Sh.int IntKind.i64],
          Ty.one (Sh.int IntKind.i64)]
        Try.prog (64 : Nat) [Value.int IntKind.i64 (256 : Int)] w'
        fun (x_1 : (Int × Int × Int × Int × Int × Int × Int × Int × Int) × Int) (w' : World) =>
        let w1 :=
          w'.alloc
            (Obj.cells
              #[Value.int IntKind.i64 (0 : Int), Value.int IntKind.i64 (0 : Int), Value.int IntKind.i64 (0 : Int),
                Value.int IntKind.i64 (0 : Int), Value.int IntKind.i64 (0 : Int), Value.int IntKind.i64 (0 : Int),
                Value.int IntKind.i64 (0 : Int), Value.int IntKind.i64 (0 : Int), Value.int IntKind.i64 (0 : Int)]
              (83 : Nat));
        canSt w1 (Addr.mk w'.heap.size (0 : Nat) none) (9 : Nat) ∧
          ∃ (R_1 : PUnit → World → Prop),
            (CallT [Ty.one Sh.bool] Try.prog (67 : Nat) []
                (setCells w1 (Addr.mk w'.heap.size (0 : Nat) none) (0 : Nat)
                  [Value.int IntKind.i64 x_1.fst.fst, Value.int IntKind.i64 x_1.fst.snd.fst,
                    Value.int IntKind.i64 x_1.fst.snd.snd.fst, Value.int IntKind.i64 x_1.fst.snd.snd.snd.fst,
                    Value.int IntKind.i64 x_1.fst.snd.snd.snd.snd.fst,
                    Value.int IntKind.i64 x_1.fst.snd.snd.snd.snd.snd.fst,
                    Value.int IntKind.i64 x_1.fst.snd.snd.snd.snd.snd.snd.fst,
                    Value.int IntKind.i64 x_1.fst.snd.snd.snd.snd.snd.snd.snd.fst,
                    Value.int IntKind.i64 x_1.fst.snd.snd.snd.snd.snd.snd.snd.snd])
                fun (x_2 : Bool) (w' : World) => cnd (!x_2) (R false w') (cnd x.isNone (R false w') (R_1 () w'))) ∧
              ∀ (x_2 : PUnit) (j : Nat → Value) (w'_1 : World),
                R_1 x_2 w'_1 →
                  ∃ (I : Nat → SV × SV × Int → World → Prop),
                    (∃ (n : Nat), I n (SV.mk none (0 : Nat) (0 : Nat), SV.mk none (0 : Nat) (0 : Nat), (0 : Int)) w'_1) ∧
                      ∀ (n : Nat) (x_3 : SV × SV × Int) (j : Nat → Value) (w'_2 : World),
                        I n x_3 w'_2 →
                          let e1 := x_3.snd.snd;
                          cnd (decide (e1 < (256 : Int)))
                            (CallT [Ty.one Sh.slice, Ty.one (Sh.int IntKind.i64)] Try.prog (44 : Nat)
                              [Value.pointer x, Value.int IntKind.i64 x_3.snd.snd] w'_2 fun (x : SV × Int) (w'_3 : World) =>
                              CallT [Ty.one Sh.bool] Try.prog (81 : Nat) [Value.slice x.fst.a x.fst.len x.fst.cap] w'_3
                                fun (x : Bool) (w'_4 : World) =>
                                cnd x
                                  (∃ (m : Nat),
                                    m < n ∧ I m (x_3.fst, x_3.snd.fst, IntKind.i64.wrap (x_3.snd.snd + (1 : Int))) w'_4)
                                  (∃ (x : Int × Int × Int × Int × Int × Int × Int × Int × Int),
                                    cellsAt w'_4 (Addr.mk w'.heap.size (0 : Nat) none)
                                        [Value.int IntKind.i64 x.fst, Value.int IntKind.i64 x.snd.fst,
                                          Value.int IntKind.i64 x.snd.snd.fst, Value.int IntKind.i64 x.snd.snd.snd.fst,
                                          Value.int IntKind.i64 x.snd.snd.snd.snd.fst,
                                          Value.int IntKind.i64 x.snd.snd.snd.snd.snd.fst,
                                          Value.int IntKind.i64 x.snd.snd.snd.snd.snd.snd.fst,
                                          Value.int IntKind.i64 x.snd.snd.snd.snd.snd.snd.snd.fst,
                                          Value.int IntKind.i64 x.snd.snd.snd.snd.snd.snd.snd.snd] ∧
                                      CallT [Ty.one (Sh.int IntKind.i64)] Try.prog (82 : Nat)
                                        [Value.agg
                                            #[Value.int IntKind.i64 x.fst, Value.int IntKind.i64 x.snd.fst,
                                              Value.int IntKind.i64 x.snd.snd.fst, Value.int IntKind.i64 x.snd.snd.snd.fst,
                                              Value.int IntKind.i64 x.snd.snd.snd.snd.fst,
                                              Value.int IntKind.i64 x.snd.snd.snd.snd.snd.fst,
                                              Value.int IntKind.i64 x.snd.snd.snd.snd.snd.snd.fst,
                                              Value.int IntKind.i64 x.snd.snd.snd.snd.snd.snd.snd.fst,
                                              Value.int IntKind.i64 x.snd.snd.snd.snd.snd.snd.snd.snd],
                                          Value.int IntKind.i64 x_3.snd.snd]
                                        w'_4 fun (x : Int) (w' : World) =>
                                        let w1 :=
                                          w'.alloc
                                            (Obj.cells #[Value.int IntKind.i64 (0 : Int), Value.int IntKind.i64 (0 : Int)]
                                              (111 : Nat));
                                        canSt w1 (Addr.mk w'.heap.size (0 : Nat) none) (2 : Nat) ∧
                                          let w1 :=
                                            setCells w1 (Addr.mk w'.heap.size (0 : Nat) none) (0 : Nat)
                                              [Value.int IntKind.i64 x_3.snd.snd, Value.int IntKind.i64 x];
                                          ∃ (x : Int × Int),
                                            cellsAt w1 (Addr.mk w'.heap.size (0 : Nat) none)
                                                [Value.int IntKind.i64 x.fst, Value.int IntKind.i64 x.snd] ∧
                                              appV Try.prog [(86 : Nat), (86 : Nat)] (86 : Nat)
                                                [Value.slice x_3.fst.a x_3.fst.len x_3.fst.cap,
                                                  Value.slice (some (Addr.mk w1.heap.size (0 : Nat) none)) (1 : Nat)
                                                    (1 : Nat)]
                                                (w1.alloc
                                                  (Obj.cells #[Value.int IntKind.i64 x.fst, Value.int IntKind.i64 x.snd]
                                                    (111 : Nat)))
                                                fun (s : SV) (w'_5 : World) =>
                                                ∃ (R : Bool → World → Prop),
                                                  cnd (decide (n1 ≥ (0 : Int)))
                                                      (let e1 := x_3.snd.snd;
                                                      cnd (decide (e1 ≥ n1))
                                                        (let e1 := x_3.snd.snd;
                                                        R (decide (IntKind.i64.wrap (e1 - n1) < n2)) w'_5)
                                                        (R false w'_5))
                                                      (R false w'_5) ∧
                                                    ∀ (x : Bool) (j : Nat → Value) (w'_6 : World),
                                                      R x w'_6 →
                                                        cnd x
                                                          (∃ (x : Int × Int),
                                                            cellsAt w'_6 (Addr.mk w'.heap.size (0 : Nat) none)
                                                                [Value.int IntKind.i64 x.fst, Value.int IntKind.i64 x.snd] ∧
                                                              appV Try.prog [(86 : Nat), (86 : Nat)] (86 : Nat)
                                                                [Value.slice x_3.snd.fst.a x_3.snd.fst.len x_3.snd.fst.cap,
                                                                  Value.slice (some (Addr.mk w'_6.heap.size (0 : Nat) none))
                                                                    (1 : Nat) (1 : Nat)]
                                                                (w'_6.alloc
                                                                  (Obj.cells
                                                                    #[Value.int IntKind.i64 x.fst,
                                                                      Value.int IntKind.i64 x.snd]
                                                                    (111 : Nat)))
                                                                fun (s_1 : SV) (w' : World) =>
                                                                ∃ (m : Nat),
                                                                  m < n ∧
                                                                    I m (s, s_1, IntKind.i64.wrap (x_3.snd.snd + (1 : Int)))
                                                                      w')
                                                          (∃ (m : Nat),
                                                            m < n ∧
                                                              I m
                                                                (s, x_3.snd.fst, IntKind.i64.wrap (x_3.snd.snd + (1 : Int)))
                                                                w'_6)))
                            (∃ (x_4 : Int × Int × Int × Int × Int × Int × Int × Int × Int),
                              cellsAt w'_2 (Addr.mk w'.heap.size (0 : Nat) none)
                                  [Value.int IntKind.i64 x_4.fst, Value.int IntKind.i64 x_4.snd.fst,
                                    Value.int IntKind.i64 x_4.snd.snd.fst, Value.int IntKind.i64 x_4.snd.snd.snd.fst,
                                    Value.int IntKind.i64 x_4.snd.snd.snd.snd.fst,
                                    Value.int IntKind.i64 x_4.snd.snd.snd.snd.snd.fst,
                                    Value.int IntKind.i64 x_4.snd.snd.snd.snd.snd.snd.fst,
                                    Value.int IntKind.i64 x_4.snd.snd.snd.snd.snd.snd.snd.fst,
                                    Value.int IntKind.i64 x_4.snd.snd.snd.snd.snd.snd.snd.snd] ∧
                                CallT [Ty.one Sh.slice, Ty.one (Sh.int IntKind.i64)] Try.prog (65 : Nat)
                                  [Value.pointer x,
                                    Value.agg
                                      #[Value.int IntKind.i64 x_4.fst, Value.int IntKind.i64 x_4.snd.fst,
                                        Value.int IntKind.i64 x_4.snd.snd.fst, Value.int IntKind.i64 x_4.snd.snd.snd.fst,
                                        Value.int IntKind.i64 x_4.snd.snd.snd.snd.fst,
                                        Value.int IntKind.i64 x_4.snd.snd.snd.snd.snd.fst,
                                        Value.int IntKind.i64 x_4.snd.snd.snd.snd.snd.snd.fst,
                                        Value.int IntKind.i64 x_4.snd.snd.snd.snd.snd.snd.snd.fst,
                                        Value.int IntKind.i64 x_4.snd.snd.snd.snd.snd.snd.snd.snd]]
                                  w'_2 fun (x_5 : SV × Int) (w'_3 : World) =>
                                  ∃ (x_6 : Int × Int × Int × Int × Int × Int × Int × Int × Int),
                                    cellsAt w'_3 (Addr.mk w'.heap.size (0 : Nat) none)
                                        [Value.int IntKind.i64 x_6.fst, Value.int IntKind.i64 x_6.snd.fst,
                                          Value.int IntKind.i64 x_6.snd.snd.fst, Value.int IntKind.i64 x_6.snd.snd.snd.fst,
                                          Value.int IntKind.i64 x_6.snd.snd.snd.snd.fst,
                                          Value.int IntKind.i64 x_6.snd.snd.snd.snd.snd.fst,
                                          Value.int IntKind.i64 x_6.snd.snd.snd.snd.snd.snd.fst,
                                          Value.int IntKind.i64 x_6.snd.snd.snd.snd.snd.snd.snd.fst,
                                          Value.int IntKind.i64 x_6.snd.snd.snd.snd.snd.snd.snd.snd] ∧
                                      CallT [Ty.one Sh.slice, Ty.one (Sh.int IntKind.i64)] Try.prog (66 : Nat)
                                        [Value.pointer x,
                                          Value.agg
                                            #[Value.int IntKind.i64 x_6.fst, Value.int IntKind.i64 x_6.snd.fst,
                                              Value.int IntKind.i64 x_6.snd.snd.fst,
                                              Value.int IntKind.i64 x_6.snd.snd.snd.fst,
                                              Value.int IntKind.i64 x_6.snd.snd.snd.snd.fst,
                                              Value.int IntKind.i64 x_6.snd.snd.snd.snd.snd.fst,
                                              Value.int IntKind.i64 x_6.snd.snd.snd.snd.snd.snd.fst,
                                              Value.int IntKind.i64 x_6.snd.snd.snd.snd.snd.snd.snd.fst,
                                              Value.int IntKind.i64 x_6.snd.snd.snd.snd.snd.snd.snd.snd],
                                          Value.int IntKind.i64 n1, Value.int IntKind.i64 n2]
                                        w'_3 fun (x : SV × Int) (w' : World) =>
                                        ∃ (R_2 : PUnit → World → Prop),
                                          cnd (x_5.snd != (0 : Int)) (R false w')
                                              (CallT [Ty.one Sh.bool] Try.prog (83 : Nat)
                                                [Value.slice x_5.fst.a x_5.fst.len x_5.fst.cap,
                                                  Value.slice x_3.fst.a x_3.fst.len x_3.fst.cap]
                                                w' fun (x : Bool) (w' : World) => cnd (!x) (R false w') (R_2 () w')) ∧
                                            ∀ (x_7 : PUnit) (j : Nat → Value) (w' : World),
                                              R_2 x_7 w' →
                                                ∃ (R_3 : PUnit → World → Prop),
                                                  (∃ (R_4 : Bool → World → Prop),
                                                      cnd (decide (n1 < (0 : Int))) (R_4 true w')
                                                          (cnd (decide (n2 < (0 : Int))) (R_4 true w')
                                                            (cnd (decide (n1 > (256 : Int))) (R_4 true w')
                                                              (R_4 (decide (n2 > IntKind.i64.wrap ((256 : Int) - n1)))
                                                                w'))) ∧
                                                        ∀ (x_8 : Bool) (j : Nat → Value) (w' : World),
                                                          R_4 x_8 w' →
                                                            cnd x_8
                                                              (cnd (x.snd == (1 : Int))
                                                                (R ((↑x.fst.len : Int) == (0 : Int)) w') (R false w'))
                                                              (R_3 () w')) ∧
                                                    ∀ (x_8 : PUnit) (j : Nat → Value) (w' : World),
                                                      R_3 x_8 w' →
                                                        cnd (x.snd == (0 : Int))
                                                          (CallT [Ty.one Sh.bool] Try.prog (83 : Nat)
                                                            [Value.slice x.fst.a x.fst.len x.fst.cap,
                                                              Value.slice x_3.snd.fst.a x_3.snd.fst.len x_3.snd.fst.cap]
                                                            w' fun (x : Bool) (w' : World) => R x w')
                                                          (R false w')))
  : CallT [Ty.one Sh.bool] Try.prog 19 [Value.slice s0.a s0.len s0.cap, Value.int IntKind.i64 n1, Value.int IntKind.i64 n2] w R :=
  fnV_sound (h := HT.z.sq
  (HT.z.sq
    (HT.z.sq
      (HT.jn [] HT.z
        (HT.z.sq
          ((HT.z.sq
                (HT.lp
                    [((10 : Nat), Ty.one Sh.slice), ((11 : Nat), Ty.one Sh.slice),
                      ((12 : Nat), Ty.one (Sh.int IntKind.i64))]
                    (HT.z.sq
                      ((HT.z.sq (HT.z.sq (HT.z.sq (HT.z.sq (HT.jn [((66 : Nat), Ty.one Sh.bool)] HT.z HT.z))))).bl.sq
                        HT.z))).bl).sq
            (HT.z.sq (HT.z.sq (HT.jn [] HT.z (HT.jn [] (HT.jn [((108 : Nat), Ty.one Sh.bool)] HT.z HT.z) HT.z)))))))))) Try.func19 (by kernel_rfl) (by kernel_rfl) (Eq.mp (by kernel_rfl) h)

end Go.Proofs
/- dunnagelaw29.ran: a device behind items. Conditions: those of each contract. -/
namespace Go.Proofs
open Go Go.Vc Go.Crc
structure ItV where
  at_ : Int
  bit : Int
  turn : Bool
  kind : UInt8
  s : SV
  data : List UInt8
@[reducible] def encIt (x : ItV) : List Value := [.int .i64 x.at_, .int .i64 x.bit, .bool x.turn, .int .u8 x.kind.toNat, .slice x.s.a x.s.len x.s.cap]
/-- A slice that reads as these items. -/
structure RdIts (w : World) (s : SV) (l : List ItV) : Prop where
  rd : RdS encIt 5 w s l
  ok : ∀ x ∈ l, RdB w x.s x.data
theorem RdIts.ext {w w' : World} {s : SV} {l : List ItV} (h : RdIts w s l) (e : Ext w w') : RdIts w' s l := ⟨h.rd.ext e, fun x hx => (h.ok x hx).ext e⟩
def m256 (x : Int) : Nat := ((IntKind.u64.wrap x) % 256).toNat
def m4096 (x : Int) : Nat := ((IntKind.u64.wrap x) % 4096).toNat
theorem m256_eq (x : Int) : IntKind.i64.wrap ((IntKind.u64.wrap x).tmod 256) = (m256 x : Int) ∧ m256 x < 256 := by
  have h2 : 0 ≤ IntKind.u64.wrap x := by rw [u64_mod]; omega
  rw [Int.tmod_eq_emod_of_nonneg h2, i64_id (by omega) (by omega), m256]
  omega
theorem m4096_eq (x : Int) : IntKind.i64.wrap ((IntKind.u64.wrap x).tmod 4096) = (m4096 x : Int) ∧ m4096 x < 4096 := by
  have h2 : 0 ≤ IntKind.u64.wrap x := by rw [u64_mod]; omega
  rw [Int.tmod_eq_emod_of_nonneg h2, i64_id (by omega) (by omega), m4096]
  omega
def putI (D : DK) (i : Nat) (x : ItV) : DK := if (sealR x.kind i x.data).2 = 0 then (writeD D (m256 x.at_ : Int) (sealR x.kind i x.data).1).1 else D
def stepI (D : DK) (i : Nat) (x : ItV) : DK :=
  if x.turn = true then (flipD D (m256 x.at_ : Int) (m4096 x.bit : Int)).1
  else if x.bit.tmod 3 = 0 then (flushD (putI D i x)).1 else putI D i x
def ranI (l : List ItV) : Nat → DK
  | 0 => newD 256
  | i + 1 => match l[i]? with | some x => stepI (ranI l i) i x | none => ranI l i
/-- What is known of such a device. -/
structure OkD (D : DK) (i : Nat) : Prop where
  n : D.kept.length = 256
  w : D.waits.length ≤ i
  f : D.flips ≤ i
  down : D.down = false
  arm : D.armed = 0
theorem OkD.more {D : DK} {i j : Nat} (h : OkD D i) (hij : i ≤ j) : OkD D j := ⟨h.n, by have := h.w; omega, by have := h.f; omega, h.down, h.arm⟩
theorem OkD.write {D : DK} {i : Nat} (h : OkD D i) (a : Nat) (b : List UInt8) (ha : a < 256) : (writeD D (a : Int) b).1 = (if b.length = 512 then { D with waits := D.waits ++ [(a, secOf b)] } else D) ∧ OkD (writeD D (a : Int) b).1 (i + 1) := by
  have e : (writeD D (a : Int) b).1 = (if b.length = 512 then { D with waits := D.waits ++ [(a, secOf b)] } else D) := by
    rw [writeD, if_neg (by rw [h.down]; simp)]
    by_cases hb : b.length = 512
    · rw [if_neg (by rw [h.n]; omega), if_pos hb, cntD, hitD]
      simp [h.arm]
    · rw [if_pos (.inr hb), if_neg hb]
  refine ⟨e, ?_⟩
  rw [e]
  split
  · exact ⟨h.n, by have := h.w; simp; omega, by have := h.f; simp only; omega, h.down, h.arm⟩
  · exact h.more (by omega)
theorem OkD.flush {D : DK} {i : Nat} (h : OkD D i) : (flushD D).1 = { D with kept := applyW D.kept D.waits, waits := [] } ∧ OkD (flushD D).1 i := by
  have e : (flushD D).1 = { D with kept := applyW D.kept D.waits, waits := [] } := by
    rw [flushD, if_neg (by rw [h.down]; simp)]
    have : cntD D = (D, 0) := by rw [cntD, hitD]; simp [h.arm]
    rw [this]; simp
  refine ⟨e, ?_⟩
  rw [e]
  exact ⟨by rw [← h.n]; exact applyW_len _ _, by simp, h.f, h.down, h.arm⟩
theorem OkD.flip {D : DK} {i : Nat} (h : OkD D i) (a b : Nat) (ha : a < 256) (hb : b < 4096) : flipD D (a : Int) (b : Int) = ({ D with kept := D.kept.set a (flipS (D.kept.getD a zeroSec) b), flips := D.flips + 1 }, 0) ∧ OkD (flipD D (a : Int) (b : Int)).1 (i + 1) := by
  have e : flipD D (a : Int) (b : Int) = ({ D with kept := D.kept.set a (flipS (D.kept.getD a zeroSec) b), flips := D.flips + 1 }, 0) := by
    rw [flipD, if_neg (by rw [h.n]; omega)]
    rfl
  refine ⟨e, ?_⟩
  rw [e]
  exact ⟨by simp only [List.length_set]; exact h.n, by have := h.w; simp only; omega, by have := h.f; simp only; omega, h.down, h.arm⟩
theorem OkD.put {D : DK} {i : Nat} (h : OkD D i) (x : ItV) : OkD (putI D i x) (i + 1) := by
  unfold putI
  split
  · exact (h.write _ _ (m256_eq x.at_).2).2
  · exact h.more (by omega)
theorem OkD.step {D : DK} {i : Nat} (h : OkD D i) (x : ItV) : OkD (stepI D i x) (i + 1) := by
  unfold stepI
  split
  · exact (h.flip _ _ (m256_eq x.at_).2 (m4096_eq x.bit).2).2
  split
  · exact (h.put x).flush.2
  · exact h.put x
theorem ranI_ok (l : List ItV) : ∀ i, OkD (ranI l i) i
  | 0 => by
    obtain ⟨D0, hD0, h1, h2, h3, h4, h5⟩ := new256
    rw [ranI, hD0]
    exact ⟨h2, by rw [h3]; simp, by omega, h1, h5⟩
  | i + 1 => by
    rw [ranI]
    split
    · exact (ranI_ok l i).step _
    · exact (ranI_ok l i).more (by omega)
@[reducible] def zIt : List Value := [.int .i64 0, .int .i64 0, .bool false, .int .u8 0, .slice none 0 0]
set_option maxRecDepth 100000 in
set_option maxHeartbeats 1000000 in
theorem dunnagelaw29_ran.spec {w : World} {t : SV} {l : List ItV} (h : RdIts w t l) :
    CallT [.one .ptr] Try.prog F.dunnagelaw29_ran [.slice t.a t.len t.cap] w fun r w' => Ext w w' ∧ ∃ d k s, r = some ⟨d, 0, none⟩ ∧ DkAt w' d k s (ranI l (min l.length 60)) ∧ ∀ b, fp d k s b → w.heap.size ≤ b := by
  refine dunnagelaw29_ran.vc t w _ ?_
  have htl := h.rd.len
  refine CallT.mono (disk_New256.spec w) ?_
  rintro ⟨dp, de⟩ w2 ⟨e2, d, k0, s0, hdp, hd, hfar⟩
  dsimp only at hdp
  subst hdp
  refine ⟨fun n x v => ∃ (i : Nat) (k s : SV), x = (i : Int) ∧ i ≤ min l.length 60 ∧ n = min l.length 60 - i ∧ DkAt v d k s (ranI l i) ∧ (∀ b, fp d k s b → w.heap.size ≤ b) ∧ Ext w v, ⟨_, 0, k0, s0, rfl, by omega, rfl, hd, hfar, e2⟩, ?_⟩
  rintro n _ _ v1 ⟨i, k, s, rfl, hi, rfl, hD, hf, g1⟩
  have done : ¬ (i < l.length ∧ i < 60) → Ext w v1 ∧ ∃ d' k s, some (⟨d, 0, none⟩ : Addr) = some ⟨d', 0, none⟩ ∧ DkAt v1 d' k s (ranI l (min l.length 60)) ∧ ∀ b, fp d' k s b → w.heap.size ≤ b := fun hn => by
    have : i = min l.length 60 := by omega
    rw [← this]
    exact ⟨g1, d, k, s, rfl, hD, hf⟩
  refine ⟨fun _ v => v1 = v ∧ i < l.length ∧ i < 60, cnd_pos rfl (cnd_dec (fun h1 => cnd_dec (fun h2 => ⟨rfl, by omega, by omega⟩) fun h2 => done (by omega)) fun h1 => done (by omega)), ?_⟩
  rintro _ _ _ ⟨rfl, hil, hi60⟩
  have hx := List.getElem?_eq_getElem hil
  have hok := h.ok _ (List.getElem_mem hil)
  have hr : ranI l (i + 1) = stepI (ranI l i) i l[i] := by rw [ranI, hx]
  have hO := ranI_ok l i
  generalize hxi : l[i] = x at *
  have hit : Int.toNat (i : Int) = i := Int.toNat_natCast i
  have hw1 : IntKind.i64.wrap ((i : Int) + 1) = ((i + 1 : Nat) : Int) := by rw [i64_id (by omega) (by omega)]; simp
  refine ⟨by omega, by omega, (h.ext g1).rd.get hil fun A hA => ⟨(x.at_, x.bit, x.turn, (x.kind.toNat : Int), x.s), by rw [hit]; exact (h.ext g1).rd.at_ hx hA, ?_⟩⟩
  dsimp only
  generalize ha2 : v1.alloc _ = v2
  generalize hd3 : setCells v2 _ 0 _ = v3
  obtain ⟨c3, b3, e3, z3⟩ := bk_mk (T := T.dunnagelaw29_Item) (z := zIt) (vs := encIt x) ha2 hd3 rfl
  have g3 := g1.tr e3
  have hD3 := hD.ext e3
  have hsz := g1.size
  rw [hw1]
  have next : ∀ {v v' : World} {s' : SV} {D D' : DK}, Ext w v → DkAt v d k s D → DkTo v v' d k s s' D' → D' = ranI l (i + 1) → ∃ m, m < min l.length 60 - i ∧ ∃ (j : Nat) (k s : SV), ((i + 1 : Nat) : Int) = (j : Int) ∧ j ≤ min l.length 60 ∧ m = min l.length 60 - j ∧ DkAt v' d k s (ranI l j) ∧ (∀ b, fp d k s b → w.heap.size ≤ b) ∧ Ext w v' := fun {v v' s' D D'} ev hv t he => by
    subst he
    have hz := ev.size
    refine ⟨min l.length 60 - (i + 1), by omega, i + 1, k, s', rfl, by omega, rfl, t.at_, fun b hb => ?_, ev.trans t.u fun y hy hb => by have := hf y hb; omega⟩
    rcases hb with rfl | hb | hb
    · exact hf _ (.inl rfl)
    · exact hf _ (.inr (.inl hb))
    · rcases t.n b hb with g | g
      · exact hf _ (.inr (.inr g))
      · omega
  refine ⟨c3, x.turn, b3.get 2 rfl, cnd_intro (fun ht => ?_) (fun ht => ?_)⟩
  · obtain ⟨p1, p2⟩ := m256_eq x.at_
    obtain ⟨p3, p4⟩ := m4096_eq x.bit
    refine ⟨x.at_, b3.get 0 rfl, x.bit, b3.get 1 rfl, ?_⟩
    rw [p1, p3]
    refine CallT.mono (disk_Flip.spec hD3 (by have := hO.f; omega) (m256 x.at_ : Int) (m4096 x.bit : Int)) ?_
    rintro _ v4 ⟨_, t4⟩
    exact next g3 hD3 t4 (by rw [hr, stepI, if_pos ht])
  · have hw64 : IntKind.u64.wrap (i : Int) = ((i : Nat) : Int) := by rw [u64_mod]; omega
    rw [hw64]
    refine ⟨(x.kind.toNat : Int), b3.get 3 rfl, x.s, b3.get 4 rfl, CallT.mono (ref03_Seal.spec x.kind (by omega) (hok.ext g3)) ?_⟩
    rintro ⟨o, oe⟩ v4 ⟨ho, hoe, e4⟩
    dsimp only at ho hoe ⊢
    have g4 := g3.tr e4
    have hD4 := hD3.ext e4
    have b4 := b3.ext e4
    have hsz4 := g4.size
    have hb3lt := b3.lt
    have hwl : (ranI l i).waits.length ≤ 60 := by have := hO.w; omega
    refine ⟨fun _ v => ∃ s', DkTo v4 v d k s s' (putI (ranI l i) i x) ∧ BK v v1.heap.size T.dunnagelaw29_Item (encIt x), cnd_beq (fun h0 => ?_) (fun h0 => ?_), ?_⟩
    · obtain ⟨p1, p2⟩ := m256_eq x.at_
      refine ⟨x.at_, b4.get 0 rfl, ?_⟩
      rw [p1]
      refine CallT.mono (disk_Write.spec hD4 (by omega) ho.rd fun c hc h1 h2 => ?_) ?_
      · have := (ho.new c h1).1
        have := hD3.lt (.inr (.inr h2))
        omega
      rintro _ v5 ⟨_, s5, t5⟩
      refine ⟨s5, by rw [putI, if_pos (by rw [← hoe]; exact h0)]; exact t5, b4.upd t5.u fun g => ?_⟩
      have := hD.lt (show fp d k s v1.heap.size from g)
      omega
    · exact ⟨s, by rw [putI, if_neg (by rw [← hoe]; exact h0)]; exact hD4.to, b4⟩
    rintro _ _ v5 ⟨s5, t5, b5⟩
    refine ⟨x.bit, b5.get 1 rfl, cnd_beq (fun h0 => ?_) (fun h0 => ?_)⟩
    · refine CallT.mono (disk_Flush.spec t5.at_ (by have := (hO.put x).w; omega)) ?_
      rintro _ v6 ⟨_, s6, t6⟩
      refine next g4 hD4 (s' := s6) ⟨t6.at_, t5.u.trans t6.u fun y hy hb => ?_, fun b hb => ?_⟩ (by rw [hr, stepI, if_neg (by rw [ht]; simp), if_pos h0])
      · rcases hb with rfl | hb | hb
        · exact .inl rfl
        · exact .inr (.inl hb)
        · rcases t5.n y hb with g | g
          · exact .inr (.inr g)
          · omega
      · rcases t6.n b hb with g | g
        · exact t5.n b g
        · exact .inr (by have := t5.u.size; omega)
    · exact next g4 hD4 t5 (by rw [hr, stepI, if_neg (by rw [ht]; simp), if_neg h0])
end Go.Proofs
/- Slices of texts: what reads as so many texts. Conditions: those that each lemma names. -/
namespace Go.Proofs
open Go Go.Vc
@[reducible] def encSV (s : SV) : List Value := [.slice s.a s.len s.cap]
@[reducible] def encTx (p : SV × List UInt8) : List Value := encSV p.1
/-- A slice that reads as these texts. -/
def RdL (w : World) (s : SV) (l : List (List UInt8)) : Prop := ∃ ps : List (SV × List UInt8), RdS encTx 1 w s ps ∧ ps.map Prod.snd = l ∧ ∀ p ∈ ps, RdB w p.1 p.2
theorem RdL.len {w : World} {s : SV} {l : List (List UInt8)} (h : RdL w s l) : s.len = l.length := by
  obtain ⟨ps, h1, rfl, _⟩ := h
  rw [h1.len, List.length_map]
theorem RdL.ext {w w' : World} {s : SV} {l : List (List UInt8)} (h : RdL w s l) (hu : Ext w w') : RdL w' s l := by
  obtain ⟨ps, h1, h2, h3⟩ := h
  exact ⟨ps, h1.ext hu, h2, fun p hp => (h3 p hp).ext hu⟩
/-- An element of it. -/
theorem RdL.at_ {w : World} {s : SV} {l : List (List UInt8)} (h : RdL w s l) {i : Nat} {x : List UInt8} (hx : l[i]? = some x) {K : Addr → Prop}
    (hk : ∀ A t, s.a = some A → w.cell? (A.add (i * 1)) = some (.slice t.a t.len t.cap) → RdB w t x → K A) : onP s.a K := by
  obtain ⟨ps, h1, rfl, h3⟩ := h
  rw [List.getElem?_map] at hx
  cases hp : ps[i]? with
  | none => rw [hp] at hx; simp at hx
  | some p =>
    rw [hp] at hx
    obtain rfl := Option.some.inj hx
    refine h1.get (i := i) (List.getElem?_eq_some_iff.1 hp).1 fun A hA => hk A p.1 hA ?_ (h3 p (List.mem_of_getElem? hp))
    exact h1.fld hp hA (k := 0) rfl
theorem B8_flat (l : List UInt8) : (l.flatMap fun b => [Value.int .u8 b.toNat]) = B8 l := by
  induction l with
  | nil => rfl
  | cons x r ih => rw [List.flatMap_cons, ih]; rfl
theorem bytes_rel {w : World} {bd : TypeId → Nat → Prop} {bs : Nat → Prop} {e : TypeId} {a : Option Addr} {len cap : Nat} (h : DS.rel w bd bs (.slice e 1 (.int .u8)) [.slice a len cap]) :
    ∃ l : List UInt8, RdB w ⟨a, len, cap⟩ l ∧ len ≤ cap ∧ (cap = 0 ∨ bd e cap) := by
  have key : ∀ es : List Value, es.length = 1 → DS.rel w bd bs (.int .u8) es → ∃ x : UInt8, [Value.int .u8 x.toNat] = es ∧ True := by
    intro es hl hr
    obtain ⟨n, rfl, hw⟩ := hr
    have hb : IntKind.u8.min ≤ n ∧ n ≤ IntKind.u8.max := by simpa [Lit.wf] using hw
    have h0 : 0 ≤ n := hb.1
    have h1 : n ≤ 255 := hb.2
    refine ⟨UInt8.ofNat n.toNat, ?_, trivial⟩
    have : (UInt8.ofNat n.toNat).toNat = n.toNat := by simp; omega
    rw [this]; congr 2; omega
  obtain ⟨l, h1, h2, h3, _⟩ := DS.flat (enc := fun b : UInt8 => [Value.int .u8 b.toNat]) (fun _ => True) h (fun _ => rfl) (by decide) key
  refine ⟨l, ?_, h2, h3⟩
  have := h1.rd
  rwa [B8_flat] at this
end Go.Proofs
/- dunnagelaw29.ScrubLooks: which sectors are not as they may be, of all, and of some. Conditions: what came in is of the sizes that the form allows. -/
namespace Go.Proofs
open Go Go.Vc Go.Crc
theorem dunnagehelp_Plain_api_Bad.spec {w : World} {a b : SV} {xs ys : List Bd} (ha : RdS encBad 2 w a xs) (hb : RdS encBad 2 w b ys) (hl : xs.length < 2 ^ 62) :
    CallT [.one .bool] Try.prog F.dunnagehelp_Plain_api_Bad [.slice a.a a.len a.cap, .slice b.a b.len b.cap] w fun r w' => r = decide (xs = ys) ∧ Ext w w' := by
  refine dunnagehelp_Plain_api_Bad.vc a b w _ (dunnagehelp_Same_api_Bad.vc a b _ w _ ?_)
  have hal := ha.len
  have hbl := hb.len
  have no : ∀ {w' : World}, Ext w w' → xs ≠ ys → false = decide (xs = ys) ∧ Ext w w' := fun e h => ⟨by rw [eq_comm, decide_eq_false_iff_not]; exact h, e⟩
  refine cnd_bne (fun hne => no (Upd.refl _ _) fun h => hne (by rw [hal, hbl, h])) (fun he => ?_)
  have hxy : xs.length = ys.length := by omega
  refine ⟨fun n i w' => ∃ k : Nat, i = k ∧ k ≤ xs.length ∧ n = xs.length - k ∧ Ext w w' ∧ xs.take k = ys.take k, ⟨_, 0, rfl, by omega, rfl, Upd.refl _ _, rfl⟩, ?_⟩
  rintro n i j w' ⟨k, rfl, hk, rfl, hu, hq⟩
  refine cnd_dec (fun hlt => ?_) (fun hge => ?_)
  · have hkx : k < xs.length := by omega
    have hky : k < ys.length := by omega
    have e : Ext w w'.drew := hu.drew
    generalize w'.drew = w2 at *
    have hit : Int.toNat (k : Int) = k := Int.toNat_natCast k
    refine ⟨by omega, by omega, (ha.ext e).get hkx fun A hA => ⟨xs[k], by rw [hit]; exact (ha.ext e).at_ (List.getElem?_eq_getElem hkx) hA, by omega, by omega, (hb.ext e).get hky fun B hB => ⟨ys[k], by rw [hit]; exact (hb.ext e).at_ (List.getElem?_eq_getElem hky) hB, ?_⟩⟩⟩
    refine dunnagehelp_Plain_api_Bad_1.vc xs[k] ys[k] w2 _ ?_
    generalize hc : w2.alloc _ = w3
    obtain ⟨b3, e3, z3⟩ := bk_new (T := T.api_Bad) (vs := encBad xs[k]) hc
    dsimp only
    generalize hc2 : w3.alloc _ = w4
    obtain ⟨b4, e4, z4⟩ := bk_new (T := T.api_Bad) (vs := encBad ys[k]) hc2
    have eAll := (e.tr e3).tr e4
    refine ⟨xs[k], (b3.ext e4).all, ys[k], b4.all, cnd_not (fun hf => no eAll fun h => ?_) (fun ht => ?_)⟩
    · have h2 : xs[k] = ys[k] := by simp only [h]
      rw [h2] at hf
      simp at hf
    · have hxe : xs[k] = ys[k] := by
        simp only [Bool.and_eq_true, beq_iff_eq, and_true] at ht
        exact Prod.ext ht.1 ht.2
      refine ⟨_, ?_, k + 1, by rw [i64_id] <;> omega, by omega, rfl, eAll, ?_⟩
      · omega
      · rw [List.take_add_one, List.take_add_one, hq, List.getElem?_eq_getElem hkx, List.getElem?_eq_getElem hky, hxe]
  · have hk2 : k = xs.length := by omega
    subst hk2
    rw [List.take_of_length_le (Nat.le_refl _), List.take_of_length_le (by omega)] at hq
    exact ⟨by simp [hq], hu⟩
def inPart (f n : Int) (j : Nat) : Bool := decide (0 ≤ f ∧ f ≤ (j : Int) ∧ (j : Int) - f < n)
/-- Those of a part. -/
def someD (D : DK) (f n : Int) (i : Nat) : List Bd := ((List.range i).filter fun j => !goodB (showD D j).1 && inPart f n j).map badAt
theorem someD_succ (D : DK) (f n : Int) (i : Nat) : someD D f n (i + 1) = someD D f n i ++ (if goodB (showD D i).1 = false ∧ inPart f n i = true then [badAt i] else []) := by
  unfold someD
  rw [List.range_succ, List.filter_append, List.map_append]
  congr 1
  cases h1 : goodB (showD D i).1 <;> cases h2 : inPart f n i <;> simp [h1, h2]
theorem someD_len (D : DK) (f n : Int) (i : Nat) : (someD D f n i).length ≤ i := by
  unfold someD
  rw [List.length_map]
  exact Nat.le_trans (List.length_filter_le _ _) (by simp)
theorem someD_part (D : DK) {f n : Nat} (h : f + n ≤ 256) : someD D (f : Int) (n : Int) 256 = badsD D f n := by
  have hr : List.range 256 = (List.range f ++ (List.range n).map (f + ·)) ++ (List.range (256 - (f + n))).map ((f + n) + ·) := by
    rw [← List.range_add, ← List.range_add]
    congr 1; omega
  unfold someD badsD
  rw [hr, List.filter_append, List.filter_append, List.map_append, List.map_append]
  have h1 : (List.range f).filter (fun j => !goodB (showD D j).1 && inPart (f : Int) (n : Int) j) = [] := by
    rw [List.filter_eq_nil_iff]
    intro j hj
    have := List.mem_range.1 hj
    have h2 : inPart (f : Int) (n : Int) j = false := decide_eq_false (by omega)
    rw [h2, Bool.and_false]; decide
  have h3 : ((List.range (256 - (f + n))).map ((f + n) + ·)).filter (fun j => !goodB (showD D j).1 && inPart (f : Int) (n : Int) j) = [] := by
    rw [List.filter_eq_nil_iff]
    intro j hj
    obtain ⟨x, _, rfl⟩ := List.mem_map.1 hj
    have h2 : inPart (f : Int) (n : Int) ((f + n) + x) = false := decide_eq_false (by omega)
    rw [h2, Bool.and_false]; decide
  have h4 : ((List.range n).filter ((fun j => !goodB (showD D j).1 && inPart (f : Int) (n : Int) j) ∘ (f + ·))) = (List.range n).filter fun i => !goodB (showD D (f + i)).1 := by
    apply List.filter_congr
    intro i hi
    have := List.mem_range.1 hi
    have h2 : inPart (f : Int) (n : Int) (f + i) = true := decide_eq_true (by omega)
    simp only [Function.comp, h2, Bool.and_true]
  rw [h1, h3, List.filter_map, h4, List.map_map]
  simp only [List.map_nil, List.nil_append, List.append_nil]
  rfl
/-- One more is put behind. -/
theorem app_bad {w0 w : World} {s : SV} {l : List Bd} {x : Bd} {K : SV → World → Prop} {ty : TypeId} (he : Ext w0 w) (hs : OwnS encBad 2 T.api_Bad w w0.heap.size s l) (hl : l.length ≤ 1000000)
    (hk : ∀ s' w', OwnS encBad 2 T.api_Bad w' w0.heap.size s' (l ++ [x]) → Ext w0 w' → Upd s.blk w w' → (∀ c, s'.blk c → s.blk c ∨ w.heap.size ≤ c) → K s' w') :
    appV Try.prog [T.sl_api_Bad, T.sl_api_Bad] ty [.slice s.a s.len s.cap, .slice (some ⟨w.heap.size, 0, none⟩) 1 1] (w.alloc (.cells (encBad x).toArray T.api_Bad)) K := by
  have hs' := hs.ext (ext_alloc w (.cells (encBad x).toArray T.api_Bad))
  have hsrc := (Own.new w T.api_Bad 2 1 (encBad x) rfl).rd.src (P := Try.prog) (by intro v hv; simp [encBad] at hv; rcases hv with rfl | rfl <;> rfl)
  have hz : (w.alloc (.cells (encBad x).toArray T.api_Bad)).heap.size = w.heap.size + 1 := by simp
  have hel := (he.alloc (.cells (encBad x).toArray T.api_Bad))
  have hel2 := ext_alloc w (.cells (encBad x).toArray T.api_Bad)
  have hsz := he.size
  have hlen := hs.len
  generalize w.alloc (.cells (encBad x).toArray T.api_Bad) = w1 at *
  refine appV_ownL appBad hs'.own hsrc (by omega) (fun hlt => Nat.le_trans (Nat.mul_le_mul_right _ (nextcap_le hlt)) (by show (2 * (s.len + 1) + 192) * 16 ≤ 281474976710656; omega)) ?_
  intro s' w2 ho hl2 u2 _ hloc
  refine hk s' w2 ⟨by rw [List.flatMap_append]; simpa using ho, encBad_len, by decide⟩ (hel.own hs'.own (Nat.le_refl _) u2) ((hel2.to s.blk).tr u2) ?_
  rintro c ⟨A', hA', rfl⟩
  rcases hloc with hl | hl
  · exact .inl ⟨A', by rw [← hl]; exact hA', rfl⟩
  · rw [hl] at hA'; obtain rfl := Option.some.inj hA'; exact .inr (by show w.heap.size ≤ w1.heap.size; omega)
set_option maxRecDepth 100000 in
set_option maxHeartbeats 2000000 in
theorem dunnagelaw29_ScrubLooks.spec {w : World} {t : SV} {l : List ItV} {f n : Int} (h : RdIts w t l) (hf : -9223372036854775808 ≤ f ∧ f ≤ 9223372036854775807) (hn : -9223372036854775808 ≤ n ∧ n ≤ 9223372036854775807) :
    CallT [.one .bool] Try.prog F.dunnagelaw29_ScrubLooks [.slice t.a t.len t.cap, .int .i64 f, .int .i64 n] w fun r w' => r = true ∧ Ext w w' := by
  refine dunnagelaw29_ScrubLooks.vc t f n w _ ?_
  refine CallT.mono (dunnagelaw29_ran.spec h) ?_
  rintro _ w2 ⟨e2, d, k, s, rfl, hD, hfar⟩
  have hO := ranI_ok l (min l.length 60)
  generalize ranI l (min l.length 60) = D at *
  have hw := hO.w
  have hdn := hO.down
  have h256 := hO.n
  have hwl : D.waits.length ≤ 2000000 := by omega
  refine CallT.mono (dunnageref05_Plan.spec 256 w2) ?_
  rintro ⟨y, ey⟩ w3 ⟨hy, e3⟩
  rw [plan256] at hy
  obtain ⟨rfl, rfl⟩ := Prod.mk.inj hy
  dsimp only
  generalize ha4 : w3.alloc _ = w4
  generalize hd4 : setCells w4 _ 0 _ = w5
  obtain ⟨c5, b5, e5, z5⟩ := bk_mk (T := T.api_Layout) (z := lay0.vs) (vs := LY.vs) ha4 hd4 rfl
  have hD5 := (hD.ext e3).ext e5
  have e05 := (e2.tr e3).tr e5
  refine ⟨c5, fun _ v => Ext w5 v, CallT.mono (awake29.spec w5) ?_, ?_⟩
  · rintro _ w6 ⟨rfl, e6⟩
    exact cnd_neg rfl (cnd_neg rfl e6)
  rintro _ _ w6 e6
  have hD6 := hD5.ext e6
  have b6 := b5.ext e6
  refine ⟨fun m x v => ∃ (i : Nat) (p q : SV), x = (p, q, (i : Int)) ∧ i ≤ 256 ∧ m = 256 - i ∧ OwnS encBad 2 T.api_Bad v w6.heap.size p (badsD D 0 i) ∧ OwnS encBad 2 T.api_Bad v w6.heap.size q (someD D f n i) ∧ (∀ b, p.blk b → ¬ q.blk b) ∧ Ext w6 v,
    ⟨_, 0, ⟨none, 0, 0⟩, ⟨none, 0, 0⟩, rfl, by omega, rfl, OwnS.nil encBad_len (by decide) _ _ _, OwnS.nil encBad_len (by decide) _ _ _, (by rintro b ⟨A, hA, _⟩; simp at hA), Upd.refl _ _⟩, ?_⟩
  rintro m _ _ v1 ⟨i, p, q, rfl, hi, rfl, hp, hq, hpq, g1⟩
  dsimp only
  have hpl := badsD_len D 0 i
  have hql := someD_len D f n i
  refine cnd_dec (fun hlt => ?_) (fun hge => ?_)
  · have hw1 : IntKind.i64.wrap ((i : Int) + 1) = ((i + 1 : Nat) : Int) := by rw [i64_id (by omega) (by omega)]; simp
    rw [hw1]
    refine CallT.mono (disk_Read.spec (hD6.ext g1) hwl (i : Int)) ?_
    have hrd : readD D (i : Int) = ((showD D i).1, 0) := by
      rw [readD, if_neg (by rw [hdn]; simp), if_neg (by omega), Int.toNat_natCast]
    rw [hrd]
    rintro ⟨b, be⟩ v2 ⟨hb, _, g2⟩
    dsimp only at hb ⊢
    have hlen := showD_len D i
    refine CallT.mono (ref03_Good.spec hb.rd hb.cap_le (by omega)) ?_
    rintro _ v3 ⟨rfl, g3⟩
    have g13 := (g1.tr g2).tr g3
    have hp3 := (hp.ext g2).ext g3
    have hq3 := (hq.ext g2).ext g3
    refine cnd_intro (fun hgd => ?_) (fun hgd => ?_)
    · have hgd' : goodB (showD D i).1 = true := hgd
      refine ⟨256 - (i + 1), by omega, i + 1, p, q, rfl, by omega, rfl, ?_, ?_, hpq, g13⟩
      · rw [badsD_succ, Nat.zero_add, if_pos hgd', List.append_nil]; exact hp3
      · rw [someD_succ, if_neg (fun g => by rw [hgd'] at g; simp at g), List.append_nil]; exact hq3
    have hgd' : goodB (showD D i).1 = false := hgd
    refine ⟨LY, (b6.ext g13).all, CallT.mono (dunnageref05_Region.spec pl256 (i : Int) v3) ?_⟩
    rintro _ v4 ⟨rfl, g4⟩
    have g14 := g13.tr g4
    generalize ha5 : v4.alloc _ = v5
    generalize hd5 : setCells v5 _ 0 _ = v6
    obtain ⟨c6, bx, g6, zz6⟩ := bk_mk (T := T.api_Bad) (z := encBad (0, 0)) (vs := encBad (badAt i)) ha5 hd5 rfl
    have g16 := g14.tr g6
    have hp6 := (hp3.ext g4).ext g6
    have hq6 := (hq3.ext g4).ext g6
    refine ⟨c6, badAt i, bx.all, app_bad (x := badAt i) g16 hp6 (by omega) ?_⟩
    intro p' v7 hp7 g7 u7 hloc7
    have hlt4 : v4.heap.size < v6.heap.size := by omega
    have hq7 : OwnS encBad 2 T.api_Bad v7 w6.heap.size q (someD D f n i) := ⟨hq6.own.upd u7 fun b hb hx => hpq b hx hb, encBad_len, by decide⟩
    have bx7 := bx.upd u7 fun hx => by have := hp3.own.blk_lt hx; have := g4.size; omega
    have hpq7 : ∀ b, p'.blk b → ¬ q.blk b := fun b hb hx => by
      rcases hloc7 b hb with g | g
      · exact hpq b g hx
      · have := hq6.own.blk_lt hx; omega
    have hbad : OwnS encBad 2 T.api_Bad v7 w6.heap.size p' (badsD D 0 (i + 1)) := by
      rw [badsD_succ, Nat.zero_add, if_neg (by rw [hgd']; simp)]; exact hp7
    refine ⟨fun b v => v7 = v ∧ b = inPart f n i, cnd_dec (fun h1 => cnd_dec (fun h2 => ⟨rfl, ?_⟩) fun h2 => ⟨rfl, ?_⟩) (fun h1 => ⟨rfl, ?_⟩), ?_⟩
    · rw [i64_id (by omega) (by omega), inPart, decide_eq_decide]
      omega
    · rw [inPart, eq_comm, decide_eq_false_iff_not]; omega
    · rw [inPart, eq_comm, decide_eq_false_iff_not]; omega
    rintro b _ _ ⟨rfl, rfl⟩
    refine cnd_intro (fun hin => ?_) (fun hin => ?_)
    · refine ⟨badAt i, bx7.all, app_bad (x := badAt i) g7 hq7 (by omega) ?_⟩
      intro q' v8 hq8 g8 u8 hloc8
      refine ⟨256 - (i + 1), by omega, i + 1, p', q', rfl, by omega, rfl, ⟨hbad.own.upd u8 fun b hb hx => hpq7 b hb hx, encBad_len, by decide⟩, ?_, fun b hb hx => ?_, g8⟩
      · rw [someD_succ, if_pos ⟨hgd', hin⟩]; exact hq8
      · rcases hloc8 b hx with g | g
        · exact hpq7 b hb g
        · have := hbad.own.blk_lt hb; omega
    · refine ⟨256 - (i + 1), by omega, i + 1, p', q, rfl, by omega, rfl, hbad, ?_, hpq7, g7⟩
      rw [someD_succ, if_neg (fun g => by rw [hin] at g; simp at g), List.append_nil]; exact hq7
  · have hi' : i = 256 := by omega
    subst hi'
    have e0 := (e05.tr e6).tr g1
    refine ⟨LY, (b6.ext g1).all, CallT.mono (scrub_Look.spec (hD6.ext g1) h256 hwl LY) ?_⟩
    rw [partR_ok hdn (by decide), show (0 : Int).toNat = 0 from rfl, show (256 : Int).toNat = 256 from rfl]
    rintro ⟨a, ae⟩ v2 ⟨ha, hae, g2⟩
    dsimp only at ha hae ⊢
    subst hae
    refine ⟨LY, ((b6.ext g1).ext g2).all, CallT.mono (scrub_Part.spec ((hD6.ext g1).ext g2) h256 hwl LY (f := f) hn) ?_⟩
    rintro ⟨c, ce⟩ v3 ⟨hc, hce, g3⟩
    dsimp only at hc hce ⊢
    refine ⟨fun _ v => Ext v3 v, cnd_neg rfl (CallT.mono (dunnagehelp_Plain_api_Bad.spec ((ha.rd.ext g3)) ((hp.rd.ext g2).ext g3) (by omega)) ?_), ?_⟩
    · rintro _ v4 ⟨rfl, g4⟩
      exact cnd_neg (by simp) g4
    rintro _ _ v4 g4
    have e4 := ((e0.tr g2).tr g3).tr g4
    have hcl := hc.len
    refine ⟨fun _ v => v4 = v ∧ ¬ (f < 0 ∨ n < 0 ∨ f > 256 ∨ n > 256 - f), ⟨fun b v => v4 = v ∧ (b = true ↔ (f < 0 ∨ n < 0 ∨ f > 256 ∨ n > 256 - f)), cnd_dec (fun h1 => ⟨rfl, by simp [h1]⟩) fun h1 => cnd_dec (fun h2 => ⟨rfl, by simp [h2]⟩) fun h2 => cnd_dec (fun h3 => ⟨rfl, by simp [h3]⟩) fun h3 => ⟨rfl, ?_⟩, ?_⟩, ?_⟩
    · rw [i64_id (by omega) (by omega), decide_eq_true_iff]; omega
    · rintro b _ _ ⟨rfl, hb⟩
      cases b with
      | false => exact cnd_neg rfl ⟨rfl, fun g => by have := hb.2 g; simp at this⟩
      | true =>
        rw [partR_arg hdn (hb.1 rfl)] at hce hcl
        dsimp only at hce hcl
        subst hce
        exact cnd_pos rfl ⟨by rw [hcl]; rfl, e4⟩
    rintro _ _ _ ⟨rfl, hg⟩
    obtain ⟨f0, rfl⟩ : ∃ z : Nat, f = z := ⟨f.toNat, by omega⟩
    obtain ⟨n0, rfl⟩ : ∃ z : Nat, n = z := ⟨n.toNat, by omega⟩
    rw [partR_ok hdn hg] at hce hc
    simp only [Int.toNat_natCast] at hce hc
    subst hce
    have hbl := badsD_len D f0 n0
    refine cnd_pos rfl (CallT.mono (dunnagehelp_Plain_api_Bad.spec (hc.rd.ext g4) (((hq.rd.ext g2).ext g3).ext g4) (by omega)) ?_)
    rintro _ v5 ⟨rfl, g5⟩
    exact ⟨by rw [someD_part D (by omega)]; simp, e4.tr g5⟩
/-! ### items that come in -/
theorem items_rel {w : World} {bd : TypeId → Nat → Prop} {bs : Nat → Prop} {e e' : TypeId} {a : Option Addr} {len cap : Nat}
    (h : DS.rel w bd bs (.slice e 5 (.struct (.cons 0 1 (.int .i64) (.cons 1 1 (.int .i64) (.cons 2 1 .bool (.cons 3 1 (.int .u8) (.cons 4 1 (.slice e' 1 (.int .u8)) .nil))))))) [.slice a len cap]) :
    ∃ l : List ItV, RdIts w ⟨a, len, cap⟩ l := by
  have key : ∀ es : List Value, es.length = 5 → DS.rel w bd bs (.struct (.cons 0 1 (.int .i64) (.cons 1 1 (.int .i64) (.cons 2 1 .bool (.cons 3 1 (.int .u8) (.cons 4 1 (.slice e' 1 (.int .u8)) .nil)))))) es →
      ∃ o : ItV, encIt o = es ∧ RdB w o.s o.data := by
    intro es hl hr
    match es, hl with
    | [v0, v1, v2, v3, v4], _ =>
      obtain ⟨⟨n0, h0, w0⟩, ⟨n1, h1, w1⟩, ⟨b2, h2⟩, ⟨n3, h3, w3⟩, h4, _⟩ := hr
      obtain ⟨a5, l5, c5, h50, _⟩ := id h4
      obtain ⟨d, hk, _⟩ := bytes_rel (h50 ▸ h4)
      have hb : IntKind.u8.min ≤ n3 ∧ n3 ≤ IntKind.u8.max := by simpa [Lit.wf] using w3
      have g0 : 0 ≤ n3 := hb.1
      have g1 : n3 ≤ 255 := hb.2
      simp only [List.drop_zero, List.drop_succ_cons, List.take_succ_cons, List.take_zero, List.cons.injEq, and_true] at h0 h1 h2 h3 h50
      subst h0 h1 h2 h3 h50
      refine ⟨⟨n0, n1, b2, UInt8.ofNat n3.toNat, ⟨a5, l5, c5⟩, d⟩, ?_, hk⟩
      have : (((UInt8.ofNat n3.toNat).toNat : Nat) : Int) = n3 := by simp; omega
      simp only [encIt, this]
  obtain ⟨l, h1, h2, h3, h4⟩ := DS.flat (enc := encIt) (fun x => RdB w x.s x.data) h (fun _ => rfl) (by decide) key
  exact ⟨l, ⟨h1, h4⟩⟩
theorem dunnagelaw29_ScrubLooks.row {w : World} {bd : TypeId → Nat → Prop} {bs : Nat → Prop} {e e' : TypeId} {a : Option Addr} {len cap : Nat} {f n : Int}
    (h : DS.rel w bd bs (.slice e 5 (.struct (.cons 0 1 (.int .i64) (.cons 1 1 (.int .i64) (.cons 2 1 .bool (.cons 3 1 (.int .u8) (.cons 4 1 (.slice e' 1 (.int .u8)) .nil))))))) [.slice a len cap]) (hf : -9223372036854775808 ≤ f ∧ f ≤ 9223372036854775807) (hn : -9223372036854775808 ≤ n ∧ n ≤ 9223372036854775807) :
    CallT [.one .bool] Try.prog F.dunnagelaw29_ScrubLooks [.slice a len cap, .int .i64 f, .int .i64 n] w fun r w' => r = true ∧ Ext w w' := by
  obtain ⟨l, hl⟩ := items_rel h
  exact dunnagelaw29_ScrubLooks.spec hl hf hn
end Go.Proofs
