/- frame: the document's Write, Read and its Reader; frame.Read; two frames alike. Conditions: those of each contract. -/
import Derived.Test.YtinolellciikoaaCond7
import Derived.Test.YtinolellciikoaaCond13
import Derived.Test.YtinolellciikoaaFrame
namespace Go.Proofs
open Go Go.Vc
theorem ref06_Write.spec {w : World} {a f : Nat} {of : Int} {s : SV} {d : List UInt8} (ha : a < 2 ^ 64) (hf : f < 2 ^ 64) (hd : RdB w s d) :
    CallT [.one .slice, .one (.int .i64)] Try.prog F.dunnageref06_Write [.agg #[.int .u64 a, .int .u64 f, .int .i64 of, .slice s.a s.len s.cap]] w fun r w' => OwnB w' w.heap.size r.1 (wrF a f of d).1 ∧ r.2 = (wrF a f of d).2 ∧ Ext w w' := by
  refine dunnageref06_Write.vc ((a : Int), (f : Int), of, s) w _ ?_
  have hdl := hd.lenB
  generalize hc : w.alloc _ = w1
  obtain ⟨b1, e1, z1⟩ := bk_new (T := T.api_Frame) (vs := frV ((a : Int), (f : Int), of, s)) hc
  dsimp only
  refine ⟨((a : Int), (f : Int), of, s), b1.all, CallT.mono (ref06_May.spec ((a : Int), (f : Int), of, s) w1) ?_⟩
  rintro _ w2 ⟨rfl, e2⟩
  dsimp only
  rw [hdl]
  have e12 : Ext w w2 := e1.trans e2 fun _ _ h => h
  refine cnd_not (fun hm => ?_) (fun hm => ?_)
  · rw [wrF, if_neg (by rw [hm]; simp)]
    exact ⟨Own.nil _ _ _ _, rfl, e12⟩
  rw [wrF, if_pos hm]
  have hm' : 1 ≤ of ∧ of ≤ 32 ∧ d.length ≤ 440 := by simpa [mayF] using hm
  have b2 : BK w2 w.heap.size T.api_Frame (frV ((a : Int), (f : Int), of, s)) := b1.ext e2
  refine ⟨(a : Int), b2.get 0 rfl, CallT.mono (dunnageref01_Var.spec a ha w2) ?_⟩
  rintro x1 w3 ⟨g1, e3, _⟩
  have b3 := b2.ext e3
  refine ⟨(f : Int), b3.get 1 rfl, CallT.mono (dunnageref01_Var.spec f hf w3) ?_⟩
  rintro x2 w4 ⟨g2, e4, _⟩
  have b4 := b3.ext e4
  have h64 : (IntKind.u64.wrap of).toNat < 2 ^ 64 := by rw [u64_mod]; omega
  have l1 := varB_10 ha
  have l2 := varB_10 hf
  have l3 := varB_10 h64
  have g1l := g1.lenB
  have g2l := g2.lenB
  have e24 : Ext w2 w4 := e3.trans e4 fun _ _ h => h
  refine appV_own appB (g1.ext e4) (g2.rd.src (B8_one _)) e24.size (fun hc => ?_) fun y1 w5 q1 ql1 u5 _ => ?_
  · have := nextcap_le hc; omega
  have e25 : Ext w2 w5 := e24.own (g1.ext e4) (Nat.le_refl _) u5
  have b5 := b2.ext e25
  have hcast : IntKind.u64.wrap of = (((IntKind.u64.wrap of).toNat : Nat) : Int) := by rw [u64_mod]; omega
  have hv := dunnageref01_Var.spec (IntKind.u64.wrap of).toNat h64 w5
  rw [← hcast] at hv
  refine ⟨of, b5.get 2 rfl, CallT.mono hv ?_⟩
  rintro x3 w6 ⟨g3, e6, _⟩
  have g3l := g3.lenB
  have e26 : Ext w2 w6 := e25.trans e6 fun _ _ h => h
  refine appV_own appB (q1.ext e6) (g3.rd.src (B8_one _)) e26.size (fun hc => ?_) fun y2 w7 q2 ql2 u7 _ => ?_
  · have := nextcap_le hc; omega
  have e27 : Ext w2 w7 := e26.own (q1.ext e6) (Nat.le_refl _) u7
  refine ⟨s, (b2.ext e27).get 3 rfl, ?_⟩
  have hd7 := hd.ext (e12.trans e27 fun _ _ h => h)
  refine appV_own appB q2 (hd7.src (B8_one _)) e27.size (fun hc => ?_) fun y3 w8 q3 ql3 u8 _ => ?_
  · have := nextcap_le hc; omega
  have e28 : Ext w2 w8 := e27.own q2 (Nat.le_refl _) u8
  refine ⟨Own.mono ?_ e12.size, rfl, e12.trans e28 fun _ _ h => h⟩
  rw [frB, B8_append, B8_append, B8_append]
  exact q3
theorem helpFrame.spec {w : World} {x y : FrV} {c d : List UInt8} (hx : RdB w x.2.2.2 c) (hy : RdB w y.2.2.2 d) :
    CallT [.one .bool] Try.prog F.dunnagehelp_Frame [.agg #[.int .u64 x.1, .int .u64 x.2.1, .int .i64 x.2.2.1, .slice x.2.2.2.a x.2.2.2.len x.2.2.2.cap], .agg #[.int .u64 y.1, .int .u64 y.2.1, .int .i64 y.2.2.1, .slice y.2.2.2.a y.2.2.2.len y.2.2.2.cap]] w
      fun r w' => r = decide (x.1 = y.1 ∧ x.2.1 = y.2.1 ∧ x.2.2.1 = y.2.2.1 ∧ c = d) ∧ Ext w w' := by
  refine dunnagehelp_Frame.vc x y w _ ?_
  generalize hc : w.alloc _ = w1
  obtain ⟨b1, e1, z1⟩ := bk_new (T := T.api_Frame) (vs := frV x) hc
  dsimp only
  generalize hc2 : w1.alloc _ = w2
  obtain ⟨b2, e2, z2⟩ := bk_new (T := T.api_Frame) (vs := frV y) hc2
  have b12 := b1.ext e2
  have e : Ext w w2 := e1.trans e2 fun _ _ h => h
  refine ⟨x.1, b12.get 0 rfl, y.1, b2.get 0 rfl, cnd_beq (fun h1 => ⟨x.2.1, b12.get 1 rfl, y.2.1, b2.get 1 rfl, cnd_beq (fun h2 => ⟨x.2.2.1, b12.get 2 rfl, y.2.2.1, b2.get 2 rfl, cnd_beq (fun h3 => ⟨x.2.2.2, b12.get 3 rfl, y.2.2.2, b2.get 3 rfl, CallT.mono (dunnagehelp_Bytes.spec (hx.ext e) (hy.ext e)) ?_⟩) fun h => ⟨?_, e⟩⟩) fun h => ⟨?_, e⟩⟩) fun h => ⟨?_, e⟩⟩
  · rintro _ _ ⟨rfl, rfl⟩
    refine ⟨?_, e⟩
    rw [Bool.eq_iff_iff]
    simp [h1, h2, h3]
  · rw [eq_comm, decide_eq_false_iff_not]; exact fun g => h g.2.2.1
  · rw [eq_comm, decide_eq_false_iff_not]; exact fun g => h g.2.1
  · rw [eq_comm, decide_eq_false_iff_not]; exact fun g => h g.1
set_option maxRecDepth 100000 in
theorem copyBytes.spec {w : World} {s : SV} {l : List UInt8} (hs : RdB w s l) (hl : l.length ≤ 140737488351232) :
    CallT [.one .slice] Try.prog F.dunnagehelp_CopyBytes [.slice s.a s.len s.cap] w fun o w' => OwnB w' w.heap.size o l ∧ Ext w w' := by
  refine dunnagehelp_CopyBytes.vc s w _ ?_
  have hsl := hs.lenB
  have h0 : Own w w.heap.size T.uint8 1 ⟨none, 0, 0⟩ [] := Own.nil _ _ _ _
  have hroom : (0 : Nat) < 0 + s.len → Builtin.nextslicecap (0 + s.len) 0 * 1 ≤ 281474976710656 := fun hc => by
    rw [Nat.zero_add, nextcap_zero (by omega)]; omega
  refine appV_own (s := ⟨none, 0, 0⟩) appB h0 (hs.src (B8_one _)) (Nat.le_refl _) hroom fun y1 w5 q1 _ u5 _ => ?_
  rw [List.nil_append] at q1
  exact ⟨q1, (Upd.refl _ w).own h0 (Nat.le_refl _) u5⟩
end Go.Proofs
