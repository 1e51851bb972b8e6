/- dunnagelaw06.FrameReads: what a frame is as bytes, and what any bytes are as a frame. Conditions: what came in is of the sizes that the form allows. -/
import Derived.Test.YtinolellciikoaaCond0
import Derived.Test.YtinolellciikoaaFrame6
namespace Go.Proofs
open Go Go.Vc
theorem dunnagelaw06_FrameReads.spec {w : World} {a f : Nat} {of n : Int} {sd s : SV} {d l : List UInt8} (ha : a < 2 ^ 64) (hf : f < 2 ^ 64) (hd : RdB w sd d) (hs : RdB w s l) (hc : s.len ≤ s.cap) (hm : s.cap ≤ 140737488351232) (hn : -9223372036854775808 ≤ n ∧ n ≤ 9223372036854775807) :
    CallT [.one .bool] Try.prog F.dunnagelaw06_FrameReads [.agg #[.int .u64 a, .int .u64 f, .int .i64 of, .slice sd.a sd.len sd.cap], .slice s.a s.len s.cap, .int .i64 n] w fun r w' => r = true ∧ Ext w w' := by
  refine dunnagelaw06_FrameReads.vc ((a : Int), (f : Int), of, sd) s n w _ ?_
  have hsl := hs.lenB
  have hl : l.length ≤ 140737488351232 := by omega
  generalize hc1 : w.alloc _ = w1
  obtain ⟨b1, e1, z1⟩ := bk_new (T := T.api_Frame) (vs := frV ((a : Int), (f : Int), of, sd)) hc1
  refine CallT.mono (dunnagehelp_Own_byte.spec (hs.ext e1) hl 71) ?_
  rintro o w2 ⟨hol, hoc, e2, g, ho⟩
  have b2 := b1.ext e2
  refine ⟨((a : Int), (f : Int), of, sd), b2.all, CallT.mono (frame_Write.spec ha hf ((hd.ext e1).ext e2)) ?_⟩
  rintro ⟨x, ex⟩ w3 ⟨hx, hxe, e3⟩
  have b3 := b2.ext e3
  refine ⟨((a : Int), (f : Int), of, sd), b3.all, CallT.mono (ref06_Write.spec ha hf (((hd.ext e1).ext e2).ext e3)) ?_⟩
  rintro ⟨y, ey⟩ w4 ⟨hy, hye, e4⟩
  have ho4 := (ho.ext e3).ext e4
  refine CallT.mono (frame_Read.spec ho4.rd (by omega) hl) ?_
  rintro ⟨⟨p0, p1, p2, pt⟩, pe⟩ w5 ⟨q0, q1, q2, q3, q4, e5⟩
  dsimp only at q0 q1 q2 q3 q4 hx hxe hy hye ⊢
  generalize hc6 : w5.alloc _ = w6
  generalize hd6 : setCells w6 _ 0 _ = w7
  obtain ⟨c7, b7, e7, z7⟩ := bk_mk (T := T.api_Frame) (z := zFr) (vs := frV (p0, p1, p2, pt)) hc6 hd6 rfl
  have e02 := e1.tr e2
  have e07 : Ext w w7 := (((e02.tr e3).tr e4).tr e5).tr e7
  refine ⟨c7, CallT.mono (ref06_Read.spec (hs.ext e07) hc hl) ?_⟩
  rintro ⟨⟨r0, r1, r2, rt⟩, re⟩ w8 ⟨t0, t1, t2, t3, t4, e8⟩
  dsimp only at t0 t1 t2 t3 t4 ⊢
  generalize hc9 : w8.alloc _ = w9
  generalize hd9 : setCells w9 _ 0 _ = w10
  obtain ⟨c10, b10, e10, z10⟩ := bk_mk (T := T.api_Frame) (z := zFr) (vs := frV (r0, r1, r2, rt)) hc9 hd9 rfl
  have b710 := (b7.ext e8).ext e10
  refine ⟨c10, fun _ w' => Ext w10 w', ?_, ?_⟩
  · refine CallT.mono (awake06.spec w10) ?_
    rintro _ w11 ⟨rfl, e11⟩
    have e411 : Ext w4 w11 := (((e5.tr e7).tr e8).tr e10).tr e11
    refine cnd_neg rfl (CallT.mono (dunnagehelp_Bytes.spec ((hx.rd.ext e4).ext e411) (hy.rd.ext e411)) ?_)
    rintro _ _ ⟨rfl, rfl⟩
    refine cnd_neg (by simp) (cnd_neg (by rw [hxe, hye]; simp) ?_)
    have hp : RdB w11 pt (readR l).1.2.2.2 := (((q3.rd.ext e7).ext e8).ext e10).ext e11
    have hr : RdB w11 rt (readR l).1.2.2.2 := (t3.rd.ext e10).ext e11
    refine ⟨(p0, p1, p2, pt), (b710.ext e11).all, (r0, r1, r2, rt), (b10.ext e11).all, CallT.mono (helpFrame.spec (x := (p0, p1, p2, pt)) (y := (r0, r1, r2, rt)) hp hr) ?_⟩
    rintro _ w12 ⟨rfl, e12⟩
    refine cnd_neg (by simp [q0, q1, q2, t0, t1, t2]) (cnd_neg (by rw [q4, t4]; simp) (CallT.mono (frame_Count.spec n hn w12) ?_))
    rintro _ _ ⟨rfl, rfl⟩
    refine CallT.mono (ref06_Count.spec n hn w12) ?_
    rintro _ _ ⟨rfl, rfl⟩
    exact cnd_neg (by simp) (e11.tr e12)
  · rintro _ _ w11 e11
    have e711 : Ext w7 w11 := (e8.tr e10).tr e11
    refine ⟨pt, (b7.ext e711).get 3 rfl, ?_⟩
    have hp : OwnB w11 w4.heap.size pt (readR l).1.2.2.2 := Own.ext (Own.ext q3 e7) e711
    have hplen : (readR l).1.2.2.2.length < 2 ^ 62 := by
      have : (readR l).1.2.2.2.length ≤ l.length := by
        simp only [readR]
        split
        · simp
        split
        · simp
        · rw [List.length_drop]; omega
      omega
    refine CallT.mono (dunnagehelp_Spoil.spec hp hplen) ?_
    rintro _ w12 hu
    have hge : ∀ b', SV.blk pt b' → w4.heap.size ≤ b' := fun b' hb' => hp.blk_ge hb'
    have e04 : Ext w w4 := (e02.tr e3).tr e4
    have e011 : Ext w w11 := e07.tr e711
    have e012 : Ext w w12 := e011.trans hu fun z hz hb => by have := hge z hb; have := e04.size; omega
    have ho11 := (((ho4.ext e5).ext e7).ext e711)
    have ho12 := ho11.upd hu fun hb => by have := hge g hb; have := ho4.lt; omega
    refine CallT.mono (dunnagehelp_Kept_byte.spec (c := 71) ho12 (hs.ext e012) (by omega)) ?_
    rintro _ w13 ⟨rfl, e13⟩
    exact ⟨by simp, e012.tr e13⟩
theorem frame_rel {w : World} {bd : TypeId → Nat → Prop} {bs : Nat → Prop} {e : TypeId} {a : Array Value} (h : DS.rel w bd bs (.struct (.cons 0 1 (.int .u64) (.cons 1 1 (.int .u64) (.cons 2 1 (.int .i64) (.cons 3 1 (.slice e 1 (.int .u8)) .nil))))) a.toList) (g : a.size = 4) :
    ∃ (x f : Nat) (of : Int) (sd : SV) (d : List UInt8), a = #[.int .u64 x, .int .u64 f, .int .i64 of, .slice sd.a sd.len sd.cap] ∧ x < 2 ^ 64 ∧ f < 2 ^ 64 ∧ RdB w sd d := by
  obtain ⟨l⟩ := a
  match l, g with
  | [v0, v1, v2, v3], _ =>
    obtain ⟨⟨n0, h0, w0⟩, ⟨n1, h1, w1⟩, ⟨n2, h2, w2⟩, h3, _⟩ := h
    obtain ⟨a5, l5, c5, h50, _⟩ := id h3
    obtain ⟨d, hk, _⟩ := bytes_rel (h50 ▸ h3)
    have b0 : IntKind.u64.min ≤ n0 ∧ n0 ≤ IntKind.u64.max := by simpa [Lit.wf] using w0
    have b1 : IntKind.u64.min ≤ n1 ∧ n1 ≤ IntKind.u64.max := by simpa [Lit.wf] using w1
    have b0' : 0 ≤ n0 ∧ n0 ≤ 18446744073709551615 := b0
    have b1' : 0 ≤ n1 ∧ n1 ≤ 18446744073709551615 := b1
    simp only [List.drop_zero, List.drop_succ_cons, List.take_succ_cons, List.take_zero, List.cons.injEq, and_true] at h0 h1 h2 h50
    subst h0 h1 h2 h50
    obtain ⟨x, rfl⟩ : ∃ x : Nat, n0 = x := ⟨n0.toNat, by omega⟩
    obtain ⟨f, rfl⟩ : ∃ x : Nat, n1 = x := ⟨n1.toNat, by omega⟩
    exact ⟨x, f, n2, ⟨a5, l5, c5⟩, d, rfl, by omega, by omega, hk⟩
theorem dunnagelaw06_FrameReads.row {w : World} {bd : TypeId → Nat → Prop} {bs : Nat → Prop} {e : TypeId} {a : Array Value} {n : Int} {s : SV} {l : List UInt8} (h : DS.rel w bd bs (.struct (.cons 0 1 (.int .u64) (.cons 1 1 (.int .u64) (.cons 2 1 (.int .i64) (.cons 3 1 (.slice e 1 (.int .u8)) .nil))))) a.toList) (g : a.size = 4)
    (hs : RdB w s l) (hc : s.len ≤ s.cap) (hm : s.cap ≤ 140737488351232) (hn : -9223372036854775808 ≤ n ∧ n ≤ 9223372036854775807) :
    CallT [.one .bool] Try.prog F.dunnagelaw06_FrameReads [.agg a, .slice s.a s.len s.cap, .int .i64 n] w fun r w' => r = true ∧ Ext w w' := by
  obtain ⟨x, f, of, sd, d, rfl, h1, h2, h3⟩ := frame_rel h g
  exact dunnagelaw06_FrameReads.spec h1 h2 h3 hs hc hm hn
end Go.Proofs
