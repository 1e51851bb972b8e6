/- what chapter 06 is awake by: one short record is cut. Conditions: those of each contract. -/
import Derived.Test.YtinolellciikoaaCond7
import Derived.Test.YtinolellciikoaaFrame5
namespace Go.Proofs
open Go Go.Vc
theorem slsl_u : Try.prog.underlying T.sl_sl_uint8 = some (.slice T.sl_uint8) := by kernel_rfl
theorem appL : AppT Try.prog [T.sl_sl_uint8, T.sl_sl_uint8] T.sl_uint8 1 24 [.slice none 0 0] :=
  ⟨⟨T.sl_sl_uint8, rfl, slsl_u⟩, ⟨T.sl_sl_uint8, _, rfl, slsl_u, .inr ⟨T.sl_uint8, rfl⟩⟩, by kernel_rfl, by kernel_rfl, by decide, by kernel_rfl, rfl, by decide⟩
theorem u8_u : Try.prog.underlying T.uint8 = some (.int .u8) := by kernel_rfl
/-- A new row of bytes is made text: the cell behind its end is marked, and no more. -/
theorem b2b_new {w : World} {vs : List Value} {n c : Nat} {K : SV → World → Prop} (hk : ∀ w', Ext w w' → cellsAt w' ⟨w.heap.size, 0, none⟩ vs → K ⟨some ⟨w.heap.size, 0, none⟩, n, c⟩ w') :
    b2bV Try.prog T.sl_uint8 (.slice (some ⟨w.heap.size, 0, none⟩) n c) (w.alloc (.cells vs.toArray T.uint8)) K := by
  have hb : (w.alloc (.cells vs.toArray T.uint8)).heap[w.heap.size]? = some (.cells vs.toArray T.uint8 (0, 0)) := blk_new w _
  generalize hw1 : w.alloc (.cells vs.toArray T.uint8) = w1 at hb ⊢
  have e1 : Ext w w1 := by rw [← hw1]; exact ext_alloc _ _
  unfold b2bV runV
  refine ⟨⟨some ⟨w.heap.size, 0, none⟩, n, c⟩, w1.freeze ⟨w.heap.size, vs.length, none⟩ 1, ?_, hk _ ?_ ?_⟩
  · unfold convert
    simp only [Sem.run_bind, run_underlying sl_u8, Result.andThen_ok, run_underlying u8_u, beq_self_eq_true]
    unfold markStringish
    have hsh : w1.shape? w.heap.size = some (T.uint8, vs.length) := by unfold World.shape?; rw [hb]; simp
    have h1 : (Go.shape w.heap.size).run Try.prog w1 = .ok (some (T.uint8, vs.length)) w1 := by
      show Result.ok (w1.shape? w.heap.size) w1 = _
      rw [hsh]
    dsimp only
    rw [Sem.run_bind, h1]
    rfl
  · refine e1.trans (M' := fun x => x = w.heap.size) ⟨rfl, rfl, rfl, by simp [World.freeze], fun x hx hm => ?_⟩ fun x hx he => by omega
    simp only [World.freeze]
    rw [if_neg (by decide), Array.getElem?_modify, if_neg (fun h => hm h.symm)]
  · intro j v hv
    have hj := (List.getElem?_eq_some_iff.1 hv).1
    have hw : (w1.freeze ⟨w.heap.size, vs.length, none⟩ 1).heap[w.heap.size]? = some (.cells vs.toArray T.uint8 (vs.length, vs.length + 1)) := by
      simp only [World.freeze]
      rw [if_neg (by decide), Array.getElem?_modify, if_pos rfl, hb]
      rfl
    unfold World.cell?
    simp only [add_mk, Nat.zero_add]
    rw [hw]
    simpa using hv
theorem cutShort.spec {w : World} {a f : Nat} {s : SV} {d : List UInt8} (ha : a < 2 ^ 64) (hf : f < 2 ^ 64) (hd : RdB w s d) (hc : s.len ≤ s.cap) (hl : d.length ≤ 440) :
    CallT [.one .slice, .one (.int .i64)] Try.prog F.frame_Cut [.int .u64 a, .int .u64 f, .slice s.a s.len s.cap] w fun r w' => r.1.len = 1 ∧ r.2 = 0 ∧ Ext w w' := by
  refine frame_Cut.vc (a : Int) (f : Int) s w _ ?_
  have hdl := hd.lenB
  refine cnd_dec (fun h => by omega) (fun h => CallT.mono (frame_Count.spec (s.len : Int) ⟨by omega, by omega⟩ w) ?_)
  rintro _ _ ⟨rfl, rfl⟩
  have hN : countF (s.len : Int) = 1 := by
    rw [countF, if_neg (by omega)]
    split
    · rfl
    · omega
  rw [hN]
  refine ⟨fun m x w' => (m = 1 ∧ x = (⟨none, 0, 0⟩, 0) ∧ Ext w w') ∨ (m = 0 ∧ ∃ sv : SV, x = (sv, 1) ∧ sv.len = 1 ∧ Ext w w'), ⟨1, .inl ⟨rfl, rfl, Upd.refl _ _⟩⟩, ?_⟩
  rintro m _ _ w1 (⟨rfl, rfl, e1⟩ | ⟨rfl, sv, rfl, hsv, e1⟩)
  · dsimp only
    refine cnd_pos rfl ?_
    have h1 : IntKind.i64.wrap (IntKind.i64.wrap (0 + 1) * 440) = 440 := by decide
    have h2 : IntKind.i64.wrap (0 * 440) = 0 := by decide
    rw [h1, h2, Int.min_eq_right (show (s.len : Int) ≤ 440 by omega)]
    refine ⟨by omega, by omega, by omega, by omega, by omega, by omega, ?_⟩
    rw [show Int.toNat 0 = 0 from rfl, subA_zero, Int.toNat_natCast]
    have hd1 : RdB w1 ⟨s.a, s.len - 0, s.len - 0⟩ d := ⟨(hd.ext e1).len, (hd.ext e1).nil, (hd.ext e1).at_⟩
    refine CallT.mono (frame_Write.spec ha hf (of := 1) hd1) ?_
    rintro ⟨t, e⟩ w2 ⟨ht, he, e2⟩
    have hm : mayF 1 d.length = true := by simp [mayF]; omega
    rw [wrF, if_pos hm] at he
    dsimp only at he ⊢
    subst he
    have e02 : Ext w w2 := e1.trans e2 fun _ _ h => h
    refine cnd_neg rfl ?_
    have h0 : Own w2 w.heap.size T.sl_uint8 1 ⟨none, 0, 0⟩ [] := Own.nil _ _ _ _
    refine app_new (s := ⟨none, 0, 0⟩) (m := 1) (vs := [.slice t.a t.len t.cap]) appL e02 h0 rfl (by simp [Value.oneCell']) (by simp) ?_
    intro s' w3 _ e3 hl3 _
    exact ⟨0, by omega, .inr ⟨rfl, s', rfl, by simpa using hl3, e3⟩⟩
  · exact cnd_neg rfl ⟨hsv, rfl, e1⟩
theorem awake06.spec (w : World) : CallT [.one .bool] Try.prog F.dunnagelaw06_awake [] w fun r w' => r = true ∧ Ext w w' := by
  refine dunnagelaw06_awake.vc w _ ?_
  refine b2b_new (vs := B8 [97, 98]) fun w1 e1 hc => ?_
  have hd : RdB w1 ⟨some ⟨w.heap.size, 0, none⟩, 2, 2⟩ [97, 98] := ⟨rfl, fun h => by simp at h, fun A hA => by obtain rfl := Option.some.inj hA; exact hc⟩
  refine CallT.mono (cutShort.spec (a := 2) (f := 7) (s := ⟨some ⟨w.heap.size, 0, none⟩, 2, 2⟩) (by decide) (by decide) hd (Nat.le_refl _) (by decide)) ?_
  rintro ⟨r, e⟩ w2 ⟨hr, he, e2⟩
  dsimp only at hr he ⊢
  subst he
  refine cnd_pos rfl (cnd_pos (by rw [hr]; rfl) (CallT.mono (frame_Count.spec 441 ⟨by decide, by decide⟩ w2) ?_))
  rintro _ _ ⟨rfl, rfl⟩
  exact ⟨rfl, e1.trans e2 fun _ _ h => h⟩
end Go.Proofs
