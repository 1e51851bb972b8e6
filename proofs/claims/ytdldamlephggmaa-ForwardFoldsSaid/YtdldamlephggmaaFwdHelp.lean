/- dunnagehelp over moves: Plain. Conditions: those of each contract. -/
import Derived.Test.YtdldamlephggmaaFold
namespace Go.Proofs
open Go Go.Vc
theorem dunnagehelp_Plain_api_Move_1.spec (a b : Mv) (w : World) :
    CallT [.one .bool] Try.prog F.dunnagehelp_Plain_api_Move_1 [.agg #[.int .u64 a.1, .int .i64 a.2.1, .int .i64 a.2.2.1, .int .i64 a.2.2.2], .agg #[.int .u64 b.1, .int .i64 b.2.1, .int .i64 b.2.2.1, .int .i64 b.2.2.2]] w fun r w' => r = decide (a = b) ∧ Ext w w' := by
  refine dunnagehelp_Plain_api_Move_1.vc a b w _ ?_
  intro w1
  obtain ⟨e1, z1, b1⟩ := alloc_facts w (.cells (encMv a).toArray T.api_Move)
  intro w2
  obtain ⟨e2, z2, b2⟩ := alloc_facts w1 (.cells (encMv b).toArray T.api_Move)
  have b1 : w2.heap[w.heap.size]? = _ := e2.get b1
  refine ⟨a, cellsAt_blk b1 (fun j v hv => by simpa [encMv] using hv), b, cellsAt_blk b2 (fun j v hv => by simpa [encMv] using hv), ?_, e1.tr e2⟩
  clear b1 b2 z1 z2 e1 e2
  clear w2
  clear w1
  obtain ⟨p1, p2, p3, p4⟩ := a
  obtain ⟨q1, q2, q3, q4⟩ := b
  simp only [Bool.and_true, Prod.mk.injEq, Bool.decide_and]
  rfl
theorem dunnagehelp_Plain_api_Move.spec {a b : SV} {x y : List Mv} {w : World} (ha : RdM w a x) (hb : RdM w b y) (hx : x.length < 2 ^ 62) :
    CallT [.one .bool] Try.prog F.dunnagehelp_Plain_api_Move [.slice a.a a.len a.cap, .slice b.a b.len b.cap] w fun r w' => r = decide (x = y) ∧ Ext w w' := by
  refine dunnagehelp_Plain_api_Move.vc a b w _ (dunnagehelp_Same_api_Move.vc a b _ w _ ?_)
  have hal := ha.len
  have hbl := hb.len
  refine cnd_bne (fun hne => ?_) (fun he => ?_)
  · have : x ≠ y := fun e => hne (by rw [hal, hbl, e])
    exact ⟨by simp [this], Upd.refl _ _⟩
  have hxy : x.length = y.length := by omega
  refine ⟨fun n i w' => ∃ k : Nat, i = k ∧ k ≤ x.length ∧ n = x.length - k ∧ Ext w w' ∧ x.take k = y.take k, ⟨_, 0, rfl, by omega, rfl, Upd.refl _ _, rfl⟩, ?_⟩
  rintro n i j w' ⟨k, rfl, hk, rfl, hu, hq⟩
  refine cnd_dec (fun hlt => ?_) (fun hge => ?_)
  · have hkx : k < x.length := by omega
    have hky : k < y.length := by omega
    have hw : Ext w w'.drew := hu.drew
    refine ⟨by omega, by omega, ha.get hkx fun A hA => ⟨x[k], (ha.ext hw).at_ (List.getElem?_eq_getElem hkx) hA, by omega, by omega,
      hb.get hky fun B hB => ⟨y[k], (hb.ext hw).at_ (List.getElem?_eq_getElem hky) hB, ?_⟩⟩⟩
    refine CallT.mono (dunnagehelp_Plain_api_Move_1.spec x[k] y[k] w'.drew) ?_
    rintro _ w2 ⟨rfl, e2⟩
    refine cnd_not (fun hf => ?_) (fun ht => ?_)
    · refine ⟨?_, hw.tr e2⟩
      have : x ≠ y := by
        rintro rfl
        simp at hf
      simp [this]
    · have hb : x[k] = y[k] := of_decide_eq_true ht
      refine ⟨_, ?_, k + 1, by rw [i64_id] <;> omega, by omega, rfl, hw.tr e2, ?_⟩
      · omega
      · rw [List.take_add_one, List.take_add_one, hq, List.getElem?_eq_getElem hkx, List.getElem?_eq_getElem hky, hb]
  · have hk2 : k = x.length := by omega
    subst hk2
    rw [List.take_length, List.take_of_length_le (by omega)] at hq
    exact ⟨by simp [hq], hu⟩
end Go.Proofs
