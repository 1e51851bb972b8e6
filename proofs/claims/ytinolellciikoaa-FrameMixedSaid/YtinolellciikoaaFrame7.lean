/- Slices of frames: what reads as so many frames. Conditions: those that each lemma names. -/
import Derived.Test.YtinolellciikoaaCond13
import Derived.Test.YtinolellciikoaaLFrameReads
namespace Go.Proofs
open Go Go.Vc
structure FrW where
  age : Nat
  first : Nat
  of : Int
  s : SV
  data : List UInt8
@[reducible] def encFr (x : FrW) : List Value := [.int .u64 x.age, .int .u64 x.first, .int .i64 x.of, .slice x.s.a x.s.len x.s.cap]
/-- A slice that reads as these frames. -/
structure RdFr (w : World) (s : SV) (l : List FrW) : Prop where
  rd : RdS encFr 4 w s l
  ok : ∀ x ∈ l, RdB w x.s x.data ∧ x.age < 2 ^ 64 ∧ x.first < 2 ^ 64 ∧ x.data.length ≤ 140737488351232
theorem RdFr.ext {w w' : World} {s : SV} {l : List FrW} (h : RdFr w s l) (e : Ext w w') : RdFr w' s l := ⟨h.rd.ext e, fun x hx => ⟨(h.ok x hx).1.ext e, (h.ok x hx).2⟩⟩
theorem frs_rel {w : World} {bd : TypeId → Nat → Prop} {bs : Nat → Prop} {e e' : TypeId} {a : Option Addr} {len cap : Nat} (hbd : ∀ n, bd e n → n ≤ 140737488351232)
    (h : DS.rel w bd bs (.slice e' 4 (.struct (.cons 0 1 (.int .u64) (.cons 1 1 (.int .u64) (.cons 2 1 (.int .i64) (.cons 3 1 (.slice e 1 (.int .u8)) .nil)))))) [.slice a len cap]) :
    ∃ l : List FrW, RdFr w ⟨a, len, cap⟩ l ∧ len ≤ cap ∧ (cap = 0 ∨ bd e' cap) := by
  have key : ∀ es : List Value, es.length = 4 → DS.rel w bd bs (.struct (.cons 0 1 (.int .u64) (.cons 1 1 (.int .u64) (.cons 2 1 (.int .i64) (.cons 3 1 (.slice e 1 (.int .u8)) .nil))))) es →
      ∃ x : FrW, encFr x = es ∧ (RdB w x.s x.data ∧ x.age < 2 ^ 64 ∧ x.first < 2 ^ 64 ∧ x.data.length ≤ 140737488351232) := by
    intro es hl hr
    match es, hl with
    | [v0, v1, v2, v3], _ =>
      obtain ⟨⟨n0, h0, w0⟩, ⟨n1, h1, w1⟩, ⟨n2, h2, w2⟩, h3, _⟩ := hr
      obtain ⟨a5, l5, c5, h50, _⟩ := id h3
      obtain ⟨d, hk, hlc, hb⟩ := bytes_rel (h50 ▸ h3)
      have b0 : IntKind.u64.min ≤ n0 ∧ n0 ≤ IntKind.u64.max := by simpa [Lit.wf] using w0
      have b1 : IntKind.u64.min ≤ n1 ∧ n1 ≤ IntKind.u64.max := by simpa [Lit.wf] using w1
      have b0' : 0 ≤ n0 ∧ n0 ≤ 18446744073709551615 := b0
      have b1' : 0 ≤ n1 ∧ n1 ≤ 18446744073709551615 := b1
      simp only [List.drop_zero, List.drop_succ_cons, List.take_succ_cons, List.take_zero, List.cons.injEq, and_true] at h0 h1 h2 h50
      subst h0 h1 h2 h50
      obtain ⟨x, rfl⟩ : ∃ x : Nat, n0 = x := ⟨n0.toNat, by omega⟩
      obtain ⟨f, rfl⟩ : ∃ x : Nat, n1 = x := ⟨n1.toNat, by omega⟩
      have hdl := hk.lenB
      refine ⟨⟨x, f, n2, ⟨a5, l5, c5⟩, d⟩, rfl, hk, by simp only; omega, by simp only; omega, ?_⟩
      simp only at hdl ⊢
      rcases hb with hb | hb
      · omega
      · have := hbd _ hb; omega
  obtain ⟨l, h1, h2, h3, h4⟩ := DS.flat (enc := encFr) (fun x => RdB w x.s x.data ∧ x.age < 2 ^ 64 ∧ x.first < 2 ^ 64 ∧ x.data.length ≤ 140737488351232) h (fun _ => rfl) (by decide) key
  exact ⟨l, ⟨h1, h4⟩, h2, h3⟩
/-- Does the frame x stand at place i of a record whose first frame is y? -/
def Fits (x y : FrV) (i : Int) : Prop :=
  mayF x.2.2.1 x.2.2.2.len = true ∧ x.1 = y.1 ∧ x.2.1 = y.2.1 ∧ x.2.2.1 = y.2.2.1 ∧ (i = x.2.2.1 - 1 ∧ (i = 0 ∨ 0 < x.2.2.2.len) ∨ i < x.2.2.1 - 1 ∧ x.2.2.2.len = 440)
instance (x y : FrV) (i : Int) : Decidable (Fits x y i) := by unfold Fits; exact inferInstance
theorem frame_fits.spec (x y : FrV) (i : Int) (w : World) :
    CallT [.one .bool] Try.prog F.frame_fits [.agg #[.int .u64 x.1, .int .u64 x.2.1, .int .i64 x.2.2.1, .slice x.2.2.2.a x.2.2.2.len x.2.2.2.cap], .agg #[.int .u64 y.1, .int .u64 y.2.1, .int .i64 y.2.2.1, .slice y.2.2.2.a y.2.2.2.len y.2.2.2.cap], .int .i64 i] w
      fun r w' => r = decide (Fits x y i) ∧ Ext w w' := by
  refine frame_fits.vc x y i w _ ?_
  generalize hc : w.alloc _ = w1
  obtain ⟨b1, e1, z1⟩ := bk_new (T := T.api_Frame) (vs := frV x) hc
  dsimp only
  generalize hc2 : w1.alloc _ = w2
  obtain ⟨b2, e2, z2⟩ := bk_new (T := T.api_Frame) (vs := frV y) hc2
  have b12 := b1.ext e2
  have no : ∀ {w' : World}, Ext w w' → ¬ Fits x y i → false = decide (Fits x y i) ∧ Ext w w' := fun e h => ⟨by rw [eq_comm, decide_eq_false_iff_not]; exact h, e⟩
  refine ⟨fun _ w' => Ext w2 w' ∧ mayF x.2.2.1 x.2.2.2.len = true ∧ x.1 = y.1 ∧ x.2.1 = y.2.1 ∧ x.2.2.1 = y.2.2.1, ⟨x, b12.all, CallT.mono (frame_may.spec x w2) ?_⟩, ?_⟩
  · rintro _ w3 ⟨rfl, e3⟩
    have e03 := (e1.tr e2).tr e3
    have c1 := b12.ext e3
    have c2 := b2.ext e3
    refine cnd_not (fun hm => no e03 fun h => by have := h.1; rw [hm] at this; simp at this) fun hm => ?_
    exact ⟨x.1, c1.get 0 rfl, y.1, c2.get 0 rfl, cnd_bne (fun h => no e03 fun g => h g.2.1) fun h0 => ⟨x.2.1, c1.get 1 rfl, y.2.1, c2.get 1 rfl, cnd_bne (fun h => no e03 fun g => h g.2.2.1) fun h1 => ⟨x.2.2.1, c1.get 2 rfl, y.2.2.1, c2.get 2 rfl, cnd_bne (fun h => no e03 fun g => h g.2.2.2.1) fun h2 => ⟨e3, hm, h0, h1, h2⟩⟩⟩⟩
  rintro _ _ w3 ⟨e3, hm, h0, h1, h2⟩
  have e03 := (e1.tr e2).tr e3
  have c1 := b12.ext e3
  have hof : 1 ≤ x.2.2.1 ∧ x.2.2.1 ≤ 32 ∧ x.2.2.2.len ≤ 440 := by simpa [mayF] using hm
  have hw : IntKind.i64.wrap (x.2.2.1 - 1) = x.2.2.1 - 1 := by rw [i64_id] <;> omega
  have yes : ∀ {p : Prop} [Decidable p], (p ↔ (i = x.2.2.1 - 1 ∧ (i = 0 ∨ 0 < x.2.2.2.len) ∨ i < x.2.2.1 - 1 ∧ x.2.2.2.len = 440)) → decide p = decide (Fits x y i) ∧ Ext w w3 := fun hp => ⟨by rw [decide_eq_decide, hp]; exact ⟨fun g => ⟨hm, h0, h1, h2, g⟩, fun g => g.2.2.2.2⟩, e03⟩
  have tt : (i = x.2.2.1 - 1 ∧ (i = 0 ∨ 0 < x.2.2.2.len) ∨ i < x.2.2.1 - 1 ∧ x.2.2.2.len = 440) → true = decide (Fits x y i) ∧ Ext w w3 := fun g => ⟨by rw [eq_comm, decide_eq_true_iff]; exact ⟨hm, h0, h1, h2, g⟩, e03⟩
  have ff : ¬ (i = x.2.2.1 - 1 ∧ (i = 0 ∨ 0 < x.2.2.2.len) ∨ i < x.2.2.1 - 1 ∧ x.2.2.2.len = 440) → false = decide (Fits x y i) ∧ Ext w w3 := fun g => no e03 fun h => g h.2.2.2.2
  refine ⟨x.2.2.1, c1.get 2 rfl, ?_⟩
  rw [hw]
  refine cnd_beq (fun hi => cnd_beq (fun hz => tt (by omega)) fun hz => ⟨x.2.2.2, c1.get 3 rfl, cnd_dec (fun hg => tt (by omega)) fun hg => ⟨x.2.2.1, c1.get 2 rfl, ?_⟩⟩) (fun hi => ⟨x.2.2.1, c1.get 2 rfl, ?_⟩)
  · rw [hw]
    exact cnd_dec (fun h => by omega) fun h => ff (by omega)
  · rw [hw]
    refine cnd_dec (fun h => ⟨x.2.2.2, c1.get 3 rfl, ?_⟩) fun h => ff (by omega)
    by_cases hl : x.2.2.2.len = 440
    · rw [hl]; exact tt (by omega)
    · rw [show (((x.2.2.2.len : Nat) : Int) == 440) = false by simp; omega]
      exact ff (by omega)
end Go.Proofs
