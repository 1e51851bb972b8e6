/- The walks of dunnagelaw05.LayoutRing, LayoutPlaces, LayoutPlans: each answers true, and turns nothing that was there. Conditions: none. -/
import Derived.Test.YtbnnpnillppdhaaLayout
namespace Go.Proofs
open Go Go.Vc

theorem mod_next {t q : Int} (hq : 0 < q) : (t + 1) % q = if t % q + 1 = q then 0 else t % q + 1 := by
  have a := Int.emod_nonneg t (b := q) (by omega)
  have b := Int.emod_lt_of_pos t (b := q) hq
  have e : t + 1 = (t % q + 1) + q * (t / q) := by have := Int.emod_add_mul_ediv t q; omega
  rw [e, Int.add_mul_emod_self_left]
  split
  · rename_i h; rw [h, Int.emod_self]
  · rw [Int.emod_eq_of_lt (by omega) (by omega)]
theorem mod_round (t q : Int) : (t + q) % q = t % q := by simp
theorem regP_four {n q s x : Int} (hp : PL n q s) (h1 : 13 ≤ x) (h2 : x < 13 + q) : regP n q s x = 4 := by
  obtain ⟨n1, n2, q1, q2, s1, s2⟩ := hp
  unfold regP
  (repeat' split) <;> omega
/-- What Plan told, put into a variable. -/
theorem lay_mk {w1 w2 w3 : World} {x : L9} (ha : w1.alloc (.cells lay0.vs.toArray T.api_Layout) = w2) (hs : setCells w2 ⟨w1.heap.size, 0, none⟩ 0 x.vs = w3) :
    canSt w2 ⟨w1.heap.size, 0, none⟩ 9 ∧ LB w3 w1.heap.size x ∧ Ext w1 w3 ∧ w3.heap.size = w1.heap.size + 1 := by
  have h0 : LB w2 w1.heap.size lay0 := by rw [← ha]; exact LB.new w1 lay0
  have e2 : Ext w1 w2 := by rw [← ha]; exact ext_alloc _ _
  refine ⟨h0.can, by rw [← hs]; exact h0.set x, by rw [← hs]; exact e2.setCells (p := ⟨w1.heap.size, 0, none⟩) (fun h => by simp at h) 0 x.vs, ?_⟩
  rw [← hs, setCells_size, ← ha]; simp
theorem dunnagelaw05_LayoutRing.spec {n t : Int} (ht : 0 ≤ t) (w : World) :
    CallT [.one .bool] Try.prog F.dunnagelaw05_LayoutRing [.int .i64 n, .int .u64 t] w fun r w' => r = true ∧ Ext w w' := by
  refine dunnagelaw05_LayoutRing.vc n t w _ ?_
  refine CallT.mono (layout_Plan.spec n w) ?_
  rintro _ w1 ⟨rfl, e1⟩
  generalize ha : w1.alloc _ = w2
  refine ⟨(lay_mk (x := lay0) ha rfl).1, ?_⟩
  generalize hs : setCells w2 _ 0 _ = w3
  obtain ⟨-, h1, e3, -⟩ := lay_mk (x := (planF n).1) ha hs
  have e03 := e1.tr e3
  refine ⟨fun _ w' => Ext w3 w' ∧ (planF n).2 = 0 ∧ t ≤ 4611686018427387904, ⟨fun b w' => Ext w3 w' ∧ (b = false → (planF n).2 = 0 ∧ t ≤ 4611686018427387904), ?_, ?_⟩, ?_⟩
  · refine CallT.mono (dunnagelaw05_awake.spec w3) ?_
    rintro _ w4 ⟨rfl, e4⟩
    exact cnd_neg rfl (cnd_bne (fun h => ⟨e4, by simp⟩) (fun h => ⟨e4, fun hf => ⟨h, by simpa using hf⟩⟩))
  · rintro b _ w4 ⟨e4, hb⟩
    refine cnd_intro (fun _ => CallT.mono (dunnagelaw05_awake.spec w4) ?_) (fun hf => ⟨e4, hb hf⟩)
    rintro _ w5 ⟨rfl, e5⟩
    exact ⟨rfl, (e03.tr e4).tr e5⟩
  · rintro _ _ w4 ⟨e4, hz, htt⟩
    rcases planF_cases n with hl | ⟨q, s, hp, hl⟩
    · rw [hl] at hz; simp at hz
    rw [hl] at h1
    have h4 := h1.ext e4
    have hp' := hp
    obtain ⟨n1, n2, q1, q2, s1, s2⟩ := hp'
    refine ⟨fun w => LB w w1.heap.size (lay n q s), h4.ext (ext_drew _), lay n q s, fun w h => h.all, lay n q s, fun w h => h.all, lay n q s, fun w h => h.all, q, fun w h => h.get 3 rfl, ?_⟩
    refine CallT.mono (layout_LogAt.spec hp ht _) ?_
    rintro _ w5 ⟨rfl, e5⟩
    have h5 := (h4.ext (ext_drew _)).ext e5
    refine ⟨h5, ?_⟩
    rw [u64_id (x := t + 1) (by omega) (by omega), u64_id (x := q) (by omega) (by omega), u64_id (x := t + q) (by omega) (by omega)]
    refine CallT.mono (layout_LogAt.spec hp (t := t + 1) (by omega) _) ?_
    rintro _ w6 ⟨rfl, e6⟩
    refine ⟨h5.ext e6, CallT.mono (layout_LogAt.spec hp (t := t + q) (by omega) _) ?_⟩
    rintro _ w7 ⟨rfl, e7⟩
    have h7 := (h5.ext e6).ext e7
    refine ⟨h7, ?_⟩
    have a := Int.emod_nonneg t (b := q) (by omega)
    have b := Int.emod_lt_of_pos t (b := q) (by omega)
    have hlr : logF q t = 13 + t % q := rfl
    refine ⟨fun nx w' => w7 = w' ∧ nx = 13 + (t + 1) % q, ?_, ?_⟩
    · refine ⟨13, h7.get 2 rfl, q, h7.get 3 rfl, ?_⟩
      rw [hlr, i64_id (x := 13 + t % q + 1) (by omega) (by omega), i64_id (x := 13 + q) (by omega) (by omega), mod_next (by omega)]
      refine cnd_beq (fun h => ⟨13, h7.get 2 rfl, rfl, ?_⟩) (fun h => ⟨rfl, ?_⟩)
      · rw [if_pos (by omega)]; rfl
      · rw [if_neg (by omega)]; omega
    · rintro _ _ _ ⟨rfl, rfl⟩
      refine ⟨lay n q s, h7.all, CallT.mono (layout_Region.spec hp (logF q t) w7) ?_⟩
      rintro _ w8 ⟨rfl, e8⟩
      rw [regP_four hp (by omega) (by omega)]
      refine cnd_pos rfl (cnd_pos (by rw [beq_iff_eq]; rfl) ⟨?_, ?_⟩)
      · rw [beq_iff_eq, logF, logF, mod_round]
      · exact ((((((e03.tr e4).tr (ext_drew _)).tr e5).tr e6).tr e7).tr e8)

theorem physF_ok {n q s x : Int} (hp : PL n q s) (h : (physF q s x).2 = true) : 0 ≤ x ∧ x < 31 * s ∧ physF q s x = (13 + 3 * q + 32 * (x / 31) + 1 + x % 31, true) ∧
    regP n q s (physF q s x).1 = 7 ∧ 0 ≤ (physF q s x).1 ∧ (physF q s x).1 < n ∧ logicF n q s (physF q s x).1 = (x, true) := by
  have hx : ¬ (x < 0 ∨ 31 * s ≤ x) := fun hx => by rw [physF, if_pos hx] at h; cases h
  have he : physF q s x = (13 + 3 * q + 32 * (x / 31) + 1 + x % 31, true) := if_neg hx
  have hr : regP n q s (13 + 3 * q + 32 * (x / 31) + 1 + x % 31) = 7 := (regP_seven hp).2 (by obtain ⟨n1, n2, q1, q2, s1, s2⟩ := hp; omega)
  rw [he]
  refine ⟨by omega, by omega, rfl, hr, ?_, ?_, ?_⟩
  · obtain ⟨n1, n2, q1, q2, s1, s2⟩ := hp; dsimp only; omega
  · obtain ⟨n1, n2, q1, q2, s1, s2⟩ := hp; dsimp only; omega
  · dsimp only
    rw [logicF, if_pos ⟨hr, by omega⟩]
    congr 1; omega
theorem physF_rise {q s x y : Int} (h1 : (physF q s x).2 = true) (h2 : (physF q s y).2 = true) : (decide (x < y)) = decide ((physF q s x).1 < (physF q s y).1) := by
  have hx : ¬ (x < 0 ∨ 31 * s ≤ x) := fun hx => by rw [physF, if_pos hx] at h1; cases h1
  have hy : ¬ (y < 0 ∨ 31 * s ≤ y) := fun hx => by rw [physF, if_pos hx] at h2; cases h2
  rw [physF, if_neg hx, physF, if_neg hy]
  dsimp only
  rw [decide_eq_decide]
  omega
theorem logicF_back {n q s x : Int} (hp : PL n q s) (h : (logicF n q s x).2 = true) : physF q s (logicF n q s x).1 = (x, true) := by
  by_cases hc : regP n q s x = 7 ∧ (x - (13 + 3 * q)) % 32 ≠ 0
  · have h7 := (regP_seven hp).1 hc.1
    rw [logicF, if_pos hc]
    dsimp only
    rw [physF, if_neg (by omega)]
    congr 1; omega
  · rw [logicF, if_neg hc] at h; cases h
theorem dunnagelaw05_LayoutPlaces.spec (n x y : Int) (w : World) :
    CallT [.one .bool] Try.prog F.dunnagelaw05_LayoutPlaces [.int .i64 n, .int .i64 x, .int .i64 y] w fun r w' => r = true ∧ Ext w w' := by
  refine dunnagelaw05_LayoutPlaces.vc n x y w _ ?_
  refine CallT.mono (layout_Plan.spec n w) ?_
  rintro _ w1 ⟨rfl, e1⟩
  generalize ha : w1.alloc _ = w2
  refine ⟨(lay_mk (x := lay0) ha rfl).1, ?_⟩
  generalize hs : setCells w2 _ 0 _ = w3
  obtain ⟨-, h1, e3, -⟩ := lay_mk (x := (planF n).1) ha hs
  have e03 := e1.tr e3
  refine ⟨fun _ w' => Ext w3 w' ∧ (planF n).2 = 0, ⟨fun b w' => Ext w3 w' ∧ (b = false → (planF n).2 = 0), ?_, ?_⟩, ?_⟩
  · refine CallT.mono (dunnagelaw05_awake.spec w3) ?_
    rintro _ w4 ⟨rfl, e4⟩
    exact cnd_neg rfl ⟨e4, fun h => by simpa using h⟩
  · rintro b _ w4 ⟨e4, hb⟩
    refine cnd_intro (fun _ => CallT.mono (dunnagelaw05_awake.spec w4) ?_) (fun hf => ⟨e4, hb hf⟩)
    rintro _ w5 ⟨rfl, e5⟩
    exact ⟨rfl, (e03.tr e4).tr e5⟩
  · rintro _ _ w4 ⟨e4, hz⟩
    rcases planF_cases n with hl | ⟨q, s, hp, hl⟩
    · rw [hl] at hz; simp at hz
    rw [hl] at h1
    have h4 := h1.ext e4
    have e04 := e03.tr e4
    refine ⟨lay n q s, h4.all, CallT.mono (layout_Phys.spec hp x w4) ?_⟩
    rintro _ w5 ⟨rfl, e5⟩
    refine ⟨lay n q s, (h4.ext e5).all, CallT.mono (layout_Phys.spec hp y w5) ?_⟩
    rintro _ w6 ⟨rfl, e6⟩
    have e46 := e5.tr e6
    have h6 := h4.ext e46
    refine ⟨fun _ w' => Ext w4 w', ?_, ?_⟩
    · refine cnd_intro (fun hok => ?_) (fun _ => e46)
      obtain ⟨g1, g2, g3, g4, g5, g6, g7⟩ := physF_ok hp hok
      refine ⟨lay n q s, h6.all, CallT.mono (layout_Logic.spec hp _ w6) ?_⟩
      rintro _ w7 ⟨rfl, e7⟩
      have h7 := h6.ext e7
      rw [g7]
      refine cnd_neg rfl (cnd_bne (fun h => absurd rfl h) (fun _ => ⟨lay n q s, h7.all, CallT.mono (layout_Region.spec hp _ w7) ?_⟩))
      rintro _ w8 ⟨rfl, e8⟩
      rw [g4]
      exact cnd_neg rfl (cnd_dec (fun h => absurd h (by omega)) (fun _ => cnd_dec (fun h => absurd h (by omega)) (fun _ => (e46.tr e7).tr e8)))
    · rintro _ _ w7 e7
      refine ⟨fun _ w' => Ext w4 w', ?_, ?_⟩
      · refine cnd_intro (fun h1 => cnd_intro (fun h2 => cnd_neg ?_ e7) (fun _ => e7)) (fun _ => e7)
        rw [physF_rise h1 h2]; cases decide ((physF q s x).fst < (physF q s y).fst) <;> rfl
      · rintro _ _ w8 e8
        have h8 := h4.ext e8
        refine ⟨lay n q s, h8.all, CallT.mono (layout_Logic.spec hp x w8) ?_⟩
        rintro _ w9 ⟨rfl, e9⟩
        refine cnd_not (fun hf => ⟨rfl, (e04.tr e8).tr e9⟩) (fun ht => ?_)
        refine ⟨lay n q s, (h8.ext e9).all, CallT.mono (layout_Phys.spec hp _ w9) ?_⟩
        rintro _ w10 ⟨rfl, e10⟩
        rw [logicF_back hp ht]
        exact cnd_true ⟨by simp, ((e04.tr e8).tr e9).tr e10⟩
theorem dunnagelaw05_LayoutPlans.spec (n x : Int) {t : Int} (ht : 0 ≤ t) (w : World) :
    CallT [.one .bool] Try.prog F.dunnagelaw05_LayoutPlans [.int .i64 n, .int .i64 x, .int .u64 t] w fun r w' => r = true ∧ Ext w w' := by
  refine dunnagelaw05_LayoutPlans.vc n x t w _ ?_
  refine CallT.mono (layout_Plan.spec n w) ?_
  rintro _ w1 ⟨rfl, e1⟩
  intro err
  generalize ha : w1.alloc _ = w2
  refine ⟨(lay_mk (x := lay0) ha rfl).1, ?_⟩
  generalize hs : setCells w2 _ 0 _ = w3
  obtain ⟨-, h1, e3, z3⟩ := lay_mk (x := (planF n).1) ha hs
  refine CallT.mono (dunnageref05_Plan.spec n w3) ?_
  rintro _ v1 ⟨rfl, k1⟩
  have hb : w1.heap.size < v1.heap.size := by have := k1.size; omega
  generalize hc : v1.alloc _ = v2
  refine ⟨(lay_mk (x := lay0) hc rfl).1, ?_⟩
  generalize hd : setCells v2 _ 0 _ = v3
  obtain ⟨-, i1, k3, -⟩ := lay_mk (x := (planF n).1) hc hd
  have e03 : Ext w v3 := ((e1.tr e3).tr k1).tr k3
  have j1 : LB v3 w1.heap.size (planF n).1 := (h1.ext k1).ext k3
  refine ⟨fun _ w' => Ext v3 w', ?_, ?_⟩
  · refine CallT.mono (dunnagelaw05_awake.spec v3) ?_
    rintro _ w4 ⟨rfl, e4⟩
    refine cnd_neg rfl ⟨(planF n).1, (j1.ext e4).all, (planF n).1, (i1.ext e4).all, cnd_neg (by simp) (cnd_bne (fun h => absurd rfl h) (fun _ => e4))⟩
  · rintro _ _ w4 e4
    refine cnd_bne (fun h => ⟨rfl, e03.tr e4⟩) (fun hz => ?_)
    change (planF n).2 = 0 at hz
    rcases planF_cases n with hl | ⟨q, s, hp, hl⟩
    · rw [hl] at hz; simp at hz
    rw [hl] at i1 j1
    have a4 := j1.ext e4
    have b4 := i1.ext e4
    have e04 := e03.tr e4
    refine ⟨lay n q s, a4.all, CallT.mono (layout_Phys.spec hp x w4) ?_⟩
    rintro _ w5 ⟨rfl, e5⟩
    refine ⟨lay n q s, (b4.ext e5).all, CallT.mono (dunnageref05_Phys.spec hp x w5) ?_⟩
    rintro _ w6 ⟨rfl, e6⟩
    refine ⟨lay n q s, ((a4.ext e5).ext e6).all, CallT.mono (layout_Logic.spec hp x w6) ?_⟩
    rintro _ w7 ⟨rfl, e7⟩
    refine ⟨lay n q s, (((b4.ext e5).ext e6).ext e7).all, CallT.mono (dunnageref05_Logic.spec hp x w7) ?_⟩
    rintro _ w8 ⟨rfl, e8⟩
    have e48 := (((e5.tr e6).tr e7).tr e8).drew
    have a8 := a4.ext e48
    have b8 := b4.ext e48
    refine ⟨fun w => LB w w1.heap.size (lay n q s) ∧ LB w v1.heap.size (lay n q s), ⟨a8, b8⟩, lay n q s, fun w h => h.1.all, lay n q s, fun w h => h.2.all, CallT.mono (layout_Region.spec hp x _) ?_⟩
    rintro _ w9 ⟨rfl, e9⟩
    refine ⟨⟨a8.ext e9, b8.ext e9⟩, CallT.mono (dunnageref05_Region.spec hp x _) ?_⟩
    rintro _ w10 ⟨rfl, e10⟩
    have e810 := e9.tr e10
    refine ⟨⟨a8.ext e810, b8.ext e810⟩, cnd_pos (by simp) ⟨lay n q s, fun w h => h.1.all, lay n q s, fun w h => h.2.all, CallT.mono (layout_Segment.spec hp x _) ?_⟩⟩
    rintro _ w11 ⟨rfl, e11⟩
    have e811 := e810.tr e11
    refine ⟨⟨a8.ext e811, b8.ext e811⟩, CallT.mono (dunnageref05_Segment.spec hp x _) ?_⟩
    rintro _ w12 ⟨rfl, e12⟩
    have e812 := e811.tr e12
    refine ⟨⟨a8.ext e812, b8.ext e812⟩, cnd_pos (by simp) ⟨lay n q s, fun w h => h.1.all, lay n q s, fun w h => h.2.all, CallT.mono (layout_Capacity.spec hp _) ?_⟩⟩
    rintro _ w13 ⟨rfl, e13⟩
    have e813 := e812.tr e13
    refine ⟨⟨a8.ext e813, b8.ext e813⟩, CallT.mono (dunnageref05_Capacity.spec hp _) ?_⟩
    rintro _ w14 ⟨rfl, e14⟩
    have e814 := e813.tr e14
    refine ⟨⟨a8.ext e814, b8.ext e814⟩, cnd_pos (by simp) (cnd_pos (by simp) (cnd_pos (by simp) (cnd_pos (by simp) (cnd_pos (by simp) ⟨lay n q s, fun w h => h.1.all, lay n q s, fun w h => h.2.all, CallT.mono (layout_LogAt.spec hp ht _) ?_⟩))))⟩
    rintro _ w15 ⟨rfl, e15⟩
    have e815 := e814.tr e15
    refine ⟨⟨a8.ext e815, b8.ext e815⟩, CallT.mono (dunnageref05_LogAt.spec hp ht _) ?_⟩
    rintro _ w16 ⟨rfl, e16⟩
    have e816 := e815.tr e16
    exact ⟨⟨a8.ext e816, b8.ext e816⟩, by simp, (e04.tr e48).tr e816⟩
end Go.Proofs
