/- snaps.Pin, and the document's. Conditions: those of each contract. -/
import Derived.Test.YtdldamlephggmaaCond2
import Derived.Test.YtdldamlephggmaaSnapsDel
namespace Go.Proofs
open Go Go.Vc
theorem snaps_Pin_1.spec {w : World} {b : Nat} {r : Int} (hb : BK w b T.int [.int .i64 r]) (x : Pn) :
    CallT [.one .bool] Try.prog F.snaps_Pin_1 [.agg (encPn x).toArray, .pointer (some ⟨b, 0, none⟩)] w fun q w' => q = (x.2 == r) ∧ Ext w w' := by
  refine snaps_Pin_1.vc x (some ⟨b, 0, none⟩) w _ ?_
  dsimp only
  generalize ha : w.alloc _ = w1
  obtain ⟨b1, e1, z1⟩ := bk_new (vs := encPn x) ha
  exact ⟨x.2, b1.get 1 rfl, r, (hb.ext e1).get0 rfl, rfl, e1⟩
theorem app_pin_new {w0 w : World} {s : SV} {l : List Pn} {x : Pn} {K : SV → World → Prop} (he : Ext w0 w) (hs : OwnS encPn 2 T.api_Pin w w0.heap.size s l) (hl : l.length ≤ 1000)
    (hk : ∀ s' w', OwnS encPn 2 T.api_Pin w' w0.heap.size s' (l ++ [x]) → Ext w0 w' → Upd s.blk w w' → K s' w') :
    appV Try.prog [T.sl_api_Pin, T.sl_api_Pin] T.sl_api_Pin [.slice s.a s.len s.cap, .slice (some ⟨w.heap.size, 0, none⟩) 1 1] (w.alloc (.cells (encPn x).toArray T.api_Pin)) K := by
  have hsl := hs.len
  refine app_new' (vs := encPn x) app_api_Pin he hs.own rfl (encPn_one _) (by omega) ?_
  intro s' w' ho e u _ _
  refine hk s' w' ⟨?_, encPn_len, by decide⟩ e u
  rw [List.flatMap_append]; simpa using ho
theorem app_pin_rd {w0 w : World} {s : SV} {l : List Pn} {x : Pn} {b : Nat} {K : SV → World → Prop} (he : Ext w0 w) (hs : OwnS encPn 2 T.api_Pin w w0.heap.size s l) (hb : BK w b T.api_Pin (encPn x)) (hl : l.length ≤ 1000)
    (hk : ∀ s' w', OwnS encPn 2 T.api_Pin w' w0.heap.size s' (l ++ [x]) → Ext w0 w' → Upd s.blk w w' → K s' w') :
    appV Try.prog [T.sl_api_Pin, T.sl_api_Pin] T.sl_api_Pin [.slice s.a s.len s.cap, .slice (some ⟨b, 0, none⟩) 1 1] w K := by
  have hsl := hs.len
  have hrd : Rd w 2 ⟨some ⟨b, 0, none⟩, 1, 1⟩ (encPn x) := ⟨rfl, fun h => by simp at h, fun A hA => by obtain rfl := Option.some.inj hA; exact hb.all⟩
  refine appV_own app_api_Pin hs.own (hrd.src (encPn_one _)) he.size (fun hlt => Nat.le_trans (Nat.mul_le_mul_right _ (nextcap_le hlt)) (by dsimp only; omega)) ?_
  intro s' w' ho hl' hu ha
  refine hk s' w' ⟨?_, encPn_len, by decide⟩ (he.own hs.own (Nat.le_refl _) hu) hu
  rw [List.flatMap_append]; simpa using ho
theorem BK.blk {w w' : World} {b : Nat} {T : TypeId} {vs : List Value} {s : SV} (h : BK w b T vs) (u : Upd s.blk w w') (hb : ∀ c, s.blk c → b ≠ c) : BK w' b T vs := h.upd u fun hs => hb b hs rfl
theorem snaps_Pin.spec {w : World} {nx : Int} {s : SV} {l : List Pn} (hs : RdP w s l) (hl : l.length < 2 ^ 62) :
    CallT [.agg [.int .i64, .slice], .agg [.int .i64, .int .i64], .one (.int .i64)] Try.prog F.snaps_Pin [.agg (PV.vs (nx, s)).toArray] w fun r w' =>
      r.1.1 = (pinF nx l).1.1 ∧ OwnS encPn 2 T.api_Pin w' w.heap.size r.1.2 (pinF nx l).1.2 ∧ r.2.1 = (pinF nx l).2.1 ∧ r.2.2 = (pinF nx l).2.2 ∧ Ext w w' := by
  refine snaps_Pin.vc (nx, s) w _ ?_
  have hsl := hs.len
  dsimp only
  generalize ha : w.alloc _ = w1
  obtain ⟨b1, e1, z1⟩ := bk_new (vs := PV.vs (nx, s)) ha
  generalize hb : w1.alloc _ = w2
  obtain ⟨b2, e2, z2⟩ := bk_new (vs := PV.vs (0, ⟨none, 0, 0⟩)) hb
  generalize hc : w2.alloc _ = w3
  obtain ⟨b3, e3, z3⟩ := bk_new (vs := encPn (0, 0)) hc
  have e03 := (e1.tr e2).tr e3
  have p3 := (b1.ext e2).ext e3
  have r3 := b2.ext e3
  refine ⟨(nx, s), p3.all, CallT.mono (snaps_Check.spec (hs.ext e03) hl) ?_⟩
  rintro _ w4 ⟨rfl, e4⟩
  have e04 := e03.tr e4
  have p4 := p3.ext e4
  have r4 := r3.ext e4
  have q4 := b3.ext e4
  -- a refusal
  have refuse : ∀ (w' : World) (e : Int), Ext w w' → BK w' w1.heap.size T.api_Pins (PV.vs (0, ⟨none, 0, 0⟩)) → BK w' w2.heap.size T.api_Pin (encPn (0, 0)) → pinF nx l = ((0, []), (0, 0), e) →
      canSt w' ⟨w1.heap.size, 0, none⟩ 2 ∧ canSt (setCells w' ⟨w1.heap.size, 0, none⟩ 0 (PV.vs (0, ⟨none, 0, 0⟩))) ⟨w2.heap.size, 0, none⟩ 2 ∧
        ∃ x : Int × SV, cellsAt (setCells (setCells w' ⟨w1.heap.size, 0, none⟩ 0 (PV.vs (0, ⟨none, 0, 0⟩))) ⟨w2.heap.size, 0, none⟩ 0 (encPn (0, 0))) ⟨w1.heap.size, 0, none⟩ (PV.vs x) ∧
        ∃ y : Int × Int, cellsAt (setCells (setCells w' ⟨w1.heap.size, 0, none⟩ 0 (PV.vs (0, ⟨none, 0, 0⟩))) ⟨w2.heap.size, 0, none⟩ 0 (encPn (0, 0))) ⟨w2.heap.size, 0, none⟩ (encPn y) ∧
          (((x.1, x.2), (y.1, y.2), e) : (Int × SV) × (Int × Int) × Int).1.1 = (pinF nx l).1.1 ∧ OwnS encPn 2 T.api_Pin (setCells (setCells w' ⟨w1.heap.size, 0, none⟩ 0 (PV.vs (0, ⟨none, 0, 0⟩))) ⟨w2.heap.size, 0, none⟩ 0 (encPn (0, 0))) w.heap.size x.2 (pinF nx l).1.2 ∧ y = (pinF nx l).2.1 ∧ e = (pinF nx l).2.2 ∧
          Ext w (setCells (setCells w' ⟨w1.heap.size, 0, none⟩ 0 (PV.vs (0, ⟨none, 0, 0⟩))) ⟨w2.heap.size, 0, none⟩ 0 (encPn (0, 0))) := by
    intro w' e he h2 h3 hp
    generalize hd : setCells w' ⟨w1.heap.size, 0, none⟩ 0 _ = w5
    obtain ⟨c5, r5, e5, z5, k5⟩ := bk_put h2 he (by omega) hd rfl
    generalize hf : setCells w5 ⟨w2.heap.size, 0, none⟩ 0 _ = w6
    obtain ⟨c6, r6, e6, z6, k6⟩ := bk_put (k5 _ _ _ (by omega) h3) e5 (by omega) hf rfl
    rw [hp]
    exact ⟨c5, c6, (0, ⟨none, 0, 0⟩), (k6 _ _ _ (by omega) r5).all, (0, 0), r6.all, rfl, OwnS.nil encPn_len (by decide) _ _ _, rfl, rfl, e6⟩
  refine cnd_bne (fun h => ?_) (fun h => ?_)
  · have hr : rightB nx l = false := by
      cases hb : rightB nx l with
      | true => rw [hb] at h; simp at h
      | false => rfl
    have hp : pinF nx l = ((0, []), (0, 0), 11) := by rw [pinF, hr]; rfl
    rw [hr]
    exact refuse w4 11 e04 r4 q4 hp
  have hr : rightB nx l = true := by
    cases hb : rightB nx l with
    | true => rfl
    | false => rw [hb] at h; simp at h
  obtain ⟨n1, n2, l8, hok⟩ := rightB_iff.1 hr
  have hids := (okL_ids hok (Nat.le_refl _)).2
  rw [List.take_length] at hids
  have hno10 : hasRoot l 10 = false := by
    cases hb : hasRoot l 10 with
    | false => rfl
    | true =>
      unfold hasRoot at hb
      obtain ⟨y, hy, he⟩ := List.any_eq_true.1 hb
      have := hids y hy
      have : y.2 = 10 := by simpa using he
      omega
  refine ⟨fun _ w' => w4 = w' ∧ ¬ (8 ≤ l.length ∨ 4611686018427387904 ≤ nx), ⟨fun b w' => w4 = w' ∧ (b = true ↔ (8 ≤ l.length ∨ 4611686018427387904 ≤ nx)), ⟨s, p4.get 1 rfl, cnd_dec (fun h => ⟨rfl, by simp; omega⟩) (fun h => ⟨nx, p4.get 0 rfl, rfl, by simp; omega⟩)⟩, ?_⟩, ?_⟩
  · rintro b _ _ ⟨rfl, hb⟩
    refine cnd_intro (fun ht => ?_) (fun hf => ⟨rfl, fun h => by rw [hb.2 h] at hf; cases hf⟩)
    have hp : pinF nx l = ((0, []), (0, 0), 3) := by rw [pinF, if_pos hr, if_pos (hb.1 ht)]
    exact refuse w4 3 e04 r4 q4 hp
  rintro _ _ _ ⟨rfl, hroom⟩
  have hp : pinF nx l = ((nx + 1, l ++ [(nx, freeM l)]), (nx, freeM l), 0) := by rw [pinF, if_pos hr, if_neg hroom]
  have hz4 : w2.heap.size < w4.heap.size := q4.lt
  generalize hd : w4.alloc _ = w5
  obtain ⟨b5, e5, z5⟩ := bk_new (vs := [.int .i64 0]) hd
  obtain ⟨s1, s2, s3⟩ := b5.store0 (by simp) (.int .i64 1)
  refine ⟨s1, s2, fun n _ w' => ∃ r : Int, r + n = 10 ∧ 1 ≤ r ∧ freeF l n r = freeM l ∧ Ext w4 w' ∧ BK w' w4.heap.size T.int [.int .i64 r], ⟨9, 1, by omega, by omega, rfl, e5.set (fun h => by simp at h) _, s3⟩, ?_⟩
  rintro n _ _ w6 ⟨r, hrn, hr1, hfr, e6, b6⟩
  have e06 := e04.tr e6
  refine ⟨s, (p4.ext e6).get 1 rfl, CallT.mono (slices_ContainsFunc_api_Pin_api_Pin.spec (p := fun x => x.2 == r) (hs.ext e06) hl fun x w' e => snaps_Pin_1.spec (b6.ext e) x) ?_⟩
  rintro _ w7 ⟨e7, rfl⟩
  have e47 := e6.tr e7
  have b7 := b6.ext e7
  have e07 := e04.tr e47
  refine cnd_intro (fun ht => ?_) (fun hf => ?_)
  · obtain ⟨t1, t2, t3⟩ := b7.store0 (by simp) (.int .i64 (r + 1))
    have hw : IntKind.i64.wrap (r + 1) = r + 1 := by rw [i64_id] <;> omega
    refine ⟨r, b7.get0 rfl, ?_⟩
    rw [hw]
    cases n with
    | zero =>
      have : r = 10 := by omega
      subst this
      have : hasRoot l 10 = true := ht
      rw [hno10] at this; simp at this
    | succ n =>
      exact ⟨t1, t2, n, by omega, r + 1, by omega, by omega, by rw [← hfr, freeF]; exact (if_pos ht).symm, e47.set (fun h => by simp at h) _, t3⟩
  · have hre : r = freeM l := by
      rw [← hfr]
      cases n with
      | zero => rfl
      | succ n => rw [freeF]; exact (if_neg (by rw [show hasRoot l r = false from hf]; simp)).symm
    subst hre
    have p7 := p4.ext e47
    have r7 := r4.ext e47
    have q7 := q4.ext e47
    have hl8 : l.length < 8 := by omega
    refine ⟨nx, p7.get 0 rfl, freeM l, b7.get0 rfl, ?_⟩
    generalize hc8 : w7.alloc _ = w8
    generalize hd9 : setCells w8 _ 0 _ = w9
    obtain ⟨c9, x9, e9, z9⟩ := bk_mk (T := T.api_Pin) (z := [.int .i64 0, .int .i64 0]) (vs := encPn (nx, freeM l)) hc8 hd9 rfl
    have e9d : Ext w7 w9.drew := e9.drew
    have p9 := p7.ext e9d
    have r9 := r7.ext e9d
    have q9 := q7.ext e9d
    have x9d : BK w9.drew w7.heap.size T.api_Pin (encPn (nx, freeM l)) := x9
    have e09 := e07.tr e9d
    have hw7 : w4.heap.size < w7.heap.size := b7.lt
    have hwn : IntKind.i64.wrap (nx + 1) = nx + 1 := by rw [i64_id] <;> omega
    refine ⟨c9, fun w' => BK w' w.heap.size T.api_Pins (PV.vs (nx, s)) ∧ BK w' w7.heap.size T.api_Pin (encPn (nx, freeM l)), ⟨p9, x9d⟩, nx, fun _ h => h.1.get 0 rfl, s, fun _ h => h.1.get 1 rfl, (nx, freeM l), fun _ h => h.2.all, (nx, freeM l), fun _ h => h.2.all, ?_⟩
    rw [hwn]
    -- what is told at the end
    have fin : ∀ (w' : World) (s' : SV), Ext w w' → BK w' w.heap.size T.api_Pins (PV.vs (nx, s)) → BK w' w7.heap.size T.api_Pin (encPn (nx, freeM l)) → BK w' w1.heap.size T.api_Pins (PV.vs (0, ⟨none, 0, 0⟩)) → BK w' w2.heap.size T.api_Pin (encPn (0, 0)) →
        OwnS encPn 2 T.api_Pin w' w9.heap.size s' (l ++ [(nx, freeM l)]) →
        (BK w' w.heap.size T.api_Pins (PV.vs (nx, s)) ∧ BK w' w7.heap.size T.api_Pin (encPn (nx, freeM l))) ∧ canSt w' ⟨w1.heap.size, 0, none⟩ 2 ∧ ∀ w5, setCells w' ⟨w1.heap.size, 0, none⟩ 0 (PV.vs (nx + 1, s')) = w5 →
          (BK w5 w.heap.size T.api_Pins (PV.vs (nx, s)) ∧ BK w5 w7.heap.size T.api_Pin (encPn (nx, freeM l))) ∧ canSt w5 ⟨w2.heap.size, 0, none⟩ 2 ∧ ∀ w6, setCells w5 ⟨w2.heap.size, 0, none⟩ 0 (encPn (nx, freeM l)) = w6 →
            ∃ x : Int × SV, cellsAt w6 ⟨w1.heap.size, 0, none⟩ (PV.vs x) ∧ ∃ y : Int × Int, cellsAt w6 ⟨w2.heap.size, 0, none⟩ (encPn y) ∧
              x.1 = (pinF nx l).1.1 ∧ OwnS encPn 2 T.api_Pin w6 w.heap.size x.2 (pinF nx l).1.2 ∧ y = (pinF nx l).2.1 ∧ (0 : Int) = (pinF nx l).2.2 ∧ Ext w w6 := by
      intro w' s' he hpp hx hr' hq ho
      refine ⟨⟨hpp, hx⟩, hr'.can (by decide), fun w5 hd => ?_⟩
      obtain ⟨c5, r5, e5, z5, k5⟩ := bk_put hr' he (by omega) hd rfl
      refine ⟨⟨k5 _ _ _ (by omega) hpp, k5 _ _ _ (by omega) hx⟩, (k5 _ _ _ (by omega) hq).can (by decide), fun w6 hf => ?_⟩
      obtain ⟨c6, r6, e6, z6, k6⟩ := bk_put (k5 _ _ _ (by omega) hq) e5 (by omega) hf rfl
      have hz7 : w7.heap.size < w9.heap.size := by omega
      have o6 : OwnS encPn 2 T.api_Pin w6 w.heap.size s' (l ++ [(nx, freeM l)]) := by
        have ho5 : Own w5 w9.heap.size T.api_Pin 2 s' ((l ++ [(nx, freeM l)]).flatMap encPn) := by
          rw [← hd]
          refine ho.own.upd ((Upd.refl (fun b => b = w1.heap.size) w').setCells (p := ⟨w1.heap.size, 0, none⟩) (fun _ => rfl) 0 _) fun b hb hM => ?_
          have := ho.own.blk_ge hb; omega
        have ho6 : Own w6 w9.heap.size T.api_Pin 2 s' ((l ++ [(nx, freeM l)]).flatMap encPn) := by
          rw [← hf]
          refine ho5.upd ((Upd.refl (fun b => b = w2.heap.size) w5).setCells (p := ⟨w2.heap.size, 0, none⟩) (fun _ => rfl) 0 _) fun b hb hM => ?_
          have := ho5.blk_ge hb; omega
        exact ⟨ho6.mono (by have := e07.size; omega), encPn_len, by decide⟩
      rw [hp]
      exact ⟨(nx + 1, s'), (k6 _ _ _ (by omega) r5).all, (nx, freeM l), r6.all, rfl, o6, rfl, rfl, e6⟩
    have hsz9 : w9.drew.heap.size = w9.heap.size := rfl
    constructor
    · refine CallT.mono (slices_Clone_api_Pin_api_Pin.spec (hs.ext e09) (by omega)) ?_
      rintro t w10 ⟨ht, e10, _⟩
      have p10 := p9.ext e10
      have x10 := x9d.ext e10
      refine ⟨⟨p10, x10⟩, ⟨p10.alloc _, x10.alloc _⟩, ?_⟩
      refine app_pin_new (w0 := w9.drew) (x := (nx, freeM l)) e10 ht (by omega) ?_
      intro s' w11 ho e11 u11
      obtain ⟨f1, f2, f3⟩ := fin w11 s' (e09.tr e11) (p9.ext e11) (x9d.ext e11) (r9.ext e11) (q9.ext e11) ho
      refine ⟨f1, f2, ?_⟩
      obtain ⟨g1, g2, g3⟩ := f3 _ rfl
      exact ⟨g1, g2, g3 _ rfl⟩
    · generalize hc10 : w9.drew.alloc _ = w10
      obtain ⟨b10, e10, z10⟩ := bk_new (vs := encPn (nx, freeM l)) hc10
      refine ⟨⟨p9.ext e10, x9d.ext e10⟩, CallT.mono (slices_Clone_api_Pin_api_Pin.spec (hs.ext (e09.tr e10)) (by omega)) ?_⟩
      rintro t w11 ⟨ht, e11, _⟩
      have e911 := e10.tr e11
      have ht' : OwnS encPn 2 T.api_Pin w11 w9.drew.heap.size t l := ⟨ht.own.mono (by omega), encPn_len, by decide⟩
      refine ⟨⟨p9.ext e911, x9d.ext e911⟩, app_pin_rd (w0 := w9.drew) (x := (nx, freeM l)) e911 ht' (b10.ext e11) (by omega) ?_⟩
      intro s' w12 ho e12 u12
      obtain ⟨f1, f2, f3⟩ := fin w12 s' (e09.tr e12) (p9.ext e12) (x9d.ext e12) (r9.ext e12) (q9.ext e12) ho
      refine ⟨f1, f2, ?_⟩
      obtain ⟨g1, g2, g3⟩ := f3 _ rfl
      exact ⟨g1, g2, g3 _ rfl⟩
end Go.Proofs
