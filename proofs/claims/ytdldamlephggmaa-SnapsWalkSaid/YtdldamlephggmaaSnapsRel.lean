/- The document's Pin; snaps.Release, and the document's. Conditions: those of each contract. -/
import Derived.Test.YtdldamlephggmaaCond2
import Derived.Test.YtdldamlephggmaaSnapsPin
namespace Go.Proofs
open Go Go.Vc
theorem no10 {nx : Int} {l : List Pn} (hr : rightB nx l = true) : hasRoot l 10 = false := by
  obtain ⟨n1, n2, l8, hok⟩ := rightB_iff.1 hr
  have hids := (okL_ids hok (Nat.le_refl _)).2
  rw [List.take_length] at hids
  cases hb : hasRoot l 10 with
  | false => rfl
  | true =>
    unfold hasRoot at hb
    obtain ⟨y, hy, he⟩ := List.any_eq_true.1 hb
    have := hids y hy
    have : y.2 = 10 := by simpa using he
    omega
theorem dunnageref19_Pin.spec {w : World} {nx : Int} {s : SV} {l : List Pn} (hs : RdP w s l) (hl : l.length < 2 ^ 62) :
    CallT [.agg [.int .i64, .slice], .agg [.int .i64, .int .i64], .one (.int .i64)] Try.prog F.dunnageref19_Pin [.agg (PV.vs (nx, s)).toArray] w fun r w' =>
      r.1.1 = (pinF nx l).1.1 ∧ OwnS encPn 2 T.api_Pin w' w.heap.size r.1.2 (pinF nx l).1.2 ∧ r.2.1 = (pinF nx l).2.1 ∧ r.2.2 = (pinF nx l).2.2 ∧ Ext w w' := by
  refine dunnageref19_Pin.vc (nx, s) w _ ?_
  have hsl := hs.len
  dsimp only
  generalize ha : w.alloc _ = w1
  obtain ⟨b1, e1, z1⟩ := bk_new (vs := PV.vs (nx, s)) ha
  generalize hb : w1.alloc _ = w2
  obtain ⟨b2, e2, z2⟩ := bk_new (vs := PV.vs (0, ⟨none, 0, 0⟩)) hb
  generalize hc : w2.alloc _ = w3
  obtain ⟨b3, e3, z3⟩ := bk_new (vs := encPn (0, 0)) hc
  have e03 := (e1.tr e2).tr e3
  have p3 := (b1.ext e2).ext e3
  have r3 := b2.ext e3
  refine ⟨(nx, s), p3.all, CallT.mono (dunnageref19_Right.spec (hs.ext e03) hl) ?_⟩
  rintro _ w4 ⟨rfl, e4⟩
  have e04 := e03.tr e4
  have p4 := p3.ext e4
  have r4 := r3.ext e4
  have q4 := b3.ext e4
  have refuse : ∀ (w' : World) (e : Int), Ext w w' → BK w' w1.heap.size T.api_Pins (PV.vs (0, ⟨none, 0, 0⟩)) → BK w' w2.heap.size T.api_Pin (encPn (0, 0)) → pinF nx l = ((0, []), (0, 0), e) →
      canSt w' ⟨w1.heap.size, 0, none⟩ 2 ∧ canSt (setCells w' ⟨w1.heap.size, 0, none⟩ 0 (PV.vs (0, ⟨none, 0, 0⟩))) ⟨w2.heap.size, 0, none⟩ 2 ∧
        ∃ x : Int × SV, cellsAt (setCells (setCells w' ⟨w1.heap.size, 0, none⟩ 0 (PV.vs (0, ⟨none, 0, 0⟩))) ⟨w2.heap.size, 0, none⟩ 0 (encPn (0, 0))) ⟨w1.heap.size, 0, none⟩ (PV.vs x) ∧
        ∃ y : Int × Int, cellsAt (setCells (setCells w' ⟨w1.heap.size, 0, none⟩ 0 (PV.vs (0, ⟨none, 0, 0⟩))) ⟨w2.heap.size, 0, none⟩ 0 (encPn (0, 0))) ⟨w2.heap.size, 0, none⟩ (encPn y) ∧
          (((x.1, x.2), (y.1, y.2), e) : (Int × SV) × (Int × Int) × Int).1.1 = (pinF nx l).1.1 ∧ OwnS encPn 2 T.api_Pin (setCells (setCells w' ⟨w1.heap.size, 0, none⟩ 0 (PV.vs (0, ⟨none, 0, 0⟩))) ⟨w2.heap.size, 0, none⟩ 0 (encPn (0, 0))) w.heap.size x.2 (pinF nx l).1.2 ∧ y = (pinF nx l).2.1 ∧ e = (pinF nx l).2.2 ∧
          Ext w (setCells (setCells w' ⟨w1.heap.size, 0, none⟩ 0 (PV.vs (0, ⟨none, 0, 0⟩))) ⟨w2.heap.size, 0, none⟩ 0 (encPn (0, 0))) := by
    intro w' e he h2 h3 hp
    generalize hd : setCells w' ⟨w1.heap.size, 0, none⟩ 0 _ = w5
    obtain ⟨c5, r5, e5, z5, k5⟩ := bk_put h2 he (by omega) hd rfl
    generalize hf : setCells w5 ⟨w2.heap.size, 0, none⟩ 0 _ = w6
    obtain ⟨c6, r6, e6, z6, k6⟩ := bk_put (k5 _ _ _ (by omega) h3) e5 (by omega) hf rfl
    rw [hp]
    exact ⟨c5, c6, (0, ⟨none, 0, 0⟩), (k6 _ _ _ (by omega) r5).all, (0, 0), r6.all, rfl, OwnS.nil encPn_len (by decide) _ _ _, rfl, rfl, e6⟩
  refine cnd_not (fun h => ?_) (fun hr => ?_)
  · have hp : pinF nx l = ((0, []), (0, 0), 11) := by rw [pinF, h]; rfl
    exact refuse w4 11 e04 r4 q4 hp
  obtain ⟨n1, n2, l8, hok⟩ := rightB_iff.1 hr
  have hno10 := no10 hr
  refine ⟨fun _ w' => w4 = w' ∧ ¬ (8 ≤ l.length ∨ 4611686018427387904 ≤ nx), ⟨fun b w' => w4 = w' ∧ (b = true ↔ (8 ≤ l.length ∨ 4611686018427387904 ≤ nx)), ⟨s, p4.get 1 rfl, cnd_dec (fun h => ⟨rfl, by simp; omega⟩) (fun h => ⟨nx, p4.get 0 rfl, rfl, by simp; omega⟩)⟩, ?_⟩, ?_⟩
  · rintro b _ _ ⟨rfl, hb⟩
    refine cnd_intro (fun ht => ?_) (fun hf => ⟨rfl, fun h => by rw [hb.2 h] at hf; cases hf⟩)
    have hp : pinF nx l = ((0, []), (0, 0), 3) := by rw [pinF, if_pos hr, if_pos (hb.1 ht)]
    exact refuse w4 3 e04 r4 q4 hp
  rintro _ _ _ ⟨rfl, hroom⟩
  have hp : pinF nx l = ((nx + 1, l ++ [(nx, freeM l)]), (nx, freeM l), 0) := by rw [pinF, if_pos hr, if_neg hroom]
  have hz4 : w2.heap.size < w4.heap.size := q4.lt
  have hl8 : l.length < 8 := by omega
  have hwn : IntKind.i64.wrap (nx + 1) = nx + 1 := by rw [i64_id] <;> omega
  have d4 : Ext w w4.drew := e04.drew
  refine ⟨fun x w' => ∃ c, x = some ⟨c, 0, none⟩ ∧ w4.heap.size ≤ c ∧ Ext w4 w' ∧ BK w' c T.api_Pin (encPn (nx, freeM l)), ⟨fun w' => BK w' w.heap.size T.api_Pins (PV.vs (nx, s)), p4, nx, fun _ h => h.get 0 rfl, (nx, s), fun _ h => h.all, ?_, ?_⟩, ?_⟩
  · refine CallT.mono (dunnageref19_free.spec (hs.ext d4) hl hno10) ?_
    rintro _ w5 ⟨rfl, e5⟩
    have e45 : Ext w4 w5 := (ext_drew w4).tr e5
    generalize hc8 : w5.alloc _ = w6
    generalize hd9 : setCells w6 _ 0 _ = w7
    obtain ⟨c9, x9, e9, z9⟩ := bk_mk (T := T.api_Pin) (z := [.int .i64 0, .int .i64 0]) (vs := encPn (nx, freeM l)) hc8 hd9 rfl
    have e6 : Ext w5 w6 := by rw [← hc8]; exact ext_alloc _ _
    exact ⟨p4.ext e45, (p4.ext e45).ext e6, c9, w5.heap.size, rfl, e45.size, e45.tr e9, x9⟩
  · generalize hc5 : w4.drew.alloc _ = w5
    obtain ⟨b5, e5, z5⟩ := bk_new (vs := encPn (0, 0)) hc5
    have e45 : Ext w4 w5 := (ext_drew w4).tr e5
    refine ⟨p4.ext e45, CallT.mono (dunnageref19_free.spec (hs.ext (e04.tr e45)) hl hno10) ?_⟩
    rintro _ w6 ⟨rfl, e6⟩
    have e46 := e45.tr e6
    generalize hd : setCells w6 _ 0 _ = w7
    obtain ⟨c7, x7, e7, z7, _⟩ := bk_put (us := encPn (nx, freeM l)) (b5.ext e6) e46 (Nat.le_refl _) hd rfl
    exact ⟨p4.ext e46, c7, w4.heap.size, rfl, Nat.le_refl _, e7, x7⟩
  rintro _ _ w7 ⟨cx, rfl, hcx, e47, x7⟩
  have p7 := p4.ext e47
  have r7 := r4.ext e47
  have q7 := q4.ext e47
  have e07 := e04.tr e47
  have x7d : BK w7.drew cx T.api_Pin (encPn (nx, freeM l)) := x7
  have e07d : Ext w w7.drew := e07.drew
  have hcx7 : cx < w7.heap.size := x7.lt
  refine ⟨fun w' => BK w' w.heap.size T.api_Pins (PV.vs (nx, s)) ∧ BK w' cx T.api_Pin (encPn (nx, freeM l)), ⟨p7, x7d⟩, nx, fun _ h => h.1.get 0 rfl, s, fun _ h => h.1.get 1 rfl, (nx, freeM l), fun _ h => h.2.all, (nx, freeM l), fun _ h => h.2.all, ?_⟩
  rw [hwn]
  have fin : ∀ (w' : World) (s' : SV), Ext w w' → BK w' w.heap.size T.api_Pins (PV.vs (nx, s)) → BK w' cx T.api_Pin (encPn (nx, freeM l)) → BK w' w1.heap.size T.api_Pins (PV.vs (0, ⟨none, 0, 0⟩)) → BK w' w2.heap.size T.api_Pin (encPn (0, 0)) →
      OwnS encPn 2 T.api_Pin w' w7.heap.size s' (l ++ [(nx, freeM l)]) →
      (BK w' w.heap.size T.api_Pins (PV.vs (nx, s)) ∧ BK w' cx T.api_Pin (encPn (nx, freeM l))) ∧ canSt w' ⟨w1.heap.size, 0, none⟩ 2 ∧ ∀ w5, setCells w' ⟨w1.heap.size, 0, none⟩ 0 (PV.vs (nx + 1, s')) = w5 →
        (BK w5 w.heap.size T.api_Pins (PV.vs (nx, s)) ∧ BK w5 cx T.api_Pin (encPn (nx, freeM l))) ∧ canSt w5 ⟨w2.heap.size, 0, none⟩ 2 ∧ ∀ w6, setCells w5 ⟨w2.heap.size, 0, none⟩ 0 (encPn (nx, freeM l)) = w6 →
          ∃ x : Int × SV, cellsAt w6 ⟨w1.heap.size, 0, none⟩ (PV.vs x) ∧ ∃ y : Int × Int, cellsAt w6 ⟨w2.heap.size, 0, none⟩ (encPn y) ∧
            x.1 = (pinF nx l).1.1 ∧ OwnS encPn 2 T.api_Pin w6 w.heap.size x.2 (pinF nx l).1.2 ∧ y = (pinF nx l).2.1 ∧ (0 : Int) = (pinF nx l).2.2 ∧ Ext w w6 := by
    intro w' s' he hpp hx hr' hq ho
    refine ⟨⟨hpp, hx⟩, hr'.can (by decide), fun w5 hd => ?_⟩
    obtain ⟨c5, r5, e5, z5, k5⟩ := bk_put hr' he (by omega) hd rfl
    refine ⟨⟨k5 _ _ _ (by omega) hpp, k5 _ _ _ (by omega) hx⟩, (k5 _ _ _ (by omega) hq).can (by decide), fun w6 hf => ?_⟩
    obtain ⟨c6, r6, e6, z6, k6⟩ := bk_put (k5 _ _ _ (by omega) hq) e5 (by omega) hf rfl
    have o6 : OwnS encPn 2 T.api_Pin w6 w.heap.size s' (l ++ [(nx, freeM l)]) := by
      have ho5 : Own w5 w7.heap.size T.api_Pin 2 s' ((l ++ [(nx, freeM l)]).flatMap encPn) := by
        rw [← hd]
        refine ho.own.upd ((Upd.refl (fun b => b = w1.heap.size) w').setCells (p := ⟨w1.heap.size, 0, none⟩) (fun _ => rfl) 0 _) fun b hb hM => ?_
        have := ho.own.blk_ge hb; omega
      have ho6 : Own w6 w7.heap.size T.api_Pin 2 s' ((l ++ [(nx, freeM l)]).flatMap encPn) := by
        rw [← hf]
        refine ho5.upd ((Upd.refl (fun b => b = w2.heap.size) w5).setCells (p := ⟨w2.heap.size, 0, none⟩) (fun _ => rfl) 0 _) fun b hb hM => ?_
        have := ho5.blk_ge hb; omega
      exact ⟨ho6.mono (by have := e07.size; omega), encPn_len, by decide⟩
    rw [hp]
    exact ⟨(nx + 1, s'), (k6 _ _ _ (by omega) r5).all, (nx, freeM l), r6.all, rfl, o6, rfl, rfl, e6⟩
  have hsz7 : w7.drew.heap.size = w7.heap.size := rfl
  constructor
  · refine app_rd (w0 := w7.drew) (s := ⟨none, 0, 0⟩) (cs := []) app_api_Pin (Upd.refl (fun _ => False) w7.drew) (Own.nil _ _ _ _) (hs.ext e07d).rd (one_api_Pin _) (fun hlt => ?_) ?_
    · simp only [Nat.zero_add] at hlt ⊢
      rw [nextcap_zero hlt]; omega
    intro t w10 ht e10 hlt _
    have ht' : OwnS encPn 2 T.api_Pin w10 w7.drew.heap.size t l := ⟨by simpa using ht, encPn_len, by decide⟩
    have p10 := p7.ext ((ext_drew w7).tr e10)
    have x10 := x7d.ext e10
    refine ⟨⟨p10, x10⟩, ⟨p10.alloc _, x10.alloc _⟩, ?_⟩
    refine app_pin_new (w0 := w7.drew) (x := (nx, freeM l)) e10 ht' (by omega) ?_
    intro s' w11 ho e11 u11
    have e711 : Ext w7 w11 := (ext_drew w7).tr e11
    obtain ⟨f1, f2, f3⟩ := fin w11 s' (e07.tr e711) (p7.ext e711) (x7.ext e711) (r7.ext e711) (q7.ext e711) ho
    refine ⟨f1, f2, ?_⟩
    obtain ⟨g1, g2, g3⟩ := f3 _ rfl
    exact ⟨g1, g2, g3 _ rfl⟩
  · generalize hc10 : w7.drew.alloc _ = w10
    obtain ⟨b10, e10, z10⟩ := bk_new (vs := encPn (nx, freeM l)) hc10
    have e710 : Ext w7 w10 := (ext_drew w7).tr e10
    refine ⟨⟨p7.ext e710, x7.ext e710⟩, app_rd (w0 := w10) (s := ⟨none, 0, 0⟩) (cs := []) app_api_Pin (Upd.refl (fun _ => False) w10) (Own.nil _ _ _ _) (hs.ext (e07.tr e710)).rd (one_api_Pin _) (fun hlt => ?_) ?_⟩
    · simp only [Nat.zero_add] at hlt ⊢
      rw [nextcap_zero hlt]; omega
    intro t w11 ht e11 hlt _
    have ht0 : Own w11 w10.heap.size T.api_Pin 2 t (l.flatMap encPn) := by simpa using ht
    have ht' : OwnS encPn 2 T.api_Pin w11 w7.drew.heap.size t l := ⟨ht0.mono (by omega), encPn_len, by decide⟩
    have e711 : Ext w7 w11 := e710.tr e11
    refine ⟨⟨p7.ext e711, x7.ext e711⟩, app_pin_rd (w0 := w7.drew) (x := (nx, freeM l)) (e10.tr e11) ht' (b10.ext e11) (by omega) ?_⟩
    intro s' w12 ho e12 u12
    have e712 : Ext w7 w12 := (ext_drew w7).tr e12
    obtain ⟨f1, f2, f3⟩ := fin w12 s' (e07.tr e712) (p7.ext e712) (x7.ext e712) (r7.ext e712) (q7.ext e712) ho
    refine ⟨f1, f2, ?_⟩
    obtain ⟨g1, g2, g3⟩ := f3 _ rfl
    exact ⟨g1, g2, g3 _ rfl⟩
/-! ### Release -/
theorem snaps_Release_1.spec {w : World} {b : Nat} {r : Int} (hb : BK w b T.int [.int .i64 r]) (x : Pn) :
    CallT [.one .bool] Try.prog F.snaps_Release_1 [.agg (encPn x).toArray, .pointer (some ⟨b, 0, none⟩)] w fun q w' => q = (x.1 == r) ∧ Ext w w' := by
  refine snaps_Release_1.vc x (some ⟨b, 0, none⟩) w _ ?_
  dsimp only
  generalize ha : w.alloc _ = w1
  obtain ⟨b1, e1, z1⟩ := bk_new (vs := encPn x) ha
  exact ⟨x.1, b1.get 0 rfl, r, (hb.ext e1).get0 rfl, rfl, e1⟩
theorem root_rel {nx : Int} {l : List Pn} {id : Int} (hr : rightB nx l = true) : ((rootF nx l id).2 = false ∧ relF nx l id = ((0, []), 0, 6)) ∨ ((rootF nx l id).2 = true ∧ relF nx l id = ((nx, l.filter fun x => !(x.1 == id)), (rootF nx l id).1, 0)) := by
  unfold rootF relF
  rw [if_pos hr, if_pos hr]
  cases l.find? fun x => x.1 == id with
  | none => exact .inl ⟨rfl, rfl⟩
  | some x => exact .inr ⟨rfl, rfl⟩
/-- What is told of a table: put into the result's variable. -/
theorem pins_put {w0 w1 : World} {b B : Nat} {vs : List Value} {nx : Int} {s : SV} {l : List Pn} (h : BK w1 b T.api_Pins vs) (hv : vs.length = 2) (he : Ext w0 w1) (hb : w0.heap.size ≤ b) (ho : OwnS encPn 2 T.api_Pin w1 B s l) (hB : w0.heap.size ≤ B) (hne : ∀ c, s.blk c → c ≠ b) :
    canSt w1 ⟨b, 0, none⟩ 2 ∧ ∃ x : Int × SV, cellsAt (setCells w1 ⟨b, 0, none⟩ 0 (PV.vs (nx, s))) ⟨b, 0, none⟩ (PV.vs x) ∧
      x.1 = nx ∧ OwnS encPn 2 T.api_Pin (setCells w1 ⟨b, 0, none⟩ 0 (PV.vs (nx, s))) w0.heap.size x.2 l ∧ Ext w0 (setCells w1 ⟨b, 0, none⟩ 0 (PV.vs (nx, s))) := by
  generalize hd : setCells w1 ⟨b, 0, none⟩ 0 (PV.vs (nx, s)) = w2
  obtain ⟨c2, r2, e2, z2, k2⟩ := bk_put h he hb hd (by rw [hv]; rfl)
  refine ⟨c2, (nx, s), r2.all, rfl, ⟨Own.mono ?_ hB, encPn_len, by decide⟩, e2⟩
  rw [← hd]
  exact ho.own.upd ((Upd.refl (fun c => c = b) w1).setCells (p := ⟨b, 0, none⟩) (fun _ => rfl) 0 _) fun c hc hM => hne c hc hM
theorem snaps_Release.spec {w : World} {nx : Int} {s : SV} {l : List Pn} (hs : RdP w s l) (hl : l.length < 2 ^ 62) (id : Int) :
    CallT [.agg [.int .i64, .slice], .one (.int .i64), .one (.int .i64)] Try.prog F.snaps_Release [.agg (PV.vs (nx, s)).toArray, .int .i64 id] w fun r w' =>
      r.1.1 = (relF nx l id).1.1 ∧ OwnS encPn 2 T.api_Pin w' w.heap.size r.1.2 (relF nx l id).1.2 ∧ r.2 = (relF nx l id).2 ∧ Ext w w' := by
  refine snaps_Release.vc (nx, s) id w _ ?_
  have hsl := hs.len
  dsimp only
  generalize ha : w.alloc _ = w1
  obtain ⟨b1, e1, z1⟩ := bk_new (vs := PV.vs (nx, s)) ha
  generalize hb : w1.alloc _ = w2
  obtain ⟨b2, e2, z2⟩ := bk_new (vs := [.int .i64 id]) hb
  generalize hc : w2.alloc _ = w3
  obtain ⟨b3, e3, z3⟩ := bk_new (vs := PV.vs (0, ⟨none, 0, 0⟩)) hc
  have e03 := (e1.tr e2).tr e3
  have p3 := (b1.ext e2).ext e3
  have i3 := b2.ext e3
  refine ⟨(nx, s), p3.all, CallT.mono (snaps_Check.spec (hs.ext e03) hl) ?_⟩
  rintro _ w4 ⟨rfl, e4⟩
  have e04 := e03.tr e4
  have p4 := p3.ext e4
  have i4 := i3.ext e4
  have r4 := b3.ext e4
  refine cnd_bne (fun h => ?_) (fun h => ?_)
  · have hr : rightB nx l = false := by
      cases hb : rightB nx l with
      | true => rw [hb] at h; simp at h
      | false => rfl
    have hp : relF nx l id = ((0, []), 0, 11) := by rw [relF, hr]; rfl
    rw [hr, hp]
    obtain ⟨c5, x, g1, g2, g3, g4⟩ := pins_put (w0 := w) (nx := 0) (s := ⟨none, 0, 0⟩) (B := w.heap.size) r4 rfl e04 (by omega) (OwnS.nil encPn_len (by decide) _ _ _) (Nat.le_refl _) (fun c hc => by obtain ⟨A, hA, _⟩ := hc; simp at hA)
    exact ⟨c5, x, g1, g2, g3, rfl, g4⟩
  have hr : rightB nx l = true := by
    cases hb : rightB nx l with
    | true => rfl
    | false => rw [hb] at h; simp at h
  refine ⟨(nx, s), p4.all, id, i4.get0 rfl, CallT.mono (snaps_Root.spec (hs.ext e04) hl id) ?_⟩
  rintro _ w5 ⟨rfl, e5⟩
  have e05 := e04.tr e5
  have e45 := e5
  obtain ⟨n1, n2, l8, hok⟩ := rightB_iff.1 hr
  rcases root_rel (id := id) hr with ⟨hf, hp⟩ | ⟨ht, hp⟩
  · rw [hp]
    refine cnd_pos (by rw [hf]; rfl) ?_
    obtain ⟨c5, x, g1, g2, g3, g4⟩ := pins_put (w0 := w) (nx := 0) (s := ⟨none, 0, 0⟩) (B := w.heap.size) (r4.ext e5) rfl e05 (by omega) (OwnS.nil encPn_len (by decide) _ _ _) (Nat.le_refl _) (fun c hc => by obtain ⟨A, hA, _⟩ := hc; simp at hA)
    exact ⟨c5, x, g1, g2, g3, rfl, g4⟩
  · rw [hp]
    refine cnd_neg (by rw [ht]; rfl) ⟨s, (p4.ext e5).get 1 rfl, CallT.mono (slices_Clone_api_Pin_api_Pin.spec (hs.ext e05) (by omega)) ?_⟩
    rintro t w6 ⟨h6, e6, _⟩
    have e46 := e5.tr e6
    have hsz : w2.heap.size < w5.heap.size := (r4.ext e5).lt
    have hge : ∀ c, t.blk c → w5.heap.size ≤ c := fun c hc => h6.own.blk_ge hc
    refine CallT.mono (slices_DeleteFunc_api_Pin_api_Pin.spec (p := fun x => x.1 == id) h6 (by omega) fun x w' u => snaps_Release_1.spec ((i4.ext e46).upd u fun hc => by have := hge _ hc; omega) x) ?_
    rintro o w7 ⟨h7, u7⟩
    have e07 : Ext w w7 := (e05.tr e6).trans u7 fun b hb hc => by have := hge b hc; have := e05.size; omega
    have p7 := (p4.ext e46).upd u7 fun hc => by have := hge _ hc; omega
    have r7 := (r4.ext e46).upd u7 fun hc => by have := hge _ hc; omega
    obtain ⟨c5, x, g1, g2, g3, g4⟩ := pins_put (w0 := w) (nx := nx) (s := o) (B := w5.heap.size) r7 rfl e07 (by omega) h7 (by have := e05.size; omega) (fun c hc => by have := h7.own.blk_ge hc; omega)
    exact ⟨nx, p7.get 0 rfl, c5, x, g1, g2, g3, rfl, g4⟩
theorem dunnageref19_Release.spec {w : World} {nx : Int} {s : SV} {l : List Pn} (hs : RdP w s l) (hl : l.length < 2 ^ 62) (id : Int) :
    CallT [.agg [.int .i64, .slice], .one (.int .i64), .one (.int .i64)] Try.prog F.dunnageref19_Release [.agg (PV.vs (nx, s)).toArray, .int .i64 id] w fun r w' =>
      r.1.1 = (relF nx l id).1.1 ∧ OwnS encPn 2 T.api_Pin w' w.heap.size r.1.2 (relF nx l id).1.2 ∧ r.2 = (relF nx l id).2 ∧ Ext w w' := by
  refine dunnageref19_Release.vc (nx, s) id w _ ?_
  have hsl := hs.len
  dsimp only
  generalize ha : w.alloc _ = w1
  obtain ⟨b1, e1, z1⟩ := bk_new (vs := PV.vs (nx, s)) ha
  generalize hc : w1.alloc _ = w3
  obtain ⟨b3, e3, z3⟩ := bk_new (vs := PV.vs (0, ⟨none, 0, 0⟩)) hc
  have e03 := e1.tr e3
  have p3 := b1.ext e3
  refine ⟨(nx, s), p3.all, CallT.mono (dunnageref19_Right.spec (hs.ext e03) hl) ?_⟩
  rintro _ w4 ⟨rfl, e4⟩
  have e04 := e03.tr e4
  have p4 := p3.ext e4
  have r4 := b3.ext e4
  refine cnd_not (fun h => ?_) (fun hr => ?_)
  · have hp : relF nx l id = ((0, []), 0, 11) := by rw [relF, h]; rfl
    rw [hp]
    obtain ⟨c5, x, g1, g2, g3, g4⟩ := pins_put (w0 := w) (nx := 0) (s := ⟨none, 0, 0⟩) (B := w.heap.size) r4 rfl e04 (by omega) (OwnS.nil encPn_len (by decide) _ _ _) (Nat.le_refl _) (fun c hc => by obtain ⟨A, hA, _⟩ := hc; simp at hA)
    exact ⟨c5, x, g1, g2, g3, rfl, g4⟩
  refine ⟨(nx, s), p4.all, CallT.mono (dunnageref19_Root.spec (hs.ext e04) hl id) ?_⟩
  rintro _ w5 ⟨rfl, e5⟩
  have e05 := e04.tr e5
  have p5 := p4.ext e5
  have r5 := r4.ext e5
  obtain ⟨n1, n2, l8, hok⟩ := rightB_iff.1 hr
  rcases root_rel (id := id) hr with ⟨hf, hp⟩ | ⟨ht, hp⟩
  · rw [hp]
    refine cnd_pos (by rw [hf]; rfl) ?_
    obtain ⟨c5, x, g1, g2, g3, g4⟩ := pins_put (w0 := w) (nx := 0) (s := ⟨none, 0, 0⟩) (B := w.heap.size) r5 rfl e05 (by omega) (OwnS.nil encPn_len (by decide) _ _ _) (Nat.le_refl _) (fun c hc => by obtain ⟨A, hA, _⟩ := hc; simp at hA)
    exact ⟨c5, x, g1, g2, g3, rfl, g4⟩
  · rw [hp]
    refine cnd_neg (by rw [ht]; rfl) ⟨fun n x w' => ∃ i : Nat, x.2 = (i : Int) ∧ i ≤ l.length ∧ n = l.length - i ∧ OwnS encPn 2 T.api_Pin w' w5.heap.size x.1 ((l.take i).filter fun x => !(x.1 == id)) ∧ Ext w5 w', ⟨_, 0, rfl, by omega, rfl, OwnS.nil encPn_len (by decide) _ _ _, Upd.refl _ _⟩, ?_⟩
    rintro n ⟨o, i'⟩ _ w6 ⟨i, h2, hi, rfl, ho, e6⟩
    dsimp only at h2 ho ⊢
    subst h2
    have e06 := e05.tr e6
    have p6 := p5.ext e6
    refine ⟨s, p6.get 1 rfl, cnd_dec (fun hlt => ?_) (fun hge => ?_)⟩
    · have hil : i < l.length := by omega
      have hx : l[i]? = some l[i] := List.getElem?_eq_getElem hil
      generalize l[i] = x at hx
      have hw : IntKind.i64.wrap ((i : Int) + 1) = ((i + 1 : Nat) : Int) := by rw [i64_id] <;> omega
      have hfl : ((l.take i).filter fun x => !(x.1 == id)).length ≤ 8 := Nat.le_trans (List.length_filter_le _ _) (by rw [List.length_take]; omega)
      refine ⟨s, p6.get 1 rfl, by omega, by omega, hs.get hil fun A hA => ⟨x.1, (hs.ext e06).fld hx hA (k := 0) rfl, ?_⟩⟩
      refine cnd_bne (fun h => ⟨s, p6.get 1 rfl, by omega, by omega, hs.get hil fun A' hA' => ⟨x, (hs.ext e06).at_ hx hA', ?_⟩⟩) (fun h => ⟨l.length - (i + 1), by omega, i + 1, hw, by omega, rfl, ?_, e6⟩)
      · refine app_pin_new (x := x) e6 ho (by omega) ?_
        intro s' w7 ho7 e7 _
        refine ⟨l.length - (i + 1), by omega, i + 1, hw, by omega, rfl, ?_, e7⟩
        rw [take_snoc hx, List.filter_append]
        simpa [h] using ho7
      · rw [take_snoc hx, List.filter_append]
        simpa [h] using ho
    · have : i = l.length := by omega
      subst this
      rw [List.take_length] at ho
      have hlt5 := r5.lt
      obtain ⟨c5, x, g1, g2, g3, g4⟩ := pins_put (w0 := w) (nx := nx) (s := o) (B := w5.heap.size) (r5.ext e6) rfl e06 (by omega) ho (by have := e05.size; omega) (fun c hc => by have := ho.own.blk_ge hc; omega)
      exact ⟨nx, p6.get 0 rfl, c5, x, g1, g2, g3, rfl, g4⟩
end Go.Proofs
