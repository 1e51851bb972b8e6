/- The walk of dunnagelaw19.SnapsTell: it answers true, and turns nothing that was there. Conditions: none. -/
import Derived.Test.YtdldamlephggmaaCond0
import Derived.Test.YtdldamlephggmaaCond2
import Derived.Test.YtdldamlephggmaaSnapsRel
namespace Go.Proofs
open Go Go.Vc
theorem dunnagehelp_Pins.spec {w : World} {nx : Int} {s t : SV} {l : List Pn} (hs : RdP w s l) (ht : RdP w t l) (hl : l.length < 2 ^ 62) :
    CallT [.one .bool] Try.prog F.dunnagehelp_Pins [.agg (PV.vs (nx, s)).toArray, .agg (PV.vs (nx, t)).toArray] w fun r w' => r = true ∧ Ext w w' := by
  refine dunnagehelp_Pins.vc (nx, s) (nx, t) w _ ?_
  dsimp only
  generalize ha : w.alloc _ = w1
  obtain ⟨b1, e1, z1⟩ := bk_new (vs := PV.vs (nx, s)) ha
  generalize hb : w1.alloc _ = w2
  obtain ⟨b2, e2, z2⟩ := bk_new (vs := PV.vs (nx, t)) hb
  have e02 := e1.tr e2
  refine ⟨nx, (b1.ext e2).get 0 rfl, nx, b2.get 0 rfl, cnd_pos (by simp) ⟨s, (b1.ext e2).get 1 rfl, t, b2.get 1 rfl, ?_⟩⟩
  refine CallT.mono (dunnagehelp_Plain_api_Pin.spec (hs.ext e02) (ht.ext e02) hl) ?_
  rintro _ w3 ⟨rfl, e3⟩
  exact ⟨by simp, e02.tr e3⟩
theorem pin_one : pinF 1 [] = ((2, [(1, 1)]), (1, 1), 0) := by
  have h : rightB 1 [] = true := rfl
  rw [pinF, if_pos h, if_neg (by decide)]; rfl
theorem dunnagelaw19_awake.spec (w : World) : CallT [.one .bool] Try.prog F.dunnagelaw19_awake [] w fun r w' => r = true ∧ Ext w w' := by
  refine dunnagelaw19_awake.vc w _ ?_
  refine CallT.mono (snaps_Pin.spec (nx := 1) (s := ⟨none, 0, 0⟩) (l := []) (RdS.nil encPn_len (by decide) _ _) (by decide)) ?_
  rintro ⟨⟨n1, s1⟩, x1, e1⟩ w1 ⟨h1, h2, h3, h4, u1⟩
  rw [pin_one] at h1 h2 h3 h4
  dsimp only at h1 h2 h3 h4 ⊢
  subst h1 h3 h4
  generalize ha : w1.alloc _ = w2
  generalize hb : w2.alloc _ = w3
  generalize hc : setCells w3 _ 0 _ = w4
  generalize hd : setCells w4 _ 0 _ = w5
  obtain ⟨c1, c2, b1, b2, e5, z1, z5⟩ := two_mk (y1 := PV.vs (0, ⟨none, 0, 0⟩)) (u1 := PV.vs (2, s1)) (y2 := encPn (0, 0)) (u2 := encPn (1, 1)) ha hb hc hd rfl rfl
  refine ⟨c1, c2, cnd_pos rfl ⟨(1, 1), b2.all, cnd_pos rfl ?_⟩⟩
  refine CallT.mono (snaps_Check.spec (nx := 0) (s := ⟨none, 0, 0⟩) (l := []) (RdS.nil encPn_len (by decide) _ _) (by decide)) ?_
  rintro _ w6 ⟨rfl, e6⟩
  exact ⟨rfl, (u1.tr e5).tr e6⟩
/-- Elements of a slice of one's own are wiped. -/
theorem wipe_step {w w' : World} {s : SV} {l : List Pn} {B i : Nat} {A : Addr} (h : OwnS encPn 2 T.api_Pin w' B s l) (hi : i < l.length) (hA : s.a = some A) (u : Upd s.blk w w') :
    canSt w' (A.add (((i : Int).toNat) * 2)) 2 ∧ OwnS encPn 2 T.api_Pin (setCells w' (A.add (((i : Int).toNat) * 2)) 0 (encPn (0, 0))) B s (l.set i (0, 0)) ∧ Upd s.blk w (setCells w' (A.add (((i : Int).toNat) * 2)) 0 (encPn (0, 0))) := by
  rw [Int.toNat_natCast]
  obtain ⟨a, b, c, d⟩ := h.setx hi hA (0, 0)
  exact ⟨a, b, u.tr d⟩
theorem dunnagelaw19_SnapsTell.spec {w : World} {nx : Int} {s : SV} {l : List Pn} (hs : RdP w s l) (hl : l.length * 16 ≤ 140737488351232) (id : Int) :
    CallT [.one .bool] Try.prog F.dunnagelaw19_SnapsTell [.agg (PV.vs (nx, s)).toArray, .int .i64 id] w fun r w' => r = true ∧ Ext w w' := by
  refine dunnagelaw19_SnapsTell.vc (nx, s) id w _ ?_
  have hsl := hs.len
  have hl62 : l.length < 2 ^ 62 := by omega
  dsimp only
  generalize ha : w.alloc _ = w1
  obtain ⟨b1, e1, z1⟩ := bk_new (vs := PV.vs (nx, s)) ha
  have b1d : BK w1.drew w.heap.size T.api_Pins (PV.vs (nx, s)) := b1
  have e1d : Ext w w1.drew := e1.drew
  refine ⟨fun x w' => ∃ c, x = some ⟨c, 0, none⟩ ∧ w1.heap.size ≤ c ∧ Ext w1 w' ∧ ∃ (o : SV) (g : Nat), BK w' c T.api_Pins (PV.vs (nx, o)) ∧ Spare w' w1.heap.size T.api_Pin 2 o g (l.flatMap encPn) (reps 3 (encPn (71, 0))), ⟨fun w' => BK w' w.heap.size T.api_Pins (PV.vs (nx, s)), b1d, nx, fun _ h => h.get 0 rfl, s, fun _ h => h.get 1 rfl, ?_, ?_⟩, ?_⟩
  · refine CallT.mono (dunnagehelp_Own_api_Pin.spec (hs.ext e1d) hl (71, 0)) ?_
    rintro o w2 ⟨ol, oc, e2, g, ho⟩
    have e12 : Ext w1 w2 := (ext_drew w1).tr e2
    generalize hb : w2.alloc _ = w3
    generalize hc : setCells w3 _ 0 _ = w4
    obtain ⟨c4, b4, e4, z4⟩ := bk_mk (T := T.api_Pins) (z := PV.vs (0, ⟨none, 0, 0⟩)) (vs := PV.vs (nx, o)) hb hc rfl
    have e3 : Ext w2 w3 := by rw [← hb]; exact ext_alloc _ _
    exact ⟨b1.ext e12, (b1.ext e12).ext e3, c4, w2.heap.size, rfl, e12.size, e12.tr e4, o, g, b4, ho.ext e4⟩
  · generalize hb : w1.drew.alloc _ = w2
    obtain ⟨b2, e2, z2⟩ := bk_new (vs := PV.vs (0, ⟨none, 0, 0⟩)) hb
    have e12 : Ext w1 w2 := (ext_drew w1).tr e2
    refine ⟨b1.ext e12, CallT.mono (dunnagehelp_Own_api_Pin.spec (hs.ext (e1.tr e12)) hl (71, 0)) ?_⟩
    rintro o w3 ⟨ol, oc, e3, g, ho⟩
    have e13 := e12.tr e3
    generalize hc : setCells w3 _ 0 _ = w4
    obtain ⟨c4, b4, e4, z4, k4⟩ := bk_put (us := PV.vs (nx, o)) (b2.ext e3) e13 (Nat.le_refl _) hc rfl
    have hz2 : w2.heap.size = w1.heap.size + 1 := z2
    have hge := ho.ge
    have ho4 : Spare w4 w1.heap.size T.api_Pin 2 o g (l.flatMap encPn) (reps 3 (encPn (71, 0))) := by
      refine (Spare.upd (M := fun c => c = w1.heap.size) (ho.mono (by omega)) ?_ (by omega))
      rw [← hc]
      exact (Upd.refl (fun c => c = w1.heap.size) w3).setCells (p := ⟨w1.drew.heap.size, 0, none⟩) (fun _ => rfl) 0 _
    exact ⟨b1.ext e13, c4, w1.heap.size, rfl, Nat.le_refl _, e4, o, g, b4, ho4⟩
  rintro _ _ w2 ⟨c, rfl, hc, e12, o, g, bc, ho⟩
  have e02 := e1.tr e12
  have bp := b1.ext e12
  have hin : RdP w2 o l := ⟨ho.rd, encPn_len, by decide⟩
  have hcl := bc.lt
  have hgl := ho.lt
  refine ⟨fun v w' => Ext w2 w' ∧ v = if rightB nx l = true then 0 else 11, ⟨(nx, s), bp.all, CallT.mono (dunnageref19_Right.spec (hs.ext e02) hl62) ?_⟩, ?_⟩
  · rintro _ w3 ⟨rfl, e3⟩
    exact cnd_not (fun h => ⟨e3, by rw [h]; rfl⟩) (fun h => ⟨e3, by rw [h]; rfl⟩)
  rintro _ _ w3 ⟨e23, rfl⟩
  have e03 := e02.tr e23
  refine ⟨(nx, o), (bc.ext e23).all, CallT.mono (snaps_Pin.spec (hin.ext e23) hl62) ?_⟩
  rintro ⟨⟨n3, s3⟩, x3, er3⟩ w4 ⟨h1, h2, h3, h4, e34⟩
  dsimp only at h1 h2 h3 h4 ⊢
  subst h1 h3 h4
  generalize ha5 : w4.alloc _ = w5
  generalize ha6 : w5.alloc _ = w6
  generalize ha7 : setCells w6 _ 0 _ = w7
  generalize ha8 : setCells w7 _ 0 _ = w8
  obtain ⟨ca, cx, ba, bx, e48, z5, z8⟩ := two_mk (y1 := PV.vs (0, ⟨none, 0, 0⟩)) (u1 := PV.vs ((pinF nx l).1.1, s3)) (y2 := encPn (0, 0)) (u2 := encPn (pinF nx l).2.1) ha5 ha6 ha7 ha8 rfl rfl
  have e28 := (e23.tr e34).tr e48
  have e08 := e02.tr e28
  have o8 := h2.ext e48
  refine ⟨ca, cx, (nx, s), (bp.ext e28).all, CallT.mono (dunnageref19_Pin.spec (hs.ext e08) hl62) ?_⟩
  rintro ⟨⟨n9, s9⟩, x9, er9⟩ w9 ⟨h1, h5, h3, h4, e89⟩
  dsimp only at h1 h5 h3 h4 ⊢
  subst h1 h3 h4
  generalize ha10 : w9.alloc _ = w10
  generalize ha11 : w10.alloc _ = w11
  generalize ha12 : setCells w11 _ 0 _ = w12
  generalize ha13 : setCells w12 _ 0 _ = w13
  obtain ⟨cb, cy, bb, by_, e913, z10, z13⟩ := two_mk (y1 := PV.vs (0, ⟨none, 0, 0⟩)) (u1 := PV.vs ((pinF nx l).1.1, s9)) (y2 := encPn (0, 0)) (u2 := encPn (pinF nx l).2.1) ha10 ha11 ha12 ha13 rfl rfl
  have e8_13 := e89.tr e913
  have e2_13 := e28.tr e8_13
  refine ⟨cb, cy, (nx, o), (bc.ext e2_13).all, CallT.mono (snaps_Release.spec (hin.ext e2_13) hl62 id) ?_⟩
  rintro ⟨⟨n14, s14⟩, x14, er14⟩ w14 ⟨h1, h6, h3, e1314⟩
  dsimp only at h1 h6 ⊢
  subst h1
  generalize ha15 : w14.alloc _ = w15
  generalize ha16 : setCells w15 _ 0 _ = w16
  obtain ⟨cc, bcc, e1416, z16⟩ := bk_mk (T := T.api_Pins) (z := PV.vs (0, ⟨none, 0, 0⟩)) (vs := PV.vs ((relF nx l id).1.1, s14)) ha15 ha16 rfl
  have e1316 := e1314.tr e1416
  have e2_16 := e2_13.tr e1316
  refine ⟨cc, (nx, s), (bp.ext e2_16).all, CallT.mono (dunnageref19_Release.spec (hs.ext (e02.tr e2_16)) hl62 id) ?_⟩
  rintro ⟨⟨n17, s17⟩, x17, er17⟩ w17 ⟨h1, h7, h8, e1617⟩
  dsimp only at h1 h7 ⊢
  subst h1
  generalize ha18 : w17.alloc _ = w18
  generalize ha19 : setCells w18 _ 0 _ = w19
  obtain ⟨cd, bd, e1719, z19⟩ := bk_mk (T := T.api_Pins) (z := PV.vs (0, ⟨none, 0, 0⟩)) (vs := PV.vs ((relF nx l id).1.1, s17)) ha18 ha19 rfl
  have e1619 := e1617.tr e1719
  have e2_19 := e2_16.tr e1619
  refine ⟨cd, (nx, o), (bc.ext e2_19).all, CallT.mono (snaps_Root.spec (hin.ext e2_19) hl62 id) ?_⟩
  rintro _ w20 ⟨rfl, e1920⟩
  have e2_20 := e2_19.tr e1920
  refine ⟨(nx, s), (bp.ext e2_20).all, CallT.mono (dunnageref19_Root.spec (hs.ext (e02.tr e2_20)) hl62 id) ?_⟩
  rintro _ w21 ⟨rfl, e2021⟩
  have e2_21 := e2_20.tr e2021
  have e4_21 := (e48.tr e8_13).tr (((e1316.tr e1619).tr e1920).tr e2021)
  have e8_21 := e8_13.tr (((e1316.tr e1619).tr e1920).tr e2021)
  have e13_21 := ((e1316.tr e1619).tr e1920).tr e2021
  have e14_21 := e1416.tr ((e1619.tr e1920).tr e2021)
  have e16_21 := (e1619.tr e1920).tr e2021
  have e17_21 := (e1719.tr e1920).tr e2021
  have e19_21 := e1920.tr e2021
  have hpl : (pinF nx l).1.2.length < 2 ^ 62 := by
    unfold pinF
    split
    · split
      · simp
      · simp; omega
    · simp
  have hrl : (relF nx l id).1.2.length < 2 ^ 62 := by
    unfold relF
    split
    · split
      · exact Nat.lt_of_le_of_lt (List.length_filter_le _ _) hl62
      · simp
    · simp
  refine ⟨fun _ w' => Ext w21 w', ?_, ?_⟩
  · refine CallT.mono (dunnagelaw19_awake.spec w21) ?_
    rintro _ w22 ⟨rfl, e22⟩
    refine cnd_neg rfl ⟨(nx, o), (bc.ext (e2_21.tr e22)).all, CallT.mono (snaps_Check.spec (hin.ext (e2_21.tr e22)) hl62) ?_⟩
    rintro _ w23 ⟨rfl, e23'⟩
    have f := e22.tr e23'
    refine cnd_bne (fun h => absurd rfl h) (fun _ => ⟨((pinF nx l).1.1, s3), (ba.ext (e8_21.tr f)).all, ((pinF nx l).1.1, s9), (bb.ext (e13_21.tr f)).all, ?_⟩)
    refine CallT.mono (dunnagehelp_Pins.spec (h2.ext (e4_21.tr f)).rd (h5.ext (e913.tr (e13_21.tr f))).rd hpl) ?_
    rintro _ w24 ⟨rfl, e24⟩
    have f2 := f.tr e24
    refine cnd_neg rfl ⟨(pinF nx l).2.1, (bx.ext (e8_21.tr f2)).all, (pinF nx l).2.1, (by_.ext (e13_21.tr f2)).all, cnd_neg (by simp) (cnd_neg (by simp) ⟨((relF nx l id).1.1, s14), (bcc.ext (e16_21.tr f2)).all, ((relF nx l id).1.1, s17), (bd.ext (e19_21.tr f2)).all, ?_⟩)⟩
    refine CallT.mono (dunnagehelp_Pins.spec (h6.ext (e14_21.tr f2)).rd (h7.ext (e17_21.tr f2)).rd hrl) ?_
    rintro _ w25 ⟨rfl, e25⟩
    have hx : x14 = x17 ∧ er14 = er17 := by simpa using h3.trans h8.symm
    obtain ⟨rfl, rfl⟩ := hx
    exact cnd_neg rfl (cnd_neg (by simp) (cnd_neg (by simp) (cnd_neg (by simp) (cnd_neg (by simp) (f2.tr e25)))))
  · rintro _ _ w22 e22
    have e2_22 := e2_21.tr e22
    have q2 := h2.ext (e4_21.tr e22)
    have q6 := h6.ext (e14_21.tr e22)
    have ba22 := ba.ext (e8_21.tr e22)
    have bcc22 := bcc.ext (e16_21.tr e22)
    have bc22 := bc.ext e2_22
    have bp22 := bp.ext e2_22
    have ho22 := ho.ext e2_22
    have hb3 : ∀ b, s3.blk b → w3.heap.size ≤ b ∧ b < w4.heap.size := fun b hb => ⟨h2.own.blk_ge hb, h2.own.blk_lt hb⟩
    have hb14 : ∀ b, s14.blk b → w13.heap.size ≤ b ∧ b < w14.heap.size := fun b hb => ⟨h6.own.blk_ge hb, h6.own.blk_lt hb⟩
    have y1 := e02.size
    have y2 := e23.size
    have y3 := e34.size
    have y4 := (e48.tr e8_13).size
    have y5 := e1314.size
    have hq2 := q2.len
    have hq6 := q6.len
    refine ⟨fun n x w' => ∃ (i : Nat) (L : List Pn), x = i ∧ i ≤ L.length ∧ n = L.length - i ∧ L.length = s3.len ∧ OwnS encPn 2 T.api_Pin w' w3.heap.size s3 L ∧ Upd s3.blk w22 w', ⟨_, 0, _, rfl, by omega, rfl, hq2.symm, q2, Upd.refl _ _⟩, ?_⟩
    rintro n _ _ w23 ⟨i, L, rfl, hi, rfl, hL, hO, hU⟩
    have ba23 := ba22.upd hU fun hb => by have := hb3 _ hb; omega
    refine ⟨s3, ba23.get 1 rfl, cnd_dec (fun hlt => ⟨s3, ba23.get 1 rfl, by omega, by omega, hO.rd.get (i := i) (by omega) fun A hA => ?_⟩) (fun hge => ?_)⟩
    · obtain ⟨a, b, c⟩ := wipe_step hO (i := i) (by omega) hA hU
      exact ⟨a, L.length - (i + 1), by omega, i + 1, L.set i (0, 0), by rw [i64_id] <;> omega, by rw [List.length_set]; omega, by rw [List.length_set], by rw [List.length_set]; exact hL, b, c⟩
    have q6' : OwnS encPn 2 T.api_Pin w23 w13.heap.size s14 (relF nx l id).1.2 := ⟨q6.own.upd hU fun b hb hM => by have := hb3 b hM; have := hb14 b hb; omega, encPn_len, by decide⟩
    have bcc23 := bcc22.upd hU fun hb => by have := hb3 _ hb; omega
    refine ⟨fun n x w' => ∃ (i : Nat) (L : List Pn), x = i ∧ i ≤ L.length ∧ n = L.length - i ∧ L.length = s14.len ∧ OwnS encPn 2 T.api_Pin w' w13.heap.size s14 L ∧ Upd s14.blk w23 w', ⟨_, 0, _, rfl, by omega, rfl, hq6.symm, q6', Upd.refl _ _⟩, ?_⟩
    rintro n _ _ w24 ⟨i, L', rfl, hi, rfl, hL', hO', hU'⟩
    have bcc24 := bcc23.upd hU' fun hb => by have := hb14 _ hb; omega
    refine ⟨s14, bcc24.get 1 rfl, cnd_dec (fun hlt => ⟨s14, bcc24.get 1 rfl, by omega, by omega, hO'.rd.get (i := i) (by omega) fun A hA => ?_⟩) (fun hge => ?_)⟩
    · obtain ⟨a, b, c⟩ := wipe_step hO' (i := i) (by omega) hA hU'
      exact ⟨a, L'.length - (i + 1), by omega, i + 1, L'.set i (0, 0), by rw [i64_id] <;> omega, by rw [List.length_set]; omega, by rw [List.length_set], by rw [List.length_set]; exact hL', b, c⟩
    have U : Upd (fun b => w2.heap.size ≤ b) w22 w24 := (hU.mono fun b _ hb => by have := hb3 b hb; omega).trans hU' fun b _ hb => by have := hb14 b hb; omega
    have hlast : Ext w w24 := (e02.tr e2_22).trans U fun b hb hM => by omega
    have hb0 : w.heap.size < w2.heap.size := bp.lt
    refine ⟨o, (bc22.upd U (by omega)).get 1 rfl, s, (bp22.upd U (by omega)).get 1 rfl, ?_⟩
    refine CallT.mono (dunnagehelp_Kept_api_Pin.spec (ho22.upd U (by omega)) (hs.ext hlast) hl62) ?_
    rintro _ w25 ⟨rfl, e25⟩
    exact ⟨by simp, hlast.tr e25⟩

abbrev dsPins : DS := .slice T.api_Pin 2 (.struct (.cons 0 1 (.int .i64) (.cons 1 1 (.int .i64) .nil)))
theorem pins_reach {w : World} {a : Option Addr} {len cap : Nat} (h : DS.rel w (bdReach Try.prog) bsReach dsPins [.slice a len cap]) :
    ∃ l : List Pn, RdP w ⟨a, len, cap⟩ l ∧ len ≤ cap ∧ cap * 16 ≤ 140737488351232 := by
  have key : ∀ es : List Value, es.length = 2 → DS.rel w (bdReach Try.prog) bsReach (.struct (.cons 0 1 (.int .i64) (.cons 1 1 (.int .i64) .nil))) es → ∃ x, encPn x = es ∧ True := by
    intro es hl hr
    match es, hl with
    | [x, y], _ =>
      obtain ⟨⟨n0, h0, _⟩, ⟨n1, h1, _⟩, _⟩ := hr
      simp only [List.drop_zero, List.take_succ_cons, List.take_zero, List.drop_succ_cons, List.cons.injEq, and_true] at h0 h1
      subst h0 h1
      exact ⟨(n0, n1), rfl, trivial⟩
  obtain ⟨l, h1, h2, h3, _⟩ := DS.flat (enc := encPn) (fun _ => True) h encPn_len (by decide) key
  refine ⟨l, h1, h2, ?_⟩
  rcases h3 with h3 | h3
  · omega
  · have hb : Try.prog.bytesOf T.api_Pin = 16 := by kernel_rfl
    unfold bdReach at h3
    rw [hb] at h3
    exact h3
theorem dunnagelaw19_SnapsTell.row {w : World} {a : Array Value} (h : DS.rel w (bdReach Try.prog) bsReach (.struct (.cons 0 1 (.int .i64) (.cons 1 1 dsPins .nil))) a.toList) (hn : a.size = 2) (id : Int) :
    CallT [.one .bool] Try.prog F.dunnagelaw19_SnapsTell [.agg a, .int .i64 id] w fun r w' => r = true ∧ Ext w w' := by
  obtain ⟨l⟩ := a
  match l, hn with
  | [x, y], _ =>
    obtain ⟨⟨n0, h0, _⟩, h1, _⟩ := h
    simp only [List.drop_zero, List.take_succ_cons, List.take_zero, List.drop_succ_cons, List.cons.injEq, and_true] at h0 h1
    subst h0
    have h1' := h1
    obtain ⟨a1, len1, cap1, hy, _⟩ := h1
    simp only [List.cons.injEq, and_true] at hy
    subst hy
    obtain ⟨l, hl, hc, hb⟩ := pins_reach h1'
    have hlen := hl.len
    simp only at hlen
    exact dunnagelaw19_SnapsTell.spec hl (by omega) id
end Go.Proofs
