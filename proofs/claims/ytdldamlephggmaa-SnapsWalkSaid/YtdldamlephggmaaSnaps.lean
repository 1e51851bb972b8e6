/- snaps.Check, Root, and the document's Right, Root, free. Conditions: those of each contract. -/
import Derived.Test.YtdldamlephggmaaCond1
import Derived.Test.YtdldamlephggmaaCond2
import Derived.Test.YtdldamlephggmaaSnapsEnc
namespace Go.Proofs
open Go Go.Vc
abbrev RdP (w : World) (s : SV) (l : List Pn) : Prop := RdS encPn 2 w s l
abbrev PV := Int × SV
@[reducible] def PV.vs (x : PV) : List Value := [.int .i64 x.1, .slice x.2.a x.2.len x.2.cap]
def tkL (l : List Pn) : List Value := (List.range 9).map fun (r : Nat) => Value.bool (hasRoot l (r : Int))
theorem tkL_get (l : List Pn) {r : Nat} (h : r < 9) : (tkL l)[r]? = some (.bool (hasRoot l r)) := by
  simp [tkL, h]
theorem tkL_set (l : List Pn) (x : Pn) {r : Nat} (h : r < 9) (hr : x.2 = r) : (tkL l).set r (.bool true) = tkL (l ++ [x]) := by
  apply List.ext_getElem?
  intro i
  by_cases hi : i = r
  · subst hi
    rw [tkL_get _ h, hasRoot_snoc, hr, List.getElem?_set_self (by simp [tkL]; exact h)]
    simp
  · rw [List.getElem?_set_ne (by omega)]
    by_cases h9 : i < 9
    · rw [tkL_get _ h9, tkL_get _ h9, hasRoot_snoc, hr]
      have : (((r : Int) == (i : Int)) : Bool) = false := by simp; omega
      rw [this, Bool.or_false]
    · rw [List.getElem?_eq_none (by simp [tkL]; omega), List.getElem?_eq_none (by simp [tkL]; omega)]
theorem snaps_Check.spec {w : World} {nx : Int} {s : SV} {l : List Pn} (hs : RdP w s l) (hl : l.length < 2 ^ 62) :
    CallT [.one (.int .i64)] Try.prog F.snaps_Check [.agg (PV.vs (nx, s)).toArray] w fun r w' => r = (if rightB nx l = true then 0 else 11) ∧ Ext w w' := by
  refine snaps_Check.vc (nx, s) w _ ?_
  have hsl := hs.len
  dsimp only
  generalize ha : w.alloc _ = w1
  obtain ⟨b1, e1, z1⟩ := bk_new (vs := PV.vs (nx, s)) ha
  refine ⟨fun _ w' => w1 = w' ∧ 1 ≤ nx ∧ nx ≤ 4611686018427387904 ∧ l.length ≤ 8, ⟨nx, b1.get 0 rfl, cnd_dec (fun h => ⟨?_, e1⟩) (fun h1 => ⟨nx, b1.get 0 rfl, cnd_dec (fun h => ⟨?_, e1⟩) (fun h2 => ⟨s, b1.get 1 rfl, cnd_dec (fun h => ⟨?_, e1⟩) (fun h3 => ⟨rfl, by omega, by omega, by omega⟩)⟩)⟩)⟩, ?_⟩
  · rw [rightB_no (fun k => by omega)]; rfl
  · rw [rightB_no (fun k => by omega)]; rfl
  · rw [rightB_no (fun k => by omega)]; rfl
  rintro _ _ _ ⟨rfl, n1, n2, l8⟩
  generalize hb : w1.alloc _ = w2
  obtain ⟨b2, e2, z2⟩ := bk_new (vs := tkL []) hb
  have e02 := e1.tr e2
  refine ⟨s, (b1.ext e2).get 1 rfl, fun n x w' => ∃ i : Nat, x = (lastId (l.take i), (i : Int)) ∧ i ≤ l.length ∧ n = l.length - i ∧ okL nx l i = true ∧ Ext w1 w' ∧ BK w' w1.heap.size 76 (tkL (l.take i)), ⟨_, 0, rfl, by omega, rfl, rfl, e2, b2⟩, ?_⟩
  rintro n _ _ w3 ⟨i, rfl, hi, rfl, hok, e3, k3⟩
  dsimp only
  have e03 := e1.tr e3
  have p3 := b1.ext e3
  refine cnd_dec (fun hlt => ?_) (fun hge => ?_)
  · have hil : i < l.length := by omega
    have hx : l[i]? = some l[i] := List.getElem?_eq_getElem hil
    generalize l[i] = x at hx
    have hw : IntKind.i64.wrap ((i : Int) + 1) = ((i + 1 : Nat) : Int) := by rw [i64_id] <;> omega
    have no : ¬ (lastId (l.take i) < x.1 ∧ x.1 < nx ∧ 1 ≤ x.2 ∧ x.2 ≤ 8 ∧ hasRoot (l.take i) x.2 = false) → (11 : Int) = if rightB nx l = true then 0 else 11 := fun h => by
      rw [rightB_no (fun k => by have := okL_stop hx (okAt_no h); rw [this] at k; simp at k)]; rfl
    refine ⟨by omega, by omega, hs.get hil fun A hA => ⟨x, (hs.ext e03).at_ hx hA, ?_⟩⟩
    generalize hc : w3.alloc _ = w4
    generalize hd : setCells w4 _ 0 _ = w5
    obtain ⟨c5, b5, e5, z5⟩ := bk_mk (T := T.api_Pin) (z := [.int .i64 0, .int .i64 0]) (vs := encPn x) hc hd rfl
    have k5 := k3.ext e5
    have e05 := e03.tr e5
    refine ⟨c5, fun _ w' => w5 = w' ∧ okAt nx (l.take i) x = true, ⟨x.1, b5.get 0 rfl, ?_⟩, ?_⟩
    · refine cnd_dec (fun h => ⟨no (by omega), e05⟩) (fun h1 => ⟨x.1, b5.get 0 rfl, nx, (p3.ext e5).get 0 rfl, cnd_dec (fun h => ⟨no (by omega), e05⟩) (fun h2 => ⟨x.2, b5.get 1 rfl, cnd_dec (fun h => ⟨no (by omega), e05⟩) (fun h3 => ⟨x.2, b5.get 1 rfl, cnd_dec (fun h => ⟨no (by omega), e05⟩) (fun h4 => ⟨x.2, b5.get 1 rfl, by omega, by omega, ?_⟩)⟩)⟩)⟩)
      obtain ⟨r, hr⟩ : ∃ r : Nat, x.2 = r := ⟨x.2.toNat, by omega⟩
      refine ⟨hasRoot (l.take i) x.2, ?_, cnd_intro (fun h => ⟨no (fun k => by rw [k.2.2.2.2] at h; simp at h), e05⟩) (fun h => ⟨rfl, okAt_iff.2 ⟨by omega, by omega, by omega, by omega, h⟩⟩)⟩
      rw [hr, Int.toNat_natCast, Nat.mul_one]
      exact k5.get r (tkL_get _ (by omega))
    · rintro _ _ _ ⟨rfl, hat⟩
      obtain ⟨g1, g2, g3, g4, g5⟩ := okAt_iff.1 hat
      obtain ⟨r, hr⟩ : ∃ r : Nat, x.2 = r := ⟨x.2.toNat, by omega⟩
      obtain ⟨a, b, k6⟩ := k5.store r (by simp [tkL]; omega) (.bool true)
      rw [tkL_set _ _ (by omega) hr, ← take_snoc hx] at k6
      refine ⟨x.1, b5.get 0 rfl, x.2, b5.get 1 rfl, by omega, by omega, ?_⟩
      rw [hr, Int.toNat_natCast, Nat.mul_one]
      refine ⟨a, b, l.length - (i + 1), by omega, i + 1, ?_, by omega, rfl, by rw [okL_succ hx, hok, hat]; rfl, (e3.tr e5).set (fun h => by simp at h) _, k6⟩
      rw [hw, take_snoc hx, lastId_snoc]
  · have : i = l.length := by omega
    subst this
    rw [rightB_iff.2 ⟨n1, n2, l8, hok⟩]
    exact ⟨rfl, e03⟩
theorem dunnageref19_Right.spec {w : World} {nx : Int} {s : SV} {l : List Pn} (hs : RdP w s l) (hl : l.length < 2 ^ 62) :
    CallT [.one .bool] Try.prog F.dunnageref19_Right [.agg (PV.vs (nx, s)).toArray] w fun r w' => r = rightB nx l ∧ Ext w w' := by
  refine dunnageref19_Right.vc (nx, s) w _ ?_
  have hsl := hs.len
  dsimp only
  generalize ha : w.alloc _ = w1
  obtain ⟨b1, e1, z1⟩ := bk_new (vs := PV.vs (nx, s)) ha
  refine ⟨fun _ w' => w1 = w' ∧ 1 ≤ nx ∧ nx ≤ 4611686018427387904 ∧ l.length ≤ 8, ⟨nx, b1.get 0 rfl, cnd_dec (fun h => ⟨(rightB_no (fun k => by omega)).symm, e1⟩) (fun h1 => ⟨nx, b1.get 0 rfl, cnd_dec (fun h => ⟨(rightB_no (fun k => by omega)).symm, e1⟩) (fun h2 => ⟨s, b1.get 1 rfl, cnd_dec (fun h => ⟨(rightB_no (fun k => by omega)).symm, e1⟩) (fun h3 => ⟨rfl, by omega, by omega, by omega⟩)⟩)⟩)⟩, ?_⟩
  rintro _ _ _ ⟨rfl, n1, n2, l8⟩
  refine ⟨fun n x w' => ∃ i : Nat, x = (i : Int) ∧ i ≤ l.length ∧ n = l.length - i ∧ okL nx l i = true ∧ Ext w1 w', ⟨_, 0, rfl, by omega, rfl, rfl, Upd.refl _ _⟩, ?_⟩
  rintro n _ _ w3 ⟨i, rfl, hi, rfl, hok, e3⟩
  have e03 := e1.tr e3
  have p3 := b1.ext e3
  refine ⟨s, p3.get 1 rfl, cnd_dec (fun hlt => ?_) (fun hge => ?_)⟩
  · have hil : i < l.length := by omega
    have hx : l[i]? = some l[i] := List.getElem?_eq_getElem hil
    generalize l[i] = x at hx
    have hw : IntKind.i64.wrap ((i : Int) + 1) = ((i + 1 : Nat) : Int) := by rw [i64_id] <;> omega
    have hid := okL_ids hok hi
    have no : ¬ (lastId (l.take i) < x.1 ∧ x.1 < nx ∧ 1 ≤ x.2 ∧ x.2 ≤ 8 ∧ hasRoot (l.take i) x.2 = false) → false = rightB nx l := fun h =>
      (rightB_no (fun k => by have := okL_stop hx (okAt_no h); rw [this] at k; simp at k)).symm
    refine ⟨s, p3.get 1 rfl, by omega, by omega, hs.get hil fun A hA => ⟨x, (hs.ext e03).at_ hx hA, ?_⟩⟩
    generalize hc : w3.alloc _ = w4
    generalize hd : setCells w4 _ 0 _ = w5
    obtain ⟨c5, b5, e5, z5⟩ := bk_mk (T := T.api_Pin) (z := [.int .i64 0, .int .i64 0]) (vs := encPn x) hc hd rfl
    have e5d : Ext w3 w5.drew := e5.drew
    have e05 := e03.tr e5d
    have b5d : BK w5.drew w3.heap.size T.api_Pin (encPn x) := b5
    have p5 := p3.ext e5d
    refine ⟨c5, fun _ w' => w5.drew = w' ∧ lastId (l.take i) < x.1 ∧ x.1 < nx ∧ 1 ≤ x.2 ∧ x.2 ≤ 8, ⟨x.1, b5d.get 0 rfl, ?_⟩, ?_⟩
    · refine cnd_dec (fun h => ⟨no (by omega), e05⟩) (fun h1 => ⟨x.1, b5d.get 0 rfl, nx, p5.get 0 rfl, cnd_dec (fun h => ⟨no (by omega), e05⟩) (fun h2 => ⟨x.2, b5d.get 1 rfl, cnd_dec (fun h => ⟨no (by omega), e05⟩) (fun h3 => ⟨x.2, b5d.get 1 rfl, cnd_dec (fun h => ⟨no (by omega), e05⟩) (fun h4 => cnd_dec (fun h5 => ?_) (fun h5 => ⟨rfl, ?_, by omega, by omega, by omega⟩))⟩)⟩)⟩)
      · have hi1 : i - 1 < l.length := by omega
        have hy : l[i - 1]? = some l[i - 1] := List.getElem?_eq_getElem hi1
        generalize l[i - 1] = y at hy
        have hla : lastId (l.take i) = y.1 := by
          have := take_snoc hy
          rw [show i - 1 + 1 = i by omega] at this
          rw [this, lastId_snoc]
        have hw1 : IntKind.i64.wrap ((i : Int) - 1) = ((i - 1 : Nat) : Int) := by rw [i64_id] <;> omega
        rw [hw1]
        refine ⟨x.1, b5d.get 0 rfl, s, p5.get 1 rfl, by omega, by omega, hs.get hi1 fun B hB => ⟨y.1, (hs.ext e05).fld hy hB (k := 0) rfl, cnd_dec (fun h => ⟨no (by omega), e05⟩) (fun h => ⟨rfl, by omega, by omega, by omega, by omega⟩)⟩⟩
      · have : i = 0 := by omega
        subst this
        simp only [List.take_zero, lastId_nil]; omega
    · rintro _ _ _ ⟨rfl, g1, g2, g3, g4⟩
      refine ⟨fun n k w' => ∃ j : Nat, k = (j : Int) ∧ j ≤ i ∧ n = i - j ∧ hasRoot (l.take j) x.2 = false ∧ Ext w1 w' ∧ BK w' w3.heap.size T.api_Pin (encPn x), ⟨_, 0, rfl, by omega, rfl, rfl, e3.tr e5d, b5d⟩, ?_⟩
      rintro n _ _ w6 ⟨j, rfl, hj, rfl, hno, e6, b6⟩
      have e6d : Ext w1 w6.drew := e6.drew
      have b6d : BK w6.drew w3.heap.size T.api_Pin (encPn x) := b6
      refine cnd_dec (fun hlt2 => ?_) (fun hge2 => ?_)
      · have hjl : j < l.length := by omega
        have hy : l[j]? = some l[j] := List.getElem?_eq_getElem hjl
        generalize l[j] = y at hy
        have hwj : IntKind.i64.wrap ((j : Int) + 1) = ((j + 1 : Nat) : Int) := by rw [i64_id] <;> omega
        refine ⟨s, (b1.ext e6d).get 1 rfl, by omega, by omega, hs.get hjl fun B hB => ⟨y.2, (hs.ext (e1.tr e6d)).fld hy hB (k := 1) rfl, x.2, b6d.get 1 rfl, cnd_beq (fun h => ⟨no (fun k => ?_), e1.tr e6d⟩) (fun h => ⟨i - (j + 1), by omega, j + 1, hwj, by omega, rfl, ?_, e6d, b6d⟩)⟩⟩
        · have hm : hasRoot (l.take i) x.2 = true := by
            unfold hasRoot
            rw [List.any_eq_true]
            exact ⟨y, List.mem_of_getElem? (i := j) (by rw [List.getElem?_take, if_pos (by omega)]; exact hy), by simpa using h⟩
          rw [hm] at k; simp at k
        · rw [take_snoc hy, hasRoot_snoc, hno]; simpa using h
      · have hji : j = i := by omega
        subst hji
        exact ⟨l.length - (j + 1), by omega, j + 1, hw, by omega, rfl, by rw [okL_succ hx, hok, okAt_iff.2 ⟨g1, g2, g3, g4, hno⟩]; rfl, e6⟩
  · have : i = l.length := by omega
    subst this
    exact ⟨(rightB_iff.2 ⟨n1, n2, l8, hok⟩).symm, e03⟩
theorem find_take {l : List Pn} {id : Int} {i : Nat} {x : Pn} (hx : l[i]? = some x) (h : ∀ y ∈ l.take i, ¬ y.1 = id) (hxi : x.1 = id) : l.find? (fun x => x.1 == id) = some x := by
  have hi := (List.getElem?_eq_some_iff.1 hx).1
  have h1 : l = l.take i ++ (x :: l.drop (i + 1)) := by
    obtain ⟨_, rfl⟩ := List.getElem?_eq_some_iff.1 hx
    rw [← List.drop_eq_getElem_cons hi, List.take_append_drop]
  rw [h1, List.find?_append, List.find?_eq_none.2 (fun y hy => by simpa using h y hy)]
  simp [hxi]
theorem find_none {l : List Pn} {id : Int} (h : ∀ y ∈ l, ¬ y.1 = id) : l.find? (fun x => x.1 == id) = none :=
  List.find?_eq_none.2 (fun y hy => by simpa using h y hy)
theorem take_all {l : List Pn} {id : Int} {i : Nat} {x : Pn} (hx : l[i]? = some x) (h : ∀ y ∈ l.take i, ¬ y.1 = id) (hn : ¬ x.1 = id) : ∀ y ∈ l.take (i + 1), ¬ y.1 = id := by
  intro y hy
  rw [take_snoc hx] at hy
  rcases List.mem_append.1 hy with hy | hy
  · exact h y hy
  · rw [List.mem_singleton] at hy; subst hy; exact hn
theorem snaps_Root.spec {w : World} {nx : Int} {s : SV} {l : List Pn} (hs : RdP w s l) (hl : l.length < 2 ^ 62) (id : Int) :
    CallT [.one (.int .i64), .one .bool] Try.prog F.snaps_Root [.agg (PV.vs (nx, s)).toArray, .int .i64 id] w fun r w' => r = rootF nx l id ∧ Ext w w' := by
  refine snaps_Root.vc (nx, s) id w _ ?_
  have hsl := hs.len
  dsimp only
  generalize ha : w.alloc _ = w1
  obtain ⟨b1, e1, z1⟩ := bk_new (vs := PV.vs (nx, s)) ha
  refine ⟨(nx, s), b1.all, CallT.mono (snaps_Check.spec (hs.ext e1) hl) ?_⟩
  rintro _ w2 ⟨rfl, e2⟩
  have e02 := e1.tr e2
  refine cnd_bne (fun h => ⟨?_, e02⟩) (fun h => ?_)
  · rw [rootF, if_neg (fun k => h (if_pos k))]
  have hr : rightB nx l = true := by
    cases hb : rightB nx l with
    | true => rfl
    | false => rw [hb] at h; simp at h
  refine ⟨s, (b1.ext e2).get 1 rfl, fun n x w' => ∃ i : Nat, x = (i : Int) ∧ i ≤ l.length ∧ n = l.length - i ∧ Ext w w' ∧ ∀ y ∈ l.take i, ¬ y.1 = id, ⟨_, 0, rfl, by omega, rfl, e02, by simp⟩, ?_⟩
  rintro n _ _ w3 ⟨i, rfl, hi, rfl, e3, hno⟩
  refine cnd_dec (fun hlt => ?_) (fun hge => ?_)
  · have hil : i < l.length := by omega
    have hx : l[i]? = some l[i] := List.getElem?_eq_getElem hil
    generalize l[i] = x at hx
    have hw : IntKind.i64.wrap ((i : Int) + 1) = ((i + 1 : Nat) : Int) := by rw [i64_id] <;> omega
    refine ⟨by omega, by omega, hs.get hil fun A hA => ⟨x, (hs.ext e3).at_ hx hA, ?_⟩⟩
    generalize hc : w3.alloc _ = w4
    generalize hd : setCells w4 _ 0 _ = w5
    obtain ⟨c5, b5, e5, z5⟩ := bk_mk (T := T.api_Pin) (z := [.int .i64 0, .int .i64 0]) (vs := encPn x) hc hd rfl
    refine ⟨c5, x.1, b5.get 0 rfl, cnd_beq (fun h => ⟨x.2, b5.get 1 rfl, ?_, e3.tr e5⟩) (fun h => ⟨l.length - (i + 1), by omega, i + 1, hw, by omega, rfl, e3.tr e5, take_all hx hno h⟩)⟩
    rw [rootF, if_pos hr, find_take hx hno h]
  · have : i = l.length := by omega
    subst this
    rw [List.take_length] at hno
    rw [rootF, if_pos hr, find_none hno]
    exact ⟨rfl, e3⟩
theorem dunnageref19_Root.spec {w : World} {nx : Int} {s : SV} {l : List Pn} (hs : RdP w s l) (hl : l.length < 2 ^ 62) (id : Int) :
    CallT [.one (.int .i64), .one .bool] Try.prog F.dunnageref19_Root [.agg (PV.vs (nx, s)).toArray, .int .i64 id] w fun r w' => r = rootF nx l id ∧ Ext w w' := by
  refine dunnageref19_Root.vc (nx, s) id w _ ?_
  have hsl := hs.len
  dsimp only
  generalize ha : w.alloc _ = w1
  obtain ⟨b1, e1, z1⟩ := bk_new (vs := PV.vs (nx, s)) ha
  refine ⟨fun n x w' => ∃ i : Nat, x = (i : Int) ∧ i ≤ l.length ∧ n = l.length - i ∧ Ext w1 w' ∧ ∀ y ∈ l.take i, ¬ y.1 = id, ⟨_, 0, rfl, by omega, rfl, Upd.refl _ _, by simp⟩, ?_⟩
  rintro n _ _ w3 ⟨i, rfl, hi, rfl, e3, hno⟩
  refine ⟨fun _ w' => Ext w1 w' ∧ i < l.length ∧ rightB nx l = true, ⟨(nx, s), (b1.ext e3).all, CallT.mono (dunnageref19_Right.spec (hs.ext (e1.tr e3)) hl) ?_⟩, ?_⟩
  · rintro _ w4 ⟨rfl, e4⟩
    have e14 := e3.tr e4
    refine cnd_intro (fun hr => ⟨s, (b1.ext e14).get 1 rfl, cnd_dec (fun h => ⟨e14, by omega, hr⟩) (fun h => ?_)⟩) (fun hr => ⟨?_, e1.tr e14⟩)
    · have : i = l.length := by omega
      subst this
      rw [List.take_length] at hno
      rw [rootF, if_pos hr, find_none hno]
      exact ⟨rfl, e1.tr e14⟩
    · rw [rootF, hr]; rfl
  · rintro _ _ w4 ⟨e4, hil, hr⟩
    have hx : l[i]? = some l[i] := List.getElem?_eq_getElem hil
    generalize l[i] = x at hx
    have hw : IntKind.i64.wrap ((i : Int) + 1) = ((i + 1 : Nat) : Int) := by rw [i64_id] <;> omega
    have e04 := e1.tr e4
    refine ⟨s, (b1.ext e4).get 1 rfl, by omega, by omega, hs.get hil fun A hA => ⟨x.1, (hs.ext e04).fld hx hA (k := 0) rfl, cnd_beq (fun h => ⟨s, (b1.ext e4).get 1 rfl, by omega, by omega, hs.get hil fun B hB => ⟨x.2, (hs.ext e04).fld hx hB (k := 1) rfl, ?_, e04⟩⟩) (fun h => ⟨l.length - (i + 1), by omega, i + 1, hw, by omega, rfl, e4, take_all hx hno h⟩)⟩⟩
    rw [rootF, if_pos hr, find_take hx hno h]
theorem dunnageref19_free.spec {w : World} {nx : Int} {s : SV} {l : List Pn} (hs : RdP w s l) (hl : l.length < 2 ^ 62) (h8 : hasRoot l 10 = false) :
    CallT [.one (.int .i64)] Try.prog F.dunnageref19_free [.agg (PV.vs (nx, s)).toArray] w fun r w' => r = freeM l ∧ Ext w w' := by
  refine dunnageref19_free.vc (nx, s) w _ ?_
  have hsl := hs.len
  dsimp only
  generalize ha : w.alloc _ = w1
  obtain ⟨b1, e1, z1⟩ := bk_new (vs := PV.vs (nx, s)) ha
  refine ⟨fun n r w' => r + n = 10 ∧ 1 ≤ r ∧ freeF l n r = freeM l ∧ Ext w1 w', ⟨9, by omega, by omega, rfl, Upd.refl _ _⟩, ?_⟩
  rintro n r _ w2 ⟨hr, hr1, hf, e2⟩
  refine ⟨fun m x w' => ∃ i : Nat, x = (hasRoot (l.take i) r, (i : Int)) ∧ i ≤ l.length ∧ m = l.length - i ∧ Ext w1 w', ⟨_, 0, rfl, by omega, rfl, e2⟩, ?_⟩
  rintro m _ _ w3 ⟨i, rfl, hi, rfl, e3⟩
  dsimp only
  refine ⟨s, (b1.ext e3).get 1 rfl, cnd_dec (fun hlt => ?_) (fun hge => ?_)⟩
  · have hil : i < l.length := by omega
    have hx : l[i]? = some l[i] := List.getElem?_eq_getElem hil
    generalize l[i] = x at hx
    have hw : IntKind.i64.wrap ((i : Int) + 1) = ((i + 1 : Nat) : Int) := by rw [i64_id] <;> omega
    refine cnd_intro (fun ht => ⟨l.length - (i + 1), by omega, i + 1, by rw [hw, take_snoc hx, hasRoot_snoc, ht]; rfl, by omega, rfl, e3⟩) (fun hf => ?_)
    refine ⟨s, (b1.ext e3).get 1 rfl, by omega, by omega, hs.get hil fun A hA => ⟨x.2, (hs.ext (e1.tr e3)).fld hx hA (k := 1) rfl, l.length - (i + 1), by omega, i + 1, by rw [hw, take_snoc hx, hasRoot_snoc, hf]; rfl, by omega, rfl, e3⟩⟩
  · have : i = l.length := by omega
    subst this
    rw [List.take_length]
    refine cnd_not (fun hno => ⟨?_, e1.tr e3⟩) (fun hyes => ?_)
    · rw [← hf]
      cases n with
      | zero => rfl
      | succ n => rw [freeF, hno]; rfl
    · cases n with
      | zero =>
        have : r = 10 := by omega
        subst this
        rw [h8] at hyes; simp at hyes
      | succ n =>
        have hw : IntKind.i64.wrap (r + 1) = r + 1 := by rw [i64_id] <;> omega
        refine ⟨n, by omega, by omega, by omega, ?_, e3⟩
        rw [hw, ← hf, freeF, if_pos hyes]
end Go.Proofs
