/- frame.Join. Conditions: the frames are readable. -/
import Derived.Test.YtinolellciikoaaCond7
import Derived.Test.YtinolellciikoaaFrameMath
namespace Go.Proofs
open Go Go.Vc
theorem joinF_no {l : List FrW} (h : ¬ Whole l) : joinF l = ([], 11) := if_neg h
theorem joinF_yes {l : List FrW} (h : Whole l) : joinF l = (datas l, 0) := if_pos h
theorem whole_head {y : FrW} {r l : List FrW} (hl : l = y :: r) (h : Whole l) : y.of = (l.length : Int) ∧ AllFit y l ∧ (datas l).length ≤ 8192 := by
  obtain ⟨y', r', h1, h2⟩ := h
  rw [hl] at h1
  obtain ⟨rfl, rfl⟩ := by simpa using h1
  exact h2
theorem datas_snoc {l : List FrW} {i : Nat} {x : FrW} (hx : l[i]? = some x) : datas (l.take (i + 1)) = datas (l.take i) ++ x.data := by
  simp [datas, List.take_add_one, hx]
set_option maxRecDepth 100000 in
theorem frame_Join.spec {w : World} {s : SV} {l : List FrW} (h : RdFr w s l) :
    CallT [.one .slice, .one (.int .i64)] Try.prog F.frame_Join [.slice s.a s.len s.cap] w fun r w' => OwnB w' w.heap.size r.1 (joinF l).1 ∧ r.2 = (joinF l).2 ∧ Ext w w' := by
  refine frame_Join.vc s w _ ?_
  have hsl := h.rd.len
  have no : ∀ {w' : World}, Ext w w' → ¬ Whole l → OwnB w' w.heap.size ⟨none, 0, 0⟩ (joinF l).1 ∧ (11 : Int) = (joinF l).2 ∧ Ext w w' := fun e hn => by
    rw [joinF_no hn]; exact ⟨Own.nil _ _ _ _, rfl, e⟩
  cases hl0 : l with
  | nil =>
    rw [← hl0]
    exact ⟨fun _ _ => False, cnd_pos (by simp [hsl, hl0]) (no (Upd.refl _ _) (by rintro ⟨y, r, h1, _⟩; rw [hl0] at h1; simp at h1)), fun _ _ _ hf => hf.elim⟩
  | cons y r =>
    rw [← hl0]
    have hn : 0 < l.length := by rw [hl0]; simp
    have hy : l[0]? = some y := by rw [hl0]; rfl
    refine ⟨fun _ w' => w = w' ∧ y.of = (l.length : Int), cnd_neg (by simp only [beq_eq_false_iff_ne]; omega) ⟨by omega, by omega, h.rd.get (i := 0) hn fun A hA => ⟨y.of, (h.rd.at_ hy hA) 2 _ rfl, cnd_bne (fun hne => no (Upd.refl _ _) fun hw => hne (by rw [(whole_head hl0 hw).1, hsl])) (fun heq => ⟨rfl, by rw [heq, hsl]⟩)⟩⟩, ?_⟩
    rintro _ _ _ ⟨rfl, hof⟩
    have hyf := h.ok y (by rw [hl0]; simp)
    refine ⟨fun m x w' => ∃ (i : Nat) (t : SV), x = (t, (i : Int)) ∧ i ≤ l.length ∧ m = l.length - i ∧ OwnB w' w.heap.size t (datas (l.take i)) ∧ (datas (l.take i)).length ≤ 440 * i ∧ (0 < i → l.length ≤ 32) ∧ (∀ j (hj : j < l.length), j < i → Fits (frOf l[j]) (frOf y) (j : Int)) ∧ Ext w w', ⟨_, 0, _, rfl, by omega, rfl, Own.nil _ _ _ _, by simp, by omega, fun j _ hj => by omega, Upd.refl _ _⟩, ?_⟩
    rintro m _ _ w1 ⟨i, t, rfl, hi, rfl, ht, htl, h32, hfit, e1⟩
    dsimp only
    refine cnd_dec (fun hlt => ?_) (fun hge => ?_)
    · have hil : i < l.length := by omega
      have hx : l[i]? = some l[i] := List.getElem?_eq_getElem hil
      have hok := h.ok l[i] (List.getElem_mem hil)
      have hit : Int.toNat (i : Int) = i := Int.toNat_natCast i
      refine ⟨by omega, by omega, (h.ext e1).rd.get (i := i) hil fun A hA => ⟨frOf l[i], ?_, ?_⟩⟩
      · rw [hit]; exact (h.ext e1).rd.at_ hx hA
      generalize hc : w1.alloc _ = w2
      generalize hd : setCells w2 _ 0 _ = w3
      obtain ⟨c3, b3, e3, z3⟩ := bk_mk (T := T.api_Frame) (z := zFr) (vs := frV (frOf l[i])) hc hd rfl
      have e4 := e3.tr (ext_drew w3)
      have b4 := b3.ext (ext_drew w3)
      have e04 := e1.tr e4
      generalize w3.drew = w4 at *
      refine ⟨c3, frOf l[i], b4.all, by omega, by omega, (h.ext e04).rd.get (i := 0) hn fun A hA => ⟨frOf y, ?_, CallT.mono (frame_fits.spec (frOf l[i]) (frOf y) (i : Int) w4) ?_⟩⟩
      · exact (h.ext e04).rd.at_ hy hA
      rintro _ w5 ⟨rfl, e5⟩
      have e05 := e04.tr e5
      refine cnd_not (fun hf => no e05 fun hw => ?_) (fun hf => ?_)
      · have := (whole_head hl0 hw).2.1 ⟨i, hil⟩
        exact (decide_eq_false_iff_not.1 hf) this
      have hfi : Fits (frOf l[i]) (frOf y) (i : Int) := by simpa using hf
      have hmay : 1 ≤ l[i].of ∧ l[i].of ≤ 32 ∧ l[i].s.len ≤ 440 := by simpa [mayF] using hfi.1
      have hsd := hok.1.lenB
      have hofi : l[i].of = (l.length : Int) := hfi.2.2.2.1.trans hof
      have htlen := ht.lenB
      refine ⟨l[i].s, (b4.ext e5).get 3 rfl, ?_⟩
      refine app_rd appB e05 ((ht.ext e4).ext e5) (hok.1.ext e05) (B8_one _) (fun hlt => ?_) ?_
      · have := nextcap_le hlt; omega
      intro t' w6 ho e6 hl6 _
      refine ⟨l.length - (i + 1), by omega, i + 1, t', ?_, by omega, rfl, ?_, ?_, by omega, ?_, e6⟩
      · rw [i64_id (by omega) (by omega)]; simp
      · show Own _ _ _ _ _ (B8 _); rw [datas_snoc hx, B8_append]; exact ho
      · rw [datas_snoc hx, List.length_append]; omega
      · intro j hj hji
        by_cases hjj : j = i
        · subst hjj; exact hfi
        · exact hfit j hj (by omega)
    · have hil : i = l.length := by omega
      subst hil
      rw [List.take_length] at ht htl
      have htlen := ht.lenB
      have hall : AllFit y l := fun i => hfit i.1 i.2 i.2
      refine cnd_dec (fun hb => no e1 fun hw => ?_) (fun hb => ?_)
      · have := (whole_head hl0 hw).2.2; omega
      · rw [joinF_yes ⟨y, r, hl0, hof, hall, by omega⟩]
        exact ⟨ht, rfl, e1⟩
end Go.Proofs
