/- The walk of dunnagelaw26.ForwardFolds: it answers true, and turns nothing that was there. Conditions: what came in is of the sizes that the form allows. -/
import Derived.Test.YtdldamlephggmaaFwdHelp
import Derived.Test.YtdldamlephggmaaFoldMath
import Derived.Test.YtdldamlephggmaaRow
namespace Go.Proofs
open Go Go.Vc
theorem dunnagelaw26_ForwardFolds.spec {w : World} {s : SV} {l : List Mv} (hs : RdM w s l) (hl : l.length * 32 ≤ 140737488351232) :
    CallT [.one .bool] Try.prog F.dunnagelaw26_ForwardFolds [.slice s.a s.len s.cap] w fun r w' => r = true ∧ Ext w w' := by
  refine dunnagelaw26_ForwardFolds.vc s w _ ?_
  have hsl := hs.len
  refine ⟨fun n x w' => ∃ i : Nat, x = (i : Int) ∧ i ≤ l.length ∧ n = l.length - i ∧ Ext w w', ⟨_, 0, rfl, by omega, rfl, Upd.refl _ _⟩, ?_⟩
  rintro n _ j w1 ⟨i, rfl, hi, rfl, he⟩
  refine cnd_dec (fun hlt => ?_) (fun hge => ?_)
  · have hil : i < l.length := by omega
    have hx : l[i]? = some l[i] := List.getElem?_eq_getElem hil
    have hi1 : IntKind.i64.wrap ((i : Int) - 1) = (i : Int) - 1 := by rw [i64_id] <;> omega
    rw [hi1]
    refine ⟨fun n x w' => -1 ≤ x ∧ x < i ∧ n = (x + 1).toNat ∧ Ext w w', ⟨_, by omega, by omega, rfl, he⟩, ?_⟩
    rintro n x j2 w2 ⟨hk1, hki, rfl, he2⟩
    refine cnd_dec (fun hge => ?_) (fun hlt2 => ⟨l.length - (i + 1), by omega, i + 1, by rw [i64_id] <;> omega, by omega, rfl, he2⟩)
    obtain ⟨k, rfl⟩ : ∃ q : Nat, x = q := ⟨x.toNat, by omega⟩
    have hk1 : IntKind.i64.wrap ((k : Int) - 1) = (k : Int) - 1 := by rw [i64_id] <;> omega
    have hkl : k < l.length := by omega
    have hy : l[k]? = some l[k] := List.getElem?_eq_getElem hkl
    have e3 : Ext w w2.drew := he2.drew
    have e4 : Ext w w2.drew.drew := he2.drew.drew
    refine ⟨by omega, by omega, hs.get hkl fun A hA => ⟨(l[k]).1, (hs.ext e3).fld hy hA (k := 0) rfl, by omega, by omega, hs.get hil fun B hB => ⟨(l[i]).1, (hs.ext e3).fld hx hB (k := 0) rfl, ?_⟩⟩⟩
    refine cnd_beq (fun heq => ?_) (fun hne => ⟨_, ?_, by rw [hk1]; omega, by rw [hk1]; omega, rfl, e3⟩)
    · refine ⟨by omega, by omega, hs.get hkl fun A hA => ⟨(l[k]).2.2.1, (hs.ext e4).fld hy hA (k := 2) rfl, by omega, by omega, hs.get hil fun B hB => ⟨(l[i]).2.1, (hs.ext e4).fld hx hB (k := 1) rfl, ?_⟩⟩⟩
      refine cnd_bne (fun hne => ?_) (fun heq2 => ⟨l.length - (i + 1), by omega, i + 1, by rw [i64_id] <;> omega, by omega, rfl, e4⟩)
      refine CallT.mono (dunnagelaw26_awake.spec w2.drew.drew) ?_
      rintro _ w3 ⟨rfl, e5⟩
      exact ⟨rfl, e4.tr e5⟩
    · rw [hk1]; omega
  have c1 := forward_Fold.spec (hs.ext he) hl
  refine CallT.mono c1 ?_
  rintro f w2 ⟨hf, e2⟩
  have e2 := he.tr e2
  refine CallT.mono (dunnagelaw26_awake.spec w2) ?_
  rintro _ w3 ⟨rfl, e3⟩
  have hf3 := hf.ext e3
  have e3 := e2.tr e3
  have hfl := hf.len
  have hfn := fold_len l
  refine cnd_false ⟨fun n x w' => ∃ i : Nat, x = (i : Int) ∧ i ≤ l.length ∧ n = l.length - i ∧ Ext w3 w', ⟨_, 0, rfl, by omega, rfl, Upd.refl _ _⟩, ?_⟩
  rintro n _ j3 w4 ⟨i, rfl, hi, rfl, e4⟩
  refine cnd_dec (fun hlt => ?_) (fun hge => ?_)
  · have hil : i < l.length := by omega
    have hx : l[i]? = some l[i] := List.getElem?_eq_getElem hil
    refine ⟨fun n x w' => ∃ k : Nat, x = (!seenM (l.take k) (l[i]).1, (k : Int)) ∧ k ≤ i ∧ n = i - k ∧ Ext w3 w', ⟨_, 0, rfl, by omega, rfl, e4⟩, ?_⟩
    rintro n _ j4 w5 ⟨k, rfl, hk, rfl, e5⟩
    dsimp only
    have e6 : Ext w3 w5.drew := e5.drew
    have ew : Ext w w5.drew := e3.tr e6
    refine cnd_dec (fun hlt2 => ?_) (fun hge2 => ?_)
    · have hkl : k < l.length := by omega
      have hy : l[k]? = some l[k] := List.getElem?_eq_getElem hkl
      have hsu := seenM_succ hy (l[i]).1
      have hw : IntKind.i64.wrap ((k : Int) + 1) = ((k + 1 : Nat) : Int) := by rw [i64_id] <;> omega
      refine cnd_intro (fun ht => ?_) (fun hff => ⟨i - (k + 1), by omega, k + 1, by rw [hw, hsu]; simp at hff; simp [hff], by omega, rfl, e6⟩)
      refine ⟨by omega, by omega, hs.get hkl fun A hA => ⟨(l[k]).1, (hs.ext ew).fld hy hA (k := 0) rfl, by omega, by omega, hs.get hil fun B hB => ⟨(l[i]).1, (hs.ext ew).fld hx hB (k := 0) rfl, i - (k + 1), by omega, k + 1, ?_, by omega, rfl, e6⟩⟩⟩
      rw [hw, hsu]
      simp at ht
      simp [ht]; rfl
    · have hki : k = i := by omega
      subst hki
      refine ⟨fun w' => Ext w3 w', e6, cnd_intro (fun hfirst => ?_) (fun _ => ⟨l.length - (k + 1), by omega, k + 1, by rw [i64_id] <;> omega, by omega, rfl, e6⟩)⟩
      have hfirst : seenM (l.take k) (l[k]).1 = false := by simpa using hfirst
      have fld : ∀ {A : Addr}, s.a = some A → ∀ {q : Nat} {v : Value}, (encMv l[k])[q]? = some v → ∀ w', Ext w3 w' → w'.cell? ((A.add (k * 4)).add q) = some v := fun hA _ _ hv w' h => (hs.ext (e3.tr h)).fld hx hA hv
      refine ⟨by omega, by omega, hs.get hil fun A hA => ⟨(l[k]).1, fld hA (q := 0) rfl, by omega, by omega, hs.get hil fun A hA => ⟨(l[k]).2.1, fld hA (q := 1) rfl, by omega, by omega, hs.get hil fun A hA => ⟨(l[k]).1, fld hA (q := 0) rfl, by omega, by omega, hs.get hil fun A hA => ⟨(l[k]).2.1, fld hA (q := 1) rfl, ?_⟩⟩⟩⟩⟩
      have c2 := forward_Where.spec (hf3.ext e6).rd (by omega) (l[k]).1 (l[k]).2.1
      refine CallT.mono c2 ?_
      rintro _ w6 ⟨rfl, e7⟩
      have e7 := e6.tr e7
      have c3 := forward_Where.spec (hs.ext (e3.tr e7)) (by omega) (l[k]).1 (l[k]).2.1
      refine ⟨e7, CallT.mono c3 ?_⟩
      rintro _ w7 ⟨rfl, e8⟩
      have e8 := e7.tr e8
      exact ⟨e8, cnd_neg (by rw [fold_first hx hfirst]; simp) ⟨l.length - (k + 1), by omega, k + 1, by rw [i64_id] <;> omega, by omega, rfl, e8⟩⟩
  refine ⟨fun n x w' => ∃ i : Nat, x = (i : Int) ∧ i ≤ (foldM l).length ∧ n = (foldM l).length - i ∧ Ext w3 w', ⟨_, 0, rfl, by omega, rfl, e4⟩, ?_⟩
  rintro n _ j5 w5 ⟨i, rfl, hi, rfl, e5⟩
  refine cnd_dec (fun hlt => ?_) (fun hge => ?_)
  · have hil : i < (foldM l).length := by omega
    have hx : (foldM l)[i]? = some (foldM l)[i] := List.getElem?_eq_getElem hil
    refine ⟨fun n x w' => ∃ k : Nat, x = (k : Int) ∧ k ≤ i ∧ n = i - k ∧ Ext w3 w', ⟨_, 0, rfl, by omega, rfl, e5⟩, ?_⟩
    rintro n _ j6 w6 ⟨k, rfl, hk, rfl, e6⟩
    refine cnd_dec (fun hlt2 => ?_) (fun hge2 => ⟨(foldM l).length - (i + 1), by omega, i + 1, by rw [i64_id] <;> omega, by omega, rfl, e6⟩)
    have hkl : k < (foldM l).length := by omega
    have hy : (foldM l)[k]? = some (foldM l)[k] := List.getElem?_eq_getElem hkl
    have e7 : Ext w3 w6.drew := e6.drew
    have hr := (hf3.ext e7).rd
    refine ⟨by omega, by omega, hr.get hkl fun A hA => ⟨((foldM l)[k]).1, hr.fld hy hA (k := 0) rfl, by omega, by omega, hr.get hil fun B hB => ⟨((foldM l)[i]).1, hr.fld hx hB (k := 0) rfl, ?_⟩⟩⟩
    refine cnd_beq (fun heq => absurd (fold_apart hy hx heq) (by omega)) (fun _ => ⟨i - (k + 1), by omega, k + 1, by rw [i64_id] <;> omega, by omega, rfl, e7⟩)
  have hf5 := (hf3.ext e5)
  have c4 := forward_Fold.spec hf5.rd (by omega)
  refine CallT.mono c4 ?_
  rintro g w6 ⟨hg, e6⟩
  have c5 := dunnagehelp_Plain_api_Move.spec hg.rd (hf5.ext e6).rd (by rw [fold_fold]; omega)
  refine CallT.mono c5 ?_
  rintro _ w7 ⟨rfl, e7⟩
  exact cnd_pos (by simp [fold_fold]) ⟨by simp; omega, ((e3.tr e5).tr e6).tr e7⟩

abbrev dsMovesR : DS := .slice T.api_Move 4 (.struct (.cons 0 1 (.int .u64) (.cons 1 1 (.int .i64) (.cons 2 1 (.int .i64) (.cons 3 1 (.int .i64) .nil)))))
theorem moves_reach {w : World} {a : Option Addr} {len cap : Nat} (h : DS.rel w (bdReach Try.prog) bsReach dsMovesR [.slice a len cap]) : ∃ l : List Mv, RdM w ⟨a, len, cap⟩ l ∧ len ≤ cap ∧ cap * 32 ≤ 140737488351232 := by
  obtain ⟨l, h1, h2, h3⟩ := rel_moves h
  refine ⟨l, h1, h2, ?_⟩
  rcases h3 with h3 | h3
  · omega
  · have hb : Try.prog.bytesOf T.api_Move = 32 := by kernel_rfl
    unfold bdReach at h3
    rw [hb] at h3
    exact h3
theorem dunnagelaw26_ForwardFolds.row {w : World} {a0 : Option Addr} {len0 cap0 : Nat} (h0 : DS.rel w (bdReach Try.prog) bsReach dsMovesR [.slice a0 len0 cap0]) :
    CallT [.one .bool] Try.prog F.dunnagelaw26_ForwardFolds [.slice a0 len0 cap0] w fun r w' => r = true ∧ Ext w w' := by
  obtain ⟨l, hl, hc, hb⟩ := moves_reach h0
  refine dunnagelaw26_ForwardFolds.spec hl ?_
  have := hl.len
  simp only at this
  omega
end Go.Proofs
