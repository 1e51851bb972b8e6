/- The document's Where, Fold, Apply of chapter 26, and forward.Apply. Conditions: those of each contract. -/
import Derived.Test.YtdldamlephggmaaCond2
import Derived.Test.YtdldamlephggmaaHelpEn
import Derived.Test.YtdldamlephggmaaHelpMv
import Derived.Test.YtdldamlephggmaaFold
namespace Go.Proofs
open Go Go.Vc
theorem dunnageref26_Where.spec {w : World} {s : SV} {l : List Mv} (hs : RdM w s l) (hl : l.length < 2 ^ 62) (serial at_ : Int) :
    CallT [.one (.int .i64)] Try.prog F.dunnageref26_Where [.slice s.a s.len s.cap, .int .u64 serial, .int .i64 at_] w fun r w' => r = whereM l serial at_ ∧ w = w' := by
  refine dunnageref26_Where.vc s serial at_ w _ ?_
  have hsl := hs.len
  refine ⟨fun n x w' => ∃ i : Nat, x.2 = i ∧ x.1 = whereM (l.take i) serial at_ ∧ i ≤ l.length ∧ n = l.length - i ∧ w = w', ⟨_, 0, rfl, rfl, by omega, rfl, rfl⟩, ?_⟩
  rintro n ⟨c, i'⟩ j _ ⟨i, h2, h1, hi, rfl, rfl⟩
  dsimp only at h1 h2 ⊢
  subst h1 h2
  refine cnd_dec (fun hlt => ?_) (fun hge => ?_)
  · have hil : i < l.length := by omega
    have hx : l[i]? = some l[i] := List.getElem?_eq_getElem hil
    have hst := whereM_take hx serial at_
    generalize l[i] = m at hx hst
    have hw : IntKind.i64.wrap ((i : Int) + 1) = ((i + 1 : Nat) : Int) := by rw [i64_id] <;> omega
    refine ⟨fun b w' => w = w' ∧ b = decide (m.1 = serial ∧ m.2.1 = whereM (l.take i) serial at_), ⟨by omega, by omega, hs.get hil fun A hA => ⟨m.1, hs.fld hx hA (k := 0) rfl, cnd_beq (fun h1 => ?_) (fun h1 => ⟨rfl, by simp [h1]⟩)⟩⟩, ?_⟩
    · refine ⟨by omega, by omega, hs.get hil fun A hA => ⟨m.2.1, hs.fld hx hA (k := 1) rfl, rfl, ?_⟩⟩
      by_cases h2 : m.2.1 = whereM (l.take i) serial at_
      · rw [decide_eq_true ⟨h1, h2⟩]; exact beq_iff_eq.2 h2
      · rw [decide_eq_false (fun h => h2 h.2)]; exact beq_eq_false_iff_ne.2 h2
    · rintro _ _ _ ⟨rfl, rfl⟩
      refine cnd_dec (fun hc => ?_) (fun hc => ⟨l.length - (i + 1), by omega, i + 1, hw, ?_, by omega, rfl, rfl⟩)
      · refine ⟨by omega, by omega, hs.get hil fun A hA => ⟨m.2.2.1, hs.fld hx hA (k := 2) rfl, l.length - (i + 1), by omega, i + 1, hw, ?_, by omega, rfl, rfl⟩⟩
        rw [hst, stepM, if_pos hc]
      · rw [hst, stepM, if_neg hc]
  · have : i = l.length := by omega
    subst this
    rw [List.take_length]
    exact ⟨rfl, rfl⟩
theorem dunnageref26_Fold.spec {w : World} {s : SV} {l : List Mv} (hs : RdM w s l) (hl : l.length * 32 ≤ 140737488351232) :
    CallT [.one .slice] Try.prog F.dunnageref26_Fold [.slice s.a s.len s.cap] w fun o w' => OwnM w' w.heap.size o (foldM l) ∧ Ext w w' := by
  refine dunnageref26_Fold.vc s w _ ?_
  have hsl := hs.len
  refine ⟨fun n x w' => ∃ i : Nat, x.2 = i ∧ i ≤ l.length ∧ n = l.length - i ∧ OwnM w' w.heap.size x.1 (foldK l i) ∧ Ext w w', ⟨_, 0, rfl, by omega, rfl, OwnS.nil encMv_len (by decide) _ _ _, Upd.refl _ _⟩, ?_⟩
  rintro n ⟨o, i'⟩ j w1 ⟨i, h2, hi, rfl, ho, he⟩
  dsimp only at h2 ho ⊢
  subst h2
  refine cnd_dec (fun hlt => ?_) (fun hge => ?_)
  · have hil : i < l.length := by omega
    have hx : l[i]? = some l[i] := List.getElem?_eq_getElem hil
    have hK := foldK_succ hx
    generalize hmm : l[i] = m at hx hK
    have hw : IntKind.i64.wrap ((i : Int) + 1) = ((i + 1 : Nat) : Int) := by rw [i64_id] <;> omega
    refine ⟨fun n x w' => ∃ k : Nat, x = (seenM (l.take k) m.1, (k : Int)) ∧ k ≤ i ∧ n = i - k ∧ Ext w1 w', ⟨_, 0, rfl, by omega, rfl, Upd.refl _ _⟩, ?_⟩
    rintro n _ j2 w2 ⟨k, rfl, hk, rfl, e2⟩
    dsimp only
    have ew := he.tr e2
    refine cnd_dec (fun hlt2 => ?_) (fun hge2 => ?_)
    · have hkl : k < l.length := by omega
      have hy : l[k]? = some l[k] := List.getElem?_eq_getElem hkl
      have hsu := seenM_succ hy m.1
      have hwk : IntKind.i64.wrap ((k : Int) + 1) = ((k + 1 : Nat) : Int) := by rw [i64_id] <;> omega
      have e3 : Ext w1 w2.drew := e2.drew
      have e3w : Ext w w2.drew := ew.drew
      refine cnd_intro (fun ht => ⟨i - (k + 1), by omega, k + 1, by rw [hwk, hsu, ht]; rfl, by omega, rfl, e3⟩) (fun hf => ?_)
      refine ⟨by omega, by omega, hs.get hkl fun A hA => ⟨(l[k]).1, (hs.ext e3w).fld hy hA (k := 0) rfl, by omega, by omega, hs.get hil fun B hB => ⟨m.1, (hs.ext e3w).fld hx hB (k := 0) rfl, i - (k + 1), by omega, k + 1, by rw [hwk, hsu, hf]; rfl, by omega, rfl, e3⟩⟩⟩
    · have hki : k = i := by omega
      subst hki
      refine ⟨by omega, by omega, hs.get hil fun A hA => ⟨m, (hs.ext ew).at_ hx hA, ?_⟩⟩
      refine ⟨canSt_fresh w2 T.api_Move [_, _, _, _] (Nat.le_refl 4), ?_⟩
      generalize hw3 : setCells _ _ _ _ = w3
      obtain ⟨e3, _, b3⟩ := fresh_of (T := T.api_Move) (vs := encMv m) hw3 rfl
      clear hw3
      have ew3 := ew.tr e3
      rw [add_mk, add_mk, add_mk]
      refine ⟨m.1, cell_blk b3, m.2.1, cell_blk b3, ?_⟩
      refine CallT.mono (dunnageref26_Where.spec (hs.ext ew3) (by omega) m.1 m.2.1) ?_
      rintro _ _ ⟨rfl, rfl⟩
      refine set_ok (o := 0 + 2) b3 (by simp) ?_
      obtain ⟨u4, z4, b4, _⟩ := set_facts (o := 0 + 2) b3 (.int .i64 (whereM l m.1 m.2.1))
      have e4 : Ext w2 (w3.setCell ⟨w2.heap.size, 0 + 2, none⟩ (.int .i64 (whereM l m.1 m.2.1))) := e3.trans u4 fun x hx e => by omega
      generalize w3.setCell ⟨w2.heap.size, 0 + 2, none⟩ (.int .i64 (whereM l m.1 m.2.1)) = w4 at *
      have b4 : w4.heap[w2.heap.size]? = some (.cells (encMv (m.1, m.2.1, whereM l m.1 m.2.1, m.2.2.2)).toArray T.api_Move) := b4
      have e4w := ew.tr e4
      have hol := ho.len
      have hfl := foldK_len l k
      have ho4 := (ho.ext e2).ext e4
      refine ⟨fun b w' => w4 = w' ∧ b = (!seenM (l.take k) m.1 && decide (whereM l m.1 m.2.1 ≠ m.2.1)), cnd_not (fun hf => ⟨_, cell_blk b4, m.2.1, cell_blk b4, rfl, ?_⟩) (fun ht => ⟨rfl, by rw [ht]; rfl⟩), ?_⟩
      · rw [hf]
        by_cases h : whereM l m.1 m.2.1 = m.2.1 <;> simp [h]
      · rintro _ _ _ ⟨rfl, rfl⟩
        refine cnd_intro (fun ht => ?_) (fun hf => ?_)
        · simp only [Bool.and_eq_true, Bool.not_eq_true', decide_eq_true_eq] at ht
          refine ⟨(m.1, m.2.1, whereM l m.1 m.2.1, m.2.2.2), cellsAt_blk b4 (fun j v hv => by rw [Nat.zero_add, List.getElem?_toArray]; exact hv), ?_⟩
          refine app_new (vs := encMv (m.1, m.2.1, whereM l m.1 m.2.1, m.2.2.2)) appM e4w ho4.own rfl (encMv_one _) (by omega) ?_
          intro s' w5 ho5 he5 _ _
          refine ⟨l.length - (k + 1), by omega, k + 1, hw, by omega, rfl, ⟨?_, encMv_len, by decide⟩, he5⟩
          rw [hK, emit, if_neg (by simp [ht.1]), if_neg ht.2, List.flatMap_append]
          simpa using ho5
        · refine ⟨l.length - (k + 1), by omega, k + 1, hw, by omega, rfl, ?_, e4w⟩
          rw [hK, emit]
          by_cases hse : seenM (l.take k) m.1 = true
          · rw [if_pos hse, List.append_nil]; exact ho4
          · rw [if_neg hse, if_pos (by simp at hse; simp [hse] at hf; exact hf), List.append_nil]; exact ho4
  · have : i = l.length := by omega
    subst this
    exact ⟨ho, he⟩

/-- What becomes of an entry. -/
def apply1 (l : List Mv) (e : En) : En := (e.1, e.2.1, whereM l e.2.1 e.2.2.1, e.2.2.2)
def applyM (t : List En) (l : List Mv) : List En := t.map (apply1 l)
theorem dunnageref26_Apply.spec {w : World} {s t : SV} {l : List Mv} {en : List En} (ht : RdS encEn 4 w t en) (hs : RdM w s l) (hl : l.length < 2 ^ 62) (hen : en.length * 40 ≤ 140737488351232) :
    CallT [.one .slice] Try.prog F.dunnageref26_Apply [.slice t.a t.len t.cap, .slice s.a s.len s.cap] w fun o w' => OwnS encEn 4 T.api_Entry w' w.heap.size o (applyM en l) ∧ Ext w w' := by
  refine dunnageref26_Apply.vc t s w _ ?_
  have htl := ht.len
  refine ⟨fun n x w' => ∃ i : Nat, x.2 = i ∧ i ≤ en.length ∧ n = en.length - i ∧ OwnS encEn 4 T.api_Entry w' w.heap.size x.1 (applyM (en.take i) l) ∧ Ext w w', ⟨_, 0, rfl, by omega, rfl, OwnS.nil encEn_len (by decide) _ _ _, Upd.refl _ _⟩, ?_⟩
  rintro n ⟨o, i'⟩ j w1 ⟨i, h2, hi, rfl, ho, he⟩
  dsimp only at h2 ho ⊢
  subst h2
  refine cnd_dec (fun hlt => ?_) (fun hge => ?_)
  · have hil : i < en.length := by omega
    have hx : en[i]? = some en[i] := List.getElem?_eq_getElem hil
    have hT : applyM (en.take (i + 1)) l = applyM (en.take i) l ++ [apply1 l en[i]] := by simp only [applyM]; rw [List.take_add_one, hx, Option.toList_some, List.map_append]; rfl
    generalize en[i] = e at hx hT
    have hw : IntKind.i64.wrap ((i : Int) + 1) = ((i + 1 : Nat) : Int) := by rw [i64_id] <;> omega
    refine ⟨by omega, by omega, ht.get hil fun A hA => ⟨e, (ht.ext he).at_ hx hA, ?_⟩⟩
    refine ⟨canSt_fresh w1 T.api_Entry [_, _, _, _] (Nat.le_refl 4), ?_⟩
    generalize hw3 : setCells _ _ _ _ = w3
    obtain ⟨e3, _, b3⟩ := fresh_of (T := T.api_Entry) (vs := encEn e) hw3 rfl
    clear hw3
    have ew3 := he.tr e3
    simp only [add_mk]
    refine ⟨e.2.1, cell_blk b3, e.2.2.1, cell_blk b3, ?_⟩
    refine CallT.mono (dunnageref26_Where.spec (hs.ext ew3) hl e.2.1 e.2.2.1) ?_
    rintro _ _ ⟨rfl, rfl⟩
    refine set_ok (o := 0 + 1 + 1) b3 (by simp) ?_
    obtain ⟨u4, z4, b4, _⟩ := set_facts (o := 0 + 1 + 1) b3 (.int .i64 (whereM l e.2.1 e.2.2.1))
    have e4 : Ext w1 (w3.setCell ⟨w1.heap.size, 0 + 1 + 1, none⟩ (.int .i64 (whereM l e.2.1 e.2.2.1))) := e3.trans u4 fun x hx e => by omega
    generalize w3.setCell ⟨w1.heap.size, 0 + 1 + 1, none⟩ (.int .i64 (whereM l e.2.1 e.2.2.1)) = w4 at *
    have b4 : w4.heap[w1.heap.size]? = some (.cells (encEn (apply1 l e)).toArray T.api_Entry) := b4
    have e4w := he.tr e4
    have ho4 := ho.ext e4
    have hol := ho.len
    have hal : (applyM (en.take i) l).length = i := by simp [applyM]; omega
    refine ⟨apply1 l e, cellsAt_blk b4 (fun j v hv => by rw [Nat.zero_add, List.getElem?_toArray]; exact hv), ?_⟩
    refine app_new (vs := encEn (apply1 l e)) app_api_Entry e4w ho4.own rfl (encEn_one _) (by omega) ?_
    intro s' w5 ho5 he5 _ _
    refine ⟨en.length - (i + 1), by omega, i + 1, hw, by omega, rfl, ⟨?_, encEn_len, by decide⟩, he5⟩
    rw [hT, List.flatMap_append]
    simpa using ho5
  · have : i = en.length := by omega
    subst this
    rw [List.take_length] at ho
    exact ⟨ho, he⟩
end Go.Proofs
