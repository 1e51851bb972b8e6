/- What folded moves are: one of each record, to the same end; folded again, the same. Conditions: none. -/
import Derived.Test.YtdldamlephggmaaFold
namespace Go.Proofs
open Go Go.Vc
theorem seenM_iff {p : List Mv} {s : Int} : seenM p s = true ↔ ∃ m ∈ p, m.1 = s := by simp [seenM]
theorem mem_take {l : List Mv} {i : Nat} {m : Mv} : m ∈ l.take i ↔ ∃ k, k < i ∧ l[k]? = some m := by
  rw [List.mem_iff_getElem?]
  constructor
  · rintro ⟨k, hk⟩
    rw [List.getElem?_take] at hk
    split at hk
    · exact ⟨k, by assumption, hk⟩
    · simp at hk
  · rintro ⟨k, h1, h2⟩
    exact ⟨k, by rw [List.getElem?_take, if_pos h1]; exact h2⟩
theorem foldK_mem {l : List Mv} {x : Mv} : ∀ {i : Nat}, i ≤ l.length → (x ∈ foldK l i ↔ ∃ k m, k < i ∧ l[k]? = some m ∧ seenM (l.take k) m.1 = false ∧ whereM l m.1 m.2.1 ≠ m.2.1 ∧ x = (m.1, m.2.1, whereM l m.1 m.2.1, m.2.2.2))
  | 0, _ => by simp [foldK]
  | i + 1, hi => by
    have hx : l[i]? = some l[i] := List.getElem?_eq_getElem (by omega)
    rw [foldK_succ hx, List.mem_append, foldK_mem (i := i) (by omega)]
    constructor
    · rintro (⟨k, m, hk, h⟩ | h)
      · exact ⟨k, m, by omega, h⟩
      · unfold emit at h
        split at h
        · simp at h
        · rename_i hs
          split at h
          · simp at h
          · rename_i hw
            exact ⟨i, l[i], by omega, hx, by simpa using hs, hw, by simpa using h⟩
    · rintro ⟨k, m, hk, h1, h2, h3, h4⟩
      by_cases hki : k = i
      · subst hki
        rw [hx] at h1
        obtain rfl := Option.some.inj h1
        exact .inr (by rw [emit, if_neg (by simp [h2]), if_neg h3]; simp [h4])
      · exact .inl ⟨k, m, by omega, h1, h2, h3, h4⟩
theorem foldK_serial {l : List Mv} {i : Nat} (hi : i ≤ l.length) {x : Mv} (h : x ∈ foldK l i) : seenM (l.take i) x.1 = true := by
  obtain ⟨k, m, hk, h1, _, _, rfl⟩ := (foldK_mem hi).1 h
  exact seenM_iff.2 ⟨m, mem_take.2 ⟨k, hk, h1⟩, rfl⟩
theorem foldK_nodup {l : List Mv} : ∀ {i : Nat}, i ≤ l.length → ((foldK l i).map (·.1)).Nodup
  | 0, _ => by simp [foldK]
  | i + 1, hi => by
    have hx : l[i]? = some l[i] := List.getElem?_eq_getElem (by omega)
    rw [foldK_succ hx, List.map_append, List.nodup_append]
    refine ⟨foldK_nodup (by omega), ?_, ?_⟩
    · unfold emit
      split
      · simp
      · split <;> simp
    · intro a ha b hb hab
      obtain ⟨x, hx1, rfl⟩ := List.mem_map.1 ha
      obtain ⟨y, hy1, rfl⟩ := List.mem_map.1 hb
      unfold emit at hy1
      split at hy1
      · simp at hy1
      · rename_i hs
        split at hy1
        · simp at hy1
        · simp only [List.mem_singleton] at hy1
          subst hy1
          have := foldK_serial (by omega) hx1
          rw [hab] at this
          exact hs this
/-- Where one's serial numbers are all unlike, at most one move counts. -/
theorem where_none {s : Int} : ∀ {f : List Mv} (a : Int), (∀ m ∈ f, m.1 ≠ s) → whereM f s a = a
  | [], _, _ => rfl
  | m :: r, a, h => by
    have hm : m.1 ≠ s := h m (.head _)
    show whereM r s (stepM s a m) = a
    rw [stepM, if_neg (fun h' => hm h'.1)]
    exact where_none a fun x hx => h x (.tail _ hx)
theorem where_one {s : Int} : ∀ {f : List Mv} (a : Int) {m : Mv}, (f.map (·.1)).Nodup → m ∈ f → m.1 = s → whereM f s a = if m.2.1 = a then m.2.2.1 else a
  | x :: r, a, m, hn, hm, hs => by
    rw [List.map_cons, List.nodup_cons] at hn
    show whereM r s (stepM s a x) = _
    by_cases hxs : x.1 = s
    · have hno : ∀ y ∈ r, y.1 ≠ s := fun y hy h => hn.1 (List.mem_map.2 ⟨y, hy, by rw [h, hxs]⟩)
      have : m = x := by
        rcases List.mem_cons.1 hm with h | h
        · exact h
        · exact absurd hs (hno m h)
      subst this
      rw [where_none _ hno, stepM]
      simp [hs]
    · rcases List.mem_cons.1 hm with rfl | h
      · exact absurd hs hxs
      · rw [stepM, if_neg (fun h' => hxs h'.1)]
        exact where_one a hn.2 h hs
theorem fold_first {l : List Mv} {i : Nat} {m : Mv} (h : l[i]? = some m) (hf : seenM (l.take i) m.1 = false) : whereM (foldM l) m.1 m.2.1 = whereM l m.1 m.2.1 := by
  have hil : i < l.length := (List.getElem?_eq_some_iff.1 h).1
  by_cases hw : whereM l m.1 m.2.1 = m.2.1
  · rw [hw]
    refine where_none _ fun x hx hxs => ?_
    obtain ⟨k, m', hk, h1, h2, h3, rfl⟩ := (foldK_mem (Nat.le_refl _)).1 hx
    dsimp only at hxs
    have hki : k = i := by
      rcases Nat.lt_trichotomy k i with h' | h' | h'
      · have : seenM (l.take i) m.1 = true := seenM_iff.2 ⟨m', mem_take.2 ⟨k, h', h1⟩, hxs⟩
        rw [hf] at this; cases this
      · exact h'
      · have : seenM (l.take k) m'.1 = true := seenM_iff.2 ⟨m, mem_take.2 ⟨i, h', h⟩, hxs.symm⟩
        rw [h2] at this; cases this
    subst hki
    rw [h] at h1
    obtain rfl := Option.some.inj h1
    exact h3 hw
  · have hm : (m.1, m.2.1, whereM l m.1 m.2.1, m.2.2.2) ∈ foldM l := (foldK_mem (Nat.le_refl _)).2 ⟨i, m, hil, h, hf, hw, rfl⟩
    rw [where_one (f := foldM l) (s := m.1) m.2.1 (foldK_nodup (Nat.le_refl _)) hm rfl]
    simp
theorem fold_self {g : List Mv} (hn : (g.map (·.1)).Nodup) (hg : ∀ m ∈ g, m.2.2.1 ≠ m.2.1) : foldM g = g := by
  have key : ∀ i, i ≤ g.length → foldK g i = g.take i := by
    intro i
    induction i with
    | zero => intro _; simp [foldK]
    | succ i ih =>
      intro hi
      have hx : g[i]? = some g[i] := List.getElem?_eq_getElem (by omega)
      rw [foldK_succ hx, ih (by omega), List.take_add_one, hx, Option.toList_some]
      congr 1
      have hmem : g[i] ∈ g := List.getElem_mem _
      have hw := where_one (s := (g[i]).1) (g[i]).2.1 hn hmem rfl
      rw [if_pos rfl] at hw
      have hs : seenM (g.take i) (g[i]).1 = false := by
        cases h : seenM (g.take i) (g[i]).1
        · rfl
        · obtain ⟨m, hm, hms⟩ := seenM_iff.1 h
          obtain ⟨k, hk, hk2⟩ := mem_take.1 hm
          have h1 : (g.map (·.1))[k]? = some (g[i]).1 := by simp [hk2, hms]
          have h2 : (g.map (·.1))[i]? = some (g[i]).1 := by simp [hx]
          have hkl : k < (g.map (·.1)).length := by simp; omega
          have := (List.getElem?_inj hkl hn).1 (h1.trans h2.symm)
          omega
      rw [emit, if_neg (by simp [hs]), hw, if_neg (hg _ hmem)]
  rw [foldM, key _ (Nat.le_refl _), List.take_length]
theorem fold_fold (l : List Mv) : foldM (foldM l) = foldM l := by
  refine fold_self (foldK_nodup (Nat.le_refl _)) fun m hm => ?_
  obtain ⟨k, m', _, _, _, h3, rfl⟩ := (foldK_mem (Nat.le_refl _)).1 hm
  exact h3
theorem fold_len (l : List Mv) : (foldM l).length ≤ l.length := foldK_len l l.length
theorem fold_apart {l : List Mv} {i k : Nat} {x y : Mv} (hi : (foldM l)[i]? = some x) (hk : (foldM l)[k]? = some y) (h : x.1 = y.1) : i = k := by
  have hn := foldK_nodup (l := l) (Nat.le_refl _)
  have h1 : ((foldK l l.length).map (·.1))[i]? = some x.1 := by
    have : (foldK l l.length)[i]? = some x := hi
    simp [this]
  have h2 : ((foldK l l.length).map (·.1))[k]? = some x.1 := by
    have : (foldK l l.length)[k]? = some y := hk
    simp [this, h]
  have hil : i < ((foldK l l.length).map (·.1)).length := (List.getElem?_eq_some_iff.1 h1).1
  exact (List.getElem?_inj hil hn).1 (h1.trans h2.symm)
end Go.Proofs
