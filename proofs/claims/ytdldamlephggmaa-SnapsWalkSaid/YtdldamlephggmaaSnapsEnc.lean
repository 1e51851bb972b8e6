/- Pins: their cells; which tables may be, in plain Lean. Conditions: none. -/
import Derived.Test.YtdldamlephggmaaRows4
import Derived.Test.YtdldamlephggmaaSpare
import Derived.Test.YtdldamlephggmaaSetS
import Derived.Test.YtdldamlephggmaaBlk
import Derived.Test.YtdldamlephggmaaCondF
namespace Go.Proofs
open Go Go.Vc
abbrev Pn := Int × Int
@[reducible] def encPn (m : Pn) : List Value := [.int .i64 m.1, .int .i64 m.2]
theorem encPn_len (m : Pn) : (encPn m).length = 2 := rfl
theorem encPn_one (m : Pn) : ∀ v ∈ encPn m, v.oneCell' = true := by
  intro v hv
  simp only [encPn, List.mem_cons, List.not_mem_nil, or_false] at hv
  rcases hv with rfl | rfl <;> rfl
theorem encPn_eq (a b : Pn) : (a.1 == b.1 && (a.2 == b.2 && true)) = decide (a = b) := by
  obtain ⟨p1, p2⟩ := a
  obtain ⟨q1, q2⟩ := b
  simp only [Bool.and_true, Prod.mk.injEq, Bool.decide_and]
  rfl
def lastId (l : List Pn) : Int := match l.getLast? with | some x => x.1 | none => 0
theorem lastId_nil : lastId [] = 0 := rfl
theorem lastId_snoc (l : List Pn) (x : Pn) : lastId (l ++ [x]) = x.1 := by simp [lastId]
def hasRoot (l : List Pn) (r : Int) : Bool := l.any fun y => y.2 == r
def okAt (next : Int) (pre : List Pn) (x : Pn) : Bool := decide (lastId pre < x.1) && decide (x.1 < next) && decide (1 ≤ x.2) && decide (x.2 ≤ 8) && !hasRoot pre x.2
def okL (next : Int) (l : List Pn) : Nat → Bool
  | 0 => true
  | i + 1 => okL next l i && (match l[i]? with | some x => okAt next (l.take i) x | none => true)
def rightB (next : Int) (l : List Pn) : Bool := decide (1 ≤ next) && decide (next ≤ 4611686018427387904) && decide (l.length ≤ 8) && okL next l l.length
theorem okL_succ {next : Int} {l : List Pn} {i : Nat} {x : Pn} (hx : l[i]? = some x) : okL next l (i + 1) = (okL next l i && okAt next (l.take i) x) := by
  rw [okL, hx]
theorem okL_false {next : Int} {l : List Pn} {i : Nat} (h : okL next l i = false) : ∀ k, okL next l (i + k) = false
  | 0 => h
  | k + 1 => by rw [← Nat.add_assoc, okL, okL_false h k]; rfl
theorem okL_stop {next : Int} {l : List Pn} {i : Nat} {x : Pn} (hx : l[i]? = some x) (h : okAt next (l.take i) x = false) : okL next l l.length = false := by
  have hi : i < l.length := (List.getElem?_eq_some_iff.1 hx).1
  have h1 : okL next l (i + 1) = false := by rw [okL_succ hx, h, Bool.and_false]
  have := okL_false h1 (l.length - (i + 1))
  rwa [show i + 1 + (l.length - (i + 1)) = l.length by omega] at this
theorem okL_at {next : Int} {l : List Pn} : ∀ {n : Nat}, okL next l n = true → ∀ {i : Nat} {x : Pn}, i < n → l[i]? = some x → okAt next (l.take i) x = true
  | 0, _, i, x, hi, _ => by omega
  | n + 1, h, i, x, hi, hx => by
    rw [okL, Bool.and_eq_true] at h
    rcases Nat.lt_succ_iff_lt_or_eq.1 hi with h1 | rfl
    · exact okL_at h.1 h1 hx
    · rw [hx] at h; exact h.2
theorem okAt_iff {next : Int} {pre : List Pn} {x : Pn} : okAt next pre x = true ↔ lastId pre < x.1 ∧ x.1 < next ∧ 1 ≤ x.2 ∧ x.2 ≤ 8 ∧ hasRoot pre x.2 = false := by
  simp only [okAt, Bool.and_eq_true, decide_eq_true_eq, Bool.not_eq_true', and_assoc]
theorem okAt_no {next : Int} {pre : List Pn} {x : Pn} (h : ¬ (lastId pre < x.1 ∧ x.1 < next ∧ 1 ≤ x.2 ∧ x.2 ≤ 8 ∧ hasRoot pre x.2 = false)) : okAt next pre x = false := by
  cases hb : okAt next pre x with
  | false => rfl
  | true => exact absurd (okAt_iff.1 hb) h
theorem rightB_iff {next : Int} {l : List Pn} : rightB next l = true ↔ 1 ≤ next ∧ next ≤ 4611686018427387904 ∧ l.length ≤ 8 ∧ okL next l l.length = true := by
  simp only [rightB, Bool.and_eq_true, decide_eq_true_eq, and_assoc]
theorem rightB_no {next : Int} {l : List Pn} (h : ¬ (1 ≤ next ∧ next ≤ 4611686018427387904 ∧ l.length ≤ 8 ∧ okL next l l.length = true)) : rightB next l = false := by
  cases hb : rightB next l with
  | false => rfl
  | true => exact absurd (rightB_iff.1 hb) h
theorem take_snoc {α : Type} {l : List α} {i : Nat} {x : α} (hx : l[i]? = some x) : l.take (i + 1) = l.take i ++ [x] := by
  rw [List.take_add_one, hx, Option.toList_some]
theorem hasRoot_snoc (l : List Pn) (x : Pn) (r : Int) : hasRoot (l ++ [x]) r = (hasRoot l r || x.2 == r) := by simp [hasRoot]
/-- A right table's numbers: each above 0, and the last one the greatest. -/
theorem okL_ids {next : Int} {l : List Pn} : ∀ {n : Nat}, okL next l n = true → n ≤ l.length → 0 ≤ lastId (l.take n) ∧ ∀ x ∈ l.take n, 1 ≤ x.1 ∧ x.1 ≤ lastId (l.take n) ∧ x.1 < next ∧ 1 ≤ x.2 ∧ x.2 ≤ 8
  | 0, _, _ => by simp [lastId_nil]
  | n + 1, h, hn => by
    have hx : l[n]? = some l[n] := List.getElem?_eq_getElem (by omega)
    rw [okL_succ hx, Bool.and_eq_true] at h
    obtain ⟨h1, h2⟩ := okL_ids h.1 (by omega)
    obtain ⟨g1, g2, g3, g4, _⟩ := okAt_iff.1 h.2
    rw [take_snoc hx, lastId_snoc]
    refine ⟨by omega, fun x hm => ?_⟩
    rcases List.mem_append.1 hm with hm | hm
    · have := h2 x hm; omega
    · rw [List.mem_singleton] at hm; subst hm; omega
/-! ### the least root that is free -/
def freeF (l : List Pn) : Nat → Int → Int
  | 0, r => r
  | n + 1, r => if hasRoot l r = true then freeF l n (r + 1) else r
def freeM (l : List Pn) : Int := freeF l 9 1
theorem freeF_spec (l : List Pn) : ∀ (n : Nat) (r : Int), r ≤ freeF l n r ∧ freeF l n r ≤ r + n ∧ (∀ k, r ≤ k → k < freeF l n r → hasRoot l k = true) ∧ (freeF l n r < r + n → hasRoot l (freeF l n r) = false)
  | 0, r => ⟨by simp [freeF], by simp [freeF], fun k h1 h2 => by simp only [freeF] at h2; omega, fun h => by simp only [freeF] at h; omega⟩
  | n + 1, r => by
    rw [freeF]
    split
    · rename_i h
      obtain ⟨h1, h2, h3, h4⟩ := freeF_spec l n (r + 1)
      refine ⟨by omega, by omega, fun k hk hk2 => ?_, fun hlt => h4 (by omega)⟩
      by_cases hr : k = r
      · subst hr; exact h
      · exact h3 k (by omega) hk2
    · rename_i h
      exact ⟨by omega, by omega, fun k h1 h2 => by omega, fun _ => by simpa using h⟩
/-- So many roots ask for as many pins. -/
theorem roots_count : ∀ (m : Nat) (L : List Int), (∀ k : Nat, 1 ≤ k → k ≤ m → (k : Int) ∈ L) → m ≤ L.length
  | 0, _, _ => Nat.zero_le _
  | m + 1, L, h => by
    have hm : ((m + 1 : Nat) : Int) ∈ L := h (m + 1) (by omega) (Nat.le_refl _)
    have := roots_count m (L.erase ((m + 1 : Nat) : Int)) fun k h1 h2 => (List.mem_erase_of_ne (by omega)).2 (h k h1 (by omega))
    rw [List.length_erase_of_mem hm] at this
    have hp := List.length_pos_of_mem hm
    omega
theorem hasRoot_mem {l : List Pn} {r : Int} : hasRoot l r = true ↔ r ∈ l.map Prod.snd := by
  simp [hasRoot]
theorem free_le {l : List Pn} (hl : l.length < 8) : 1 ≤ freeM l ∧ freeM l ≤ 8 ∧ hasRoot l (freeM l) = false := by
  obtain ⟨h1, h2, h3, h4⟩ := freeF_spec l 9 1
  have hle : freeM l ≤ 8 := by
    rcases Int.lt_or_le 8 (freeM l) with h | h
    · exfalso
      have := roots_count 8 (l.map Prod.snd) fun k k1 k2 => hasRoot_mem.1 (h3 k (by omega) (by unfold freeM at h; omega))
      rw [List.length_map] at this
      omega
    · exact h
  exact ⟨h1, hle, h4 (by unfold freeM at hle; omega)⟩
/-! ### what each call makes -/
def pinF (next : Int) (l : List Pn) : (Int × List Pn) × Pn × Int :=
  if rightB next l = true then (if 8 ≤ l.length ∨ 4611686018427387904 ≤ next then ((0, []), (0, 0), 3) else ((next + 1, l ++ [(next, freeM l)]), (next, freeM l), 0)) else ((0, []), (0, 0), 11)
def rootF (next : Int) (l : List Pn) (id : Int) : Int × Bool :=
  if rightB next l = true then (match l.find? (fun x => x.1 == id) with | some x => (x.2, true) | none => (0, false)) else (0, false)
def relF (next : Int) (l : List Pn) (id : Int) : (Int × List Pn) × Int × Int :=
  if rightB next l = true then (match l.find? (fun x => x.1 == id) with | some x => ((next, l.filter fun x => !(x.1 == id)), x.2, 0) | none => ((0, []), 0, 6)) else ((0, []), 0, 11)
end Go.Proofs
