/- Numbers as bytes, there and back: in plain Lean. Conditions: those that each lemma names. -/
import Derived.Test.YtinolellciikoaaWordR
namespace Go.Proofs
open Go Go.Vc
/-- What a number is as bytes is read as that number. -/
theorem rvGo_varB : ∀ (x n v : Nat) (rest : List UInt8), n ≤ 9 → x * 128 ^ n < 2 ^ 64 → (n = 0 ∨ 0 < x) → rvGo n v (varB x ++ rest) = (v + x * 128 ^ n, n + (varB x).length, 0) := by
  intro x
  induction x using Nat.strongRecOn with
  | ind x ih =>
    intro n v rest hn hx h0
    have hpos : 0 < 128 ^ n := Nat.pow_pos (by decide)
    by_cases hlt : x < 128
    · have hc : (UInt8.ofNat x).toNat = x := by simp; omega
      rw [varB_lt hlt, List.singleton_append, rvGo, hc, if_neg, if_pos hlt, Nat.mod_eq_of_lt hlt]
      · rfl
      · rintro (⟨rfl, h⟩ | ⟨h1, h2⟩)
        · have : 2 * 128 ^ 9 ≤ x * 128 ^ 9 := Nat.mul_le_mul_right _ h
          omega
        · omega
    · have hn8 : n ≤ 8 := by
        rcases Nat.lt_or_ge 8 n with h | h
        · have : n = 9 := by omega
          subst this
          have : 128 * 128 ^ 9 ≤ x * 128 ^ 9 := Nat.mul_le_mul_right _ (by omega)
          omega
        · exact h
      have hc : (UInt8.ofNat (x % 128 + 128)).toNat = x % 128 + 128 := by simp; omega
      have hdm : x = 128 * (x / 128) + x % 128 := (Nat.div_add_mod x 128).symm
      have hsplit : x * 128 ^ n = x % 128 * 128 ^ n + x / 128 * 128 ^ (n + 1) := by
        rw [Nat.pow_succ, Nat.mul_comm (128 ^ n) 128, ← Nat.mul_assoc, ← Nat.add_mul]
        congr 1; omega
      rw [varB_ge hlt, List.cons_append, rvGo, hc, if_neg (by omega), if_neg (by omega)]
      rw [ih (x / 128) (by omega) (n + 1) _ rest (by omega) (by omega) (.inr (by omega))]
      rw [show (x % 128 + 128) % 128 = x % 128 by omega, hsplit, List.length_cons]
      refine Prod.ext ?_ (Prod.ext ?_ rfl)
      · simp only; omega
      · simp only; omega
/-- Bytes that are read as a number are what that number is as bytes. -/
theorem varB_rvGo : ∀ (l : List UInt8) (n v : Nat) {v' n' : Nat}, n ≤ 9 → rvGo n v l = (v', n', 0) → ∃ x, v' = v + x * 128 ^ n ∧ varB x = l.take (n' - n) ∧ (n = 0 ∨ 0 < x) ∧ n < n'
  | [], n, v, v', n', _, h => by simp [rvGo] at h
  | c :: r, n, v, v', n', hn, h => by
    rw [rvGo] at h
    split at h
    · simp at h
    · rename_i hg
      split at h
      · rename_i hc
        simp only [Prod.mk.injEq, and_true] at h
        obtain ⟨rfl, rfl⟩ := h
        refine ⟨c.toNat, by rw [Nat.mod_eq_of_lt hc], ?_, by omega, by omega⟩
        rw [varB_lt hc, show n + 1 - n = 1 by omega]
        simp
      · rename_i hc
        by_cases h9 : n = 9
        · subst h9
          have : c.toNat ≤ 1 := by omega
          omega
        · obtain ⟨x, h1, h2, h3, h4⟩ := varB_rvGo r (n + 1) _ (by omega) h
          have hx : 0 < x := by omega
          have hcl := c.toNat_lt
          refine ⟨c.toNat % 128 + 128 * x, ?_, ?_, by omega, by omega⟩
          · rw [h1, Nat.pow_succ, Nat.add_mul, Nat.mul_comm (128 ^ n) 128, ← Nat.mul_assoc, Nat.mul_comm x 128]; omega
          · rw [varB_ge (by omega), show (c.toNat % 128 + 128 * x) / 128 = x by omega, show (c.toNat % 128 + 128 * x) % 128 + 128 = c.toNat by omega, h2, show n' - n = (n' - (n + 1)) + 1 by omega]
            simp
theorem readVar_nat (l : List UInt8) (a : Nat) : readVar l a = (match rvGo 0 0 (l.drop a) with | (v, n, e) => if e = 0 then ((v : Int), (a : Int) + n, 0) else (0, 0, e)) := by
  rw [readVar, if_neg (by omega), Int.toNat_natCast]
theorem readVar_varB {a rest : List UInt8} {x : Nat} (hx : x < 2 ^ 64) : readVar (a ++ (varB x ++ rest)) (a.length : Int) = ((x : Int), ((a.length + (varB x).length : Nat) : Int), 0) := by
  rw [readVar_nat, List.drop_left, rvGo_varB x 0 0 rest (by omega) (by simpa using hx) (.inl rfl)]
  simp
/-- What is read well: the number's bytes stand there. -/
theorem readVar_form {l : List UInt8} {a : Int} {x n : Int} (h : readVar l a = (x, n, 0)) : ∃ (k y m : Nat), a = k ∧ x = y ∧ n = m ∧ k < m ∧ m ≤ l.length ∧ y < 2 ^ 64 ∧ varB y = (l.drop k).take (m - k) := by
  unfold readVar at h
  split at h
  · simp at h
  · rename_i ha
    obtain ⟨k, rfl⟩ : ∃ k : Nat, a = k := ⟨a.toNat, by omega⟩
    rw [Int.toNat_natCast] at h
    generalize hq : rvGo 0 0 (l.drop k) = q at h
    obtain ⟨v, m, e⟩ := q
    dsimp only at h
    split at h
    · rename_i he
      subst he
      simp only [Prod.mk.injEq, and_true] at h
      obtain ⟨rfl, rfl⟩ := h
      obtain ⟨g1, g2, g3⟩ := rvGo_ok (l.drop k) 0 0 (by omega) (by decide) hq
      obtain ⟨y, f1, f2, f3, f4⟩ := varB_rvGo (l.drop k) 0 0 (by omega) hq
      rw [List.length_drop] at g2
      simp only [Nat.pow_zero, Nat.mul_one, Nat.zero_add] at f1
      subst f1
      refine ⟨k, v, k + m, rfl, rfl, by omega, by omega, by omega, g3, ?_⟩
      rw [f2, show k + m - k = m by omega, Nat.sub_zero]
    · rename_i he
      simp only [Prod.mk.injEq] at h
      exact absurd h.2.2 he
end Go.Proofs
