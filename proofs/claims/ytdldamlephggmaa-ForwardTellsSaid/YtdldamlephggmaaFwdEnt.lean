/- Entries of a table: their cells. Conditions: none. -/
import Derived.Test.YtdldamlephggmaaFwd
import Derived.Test.YtdldamlephggmaaSpare
import Derived.MapKept
namespace Go.Proofs
open Go Go.Vc
abbrev En := ByteArray × Int × Int × Int
@[reducible] def encEn (m : En) : List Value := [.string m.1, .int .u64 m.2.1, .int .i64 m.2.2.1, .int .i64 m.2.2.2]
theorem encEn_len (m : En) : (encEn m).length = 4 := rfl
theorem encEn_one (m : En) : ∀ v ∈ encEn m, v.oneCell' = true := by
  intro v hv
  simp only [encEn, List.mem_cons, List.not_mem_nil, or_false] at hv
  rcases hv with rfl | rfl | rfl | rfl <;> rfl
theorem encMv_one (m : Mv) : ∀ v ∈ encMv m, v.oneCell' = true := by
  intro v hv
  simp only [encMv, List.mem_cons, List.not_mem_nil, or_false] at hv
  rcases hv with rfl | rfl | rfl | rfl <;> rfl
theorem bytes_dec (a b : ByteArray) : (a == b) = decide (a = b) := by
  by_cases h : a = b
  · rw [decide_eq_true h]; exact (MapKept.bytes_beq a b).2 h
  · rw [decide_eq_false h]
    cases hb : (a == b)
    · rfl
    · exact absurd ((MapKept.bytes_beq a b).1 hb) h
theorem encMv_eq (a b : Mv) : (a.1 == b.1 && (a.2.1 == b.2.1 && (a.2.2.1 == b.2.2.1 && (a.2.2.2 == b.2.2.2 && true)))) = decide (a = b) := by
  obtain ⟨p1, p2, p3, p4⟩ := a
  obtain ⟨q1, q2, q3, q4⟩ := b
  simp only [Bool.and_true, Prod.mk.injEq, Bool.decide_and]
  rfl
theorem encEn_eq (a b : En) : (a.1 == b.1 && (a.2.1 == b.2.1 && (a.2.2.1 == b.2.2.1 && (a.2.2.2 == b.2.2.2 && true)) && true)) = decide (a = b) := by
  obtain ⟨p1, p2, p3, p4⟩ := a
  obtain ⟨q1, q2, q3, q4⟩ := b
  simp only [Bool.and_true, Prod.mk.injEq, Bool.decide_and, bytes_dec]
  rfl
end Go.Proofs
