/- Bytes as cells, and parts of slices. Conditions: none. -/
import Derived.Test.YtinolellciikoaaMem2
import Derived.Laws.Strings
namespace Go.Vc
open Go
/-- A part of a slice. -/
theorem Rd.sub {w : World} {sz : Nat} {s : SV} {cs : List Value} (h : Rd w sz s cs) (hc : s.len ≤ s.cap) {i j : Nat} (hij : i ≤ j) (hj : j ≤ s.len) :
    Rd w sz ⟨subA s.a i sz s.cap, j - i, s.cap - i⟩ ((cs.drop (i * sz)).take ((j - i) * sz)) := by
  have hlen : ((cs.drop (i * sz)).take ((j - i) * sz)).length = (j - i) * sz := by
    rw [List.length_take, List.length_drop, h.len, ← Nat.sub_mul]
    exact Nat.min_eq_left (Nat.mul_le_mul_right _ (by omega))
  refine ⟨hlen, ?_, ?_⟩
  · intro hn
    simp only [subA] at hn ⊢
    have : s.a = none := by
      split at hn
      · exact hn
      · simpa using hn
    have := h.nil this
    omega
  · intro A hA
    by_cases hji : j = i
    · have hz : (cs.drop (i * sz)).take ((j - i) * sz) = [] := by rw [hji]; simp
      rw [hz]; exact cellsAt.nil _ _
    · simp only [subA] at hA
      rw [if_neg (by omega)] at hA
      obtain ⟨A0, hA0, rfl⟩ := Option.map_eq_some_iff.1 hA
      exact ((h.at_ A0 hA0).drop (i * sz)).take _
end Go.Vc
namespace Go.Proofs
open Go Go.Vc
/-- Bytes as cells. -/
def B8 (l : List UInt8) : List Value := l.map fun b => .int .u8 b.toNat
theorem B8_append (a b : List UInt8) : B8 (a ++ b) = B8 a ++ B8 b := by simp [B8]
theorem B8_length (a : List UInt8) : (B8 a).length = a.length := by simp [B8]
theorem B8_one (a : List UInt8) : ∀ v ∈ B8 a, v.oneCell' = true := by
  intro v hv; obtain ⟨b, _, rfl⟩ := List.mem_map.1 hv; rfl
theorem B8_get {a : List UInt8} {i : Nat} {b : UInt8} (h : a[i]? = some b) : (B8 a)[i]? = some (.int .u8 b.toNat) := by simp [B8, h]
/-- A slice of bytes that reads as these. -/
abbrev RdB (w : World) (s : SV) (l : List UInt8) : Prop := Rd w 1 s (B8 l)
theorem _root_.Go.Vc.Rd.lenB {w : World} {s : SV} {l : List UInt8} (h : RdB w s l) : s.len = l.length := by have := h.len; rw [B8_length, Nat.mul_one] at this; exact this.symm
theorem SV.getB {w : World} {s : SV} {l : List UInt8} (h : RdB w s l) {i : Nat} (hi : i < l.length) {K : Addr → Prop} (hk : ∀ A, s.a = some A → K A) : onP s.a K := by
  cases hA : s.a with
  | none => have := h.nil hA; rw [h.lenB] at this; omega
  | some A => exact hk A hA
theorem _root_.Go.Vc.Rd.cellB {w : World} {s : SV} {l : List UInt8} (h : RdB w s l) {i : Nat} {b : UInt8} (hb : l[i]? = some b) {A : Addr} (hA : s.a = some A) : w.cell? (A.add (i * 1)) = some (.int .u8 b.toNat) := by
  rw [Nat.mul_one]; exact h.at_ A hA i _ (B8_get hb)
theorem _root_.Go.Vc.Rd.subB {w : World} {s : SV} {l : List UInt8} (h : RdB w s l) (hc : s.len ≤ s.cap) {i j : Nat} (hij : i ≤ j) (hj : j ≤ l.length) :
    RdB w ⟨subA s.a i 1 s.cap, j - i, s.cap - i⟩ ((l.drop i).take (j - i)) := by
  have := h.sub hc hij (by rw [h.lenB]; exact hj)
  simp only [Nat.mul_one] at this
  simpa [RdB, B8] using this
end Go.Proofs
