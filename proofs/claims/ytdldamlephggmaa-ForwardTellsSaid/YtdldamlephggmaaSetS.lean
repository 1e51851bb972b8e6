/- A field of an element of a slice of one's own is set. Conditions: those that each lemma names. -/
import Derived.Test.YtdldamlephggmaaRows4
namespace Go.Vc
open Go
theorem flat_set {α : Type} {enc : α → List Value} {sz : Nat} (h : ∀ x, (enc x).length = sz) {x y : α} {k : Nat} {v : Value} (hk : k < sz) (hy : enc y = (enc x).set k v) :
    ∀ (l : List α) (i : Nat), l[i]? = some x → (l.flatMap enc).set (i * sz + k) v = (l.set i y).flatMap enc
  | [], i, hx => by simp at hx
  | a :: r, 0, hx => by
    obtain rfl := Option.some.inj hx
    simp only [List.flatMap_cons, List.set_cons_zero, Nat.zero_mul, Nat.zero_add]
    rw [List.set_append_left _ _ (by rw [h]; exact hk), hy]
  | a :: r, i + 1, hx => by
    simp only [List.flatMap_cons, List.set_cons_succ]
    have ih := flat_set h hk hy r i (by simpa using hx)
    rw [List.set_append_right (s := enc a) _ _ (by rw [h, Nat.add_mul]; omega), h, show (i + 1) * sz + k - sz = i * sz + k by rw [Nat.add_mul]; omega, ih]
theorem OwnS.setf {α : Type} {enc : α → List Value} {sz : Nat} {w : World} {s : SV} {l : List α} {T : TypeId} {B : Nat} (h : OwnS enc sz T w B s l) {i : Nat} {x : α} (hx : l[i]? = some x) {A : Addr} (hA : s.a = some A) {k : Nat} (hk : k < sz) {v : Value} {y : α} (hy : enc y = (enc x).set k v) :
    (w.cell? ((A.add (i * sz)).add k)).isSome = true ∧ w.frozen? ((A.add (i * sz)).add k) = false ∧ OwnS enc sz T (w.setCell ((A.add (i * sz)).add k) v) B s (l.set i y) ∧
      (w.setCell ((A.add (i * sz)).add k) v).heap.size = w.heap.size ∧ Upd s.blk w (w.setCell ((A.add (i * sz)).add k) v) := by
  rcases h.own.is with ⟨h1, _⟩ | ⟨b, rest, ha, hB, hb, hcap, hle⟩
  · rw [h1] at hA; simp at hA
  · have hA' := hA
    rw [ha] at hA
    obtain rfl := Option.some.inj hA
    have hi : i < l.length := (List.getElem?_eq_some_iff.1 hx).1
    have hlt : i * sz + k < (l.flatMap enc).length := by
      rw [flat_len h.esz]
      have : (i + 1) * sz ≤ l.length * sz := Nat.mul_le_mul_right _ hi
      rw [Nat.add_mul] at this; omega
    rw [add_add, add_mk, Nat.zero_add]
    refine ⟨?_, frozen_blk hb, ⟨⟨?_, .inr ⟨b, rest, ha, hB, ?_, ?_, hle⟩⟩, h.esz, h.pos⟩, by simp, (Upd.refl _ w).set (p := ⟨b, i * sz + k, none⟩) (fun _ => ⟨_, hA', rfl⟩) v⟩
    · rw [cell_blk hb, List.getElem?_toArray, List.getElem?_eq_getElem (by rw [List.length_append]; omega)]; rfl
    · rw [← flat_set h.esz hk hy l i hx, List.length_set]; exact h.own.len
    · rw [blk_set hb, List.setIfInBounds_toArray, List.set_append_left _ _ hlt, flat_set h.esz hk hy l i hx]
    · rw [← flat_set h.esz hk hy l i hx, List.length_append, List.length_set, ← List.length_append]; exact hcap
theorem OwnS.lenS {α : Type} {enc : α → List Value} {sz : Nat} {w : World} {s : SV} {l : List α} {T : TypeId} {B : Nat} (h : OwnS enc sz T w B s l) : s.len ≤ s.cap := h.own.cap_le
/-- What was one's own from a number on is new. -/
theorem Upd.newS {M : Nat → Prop} {w0 w1 w2 : World} {s : SV} (h : Upd M w0 w1) (hs : ∀ b, s.blk b → w0.heap.size ≤ b) (hu : Upd s.blk w1 w2) : Upd M w0 w2 :=
  h.trans hu fun x hx hb => absurd (hs x hb) (by omega)
end Go.Vc
