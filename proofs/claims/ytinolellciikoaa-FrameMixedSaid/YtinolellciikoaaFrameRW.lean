/- A frame that is written is read as it was; a frame that is read, written again, is the same bytes. Conditions: those of each lemma. -/
import Derived.Test.YtinolellciikoaaFrame5
import Derived.Test.YtinolellciikoaaVarMath
namespace Go.Proofs
open Go Go.Vc
theorem wrap_of {of : Int} (h : 1 ≤ of ∧ of ≤ 32) : ((IntKind.u64.wrap of).toNat : Int) = of := by rw [u64_mod]; omega
theorem numR_next {a rest : List UInt8} {x : Nat} (hx : x < 2 ^ 64) : numR (a ++ (varB x ++ rest)) (a.length : Int) 0 = ((x : Int), ((a ++ varB x).length : Int), 0) := by
  rw [numR, if_neg (by simp), readVar_varB hx, if_neg (by simp), List.length_append]
theorem readR_frB {a f : Nat} {of : Int} {d : List UInt8} (ha : a < 2 ^ 64) (hf : f < 2 ^ 64) (hm : mayF of d.length = true) : readR (frB a f of d) = (((a : Int), (f : Int), of, d), 0) := by
  have ho : 1 ≤ of ∧ of ≤ 32 ∧ d.length ≤ 440 := by simpa [mayF] using hm
  have hw := wrap_of ⟨ho.1, ho.2.1⟩
  have h1 : numR (frB a f of d) 0 0 = ((a : Int), ((varB a).length : Int), 0) := by
    have := numR_next (a := []) (rest := varB f ++ (varB (IntKind.u64.wrap of).toNat ++ d)) ha
    simpa [frB, List.append_assoc] using this
  have h2 : numR (frB a f of d) ((varB a).length : Int) 0 = ((f : Int), ((varB a ++ varB f).length : Int), 0) := by
    have := numR_next (a := varB a) (rest := varB (IntKind.u64.wrap of).toNat ++ d) hf
    simpa [frB, List.append_assoc] using this
  have h3 : numR (frB a f of d) ((varB a ++ varB f).length : Int) 0 = (of, ((varB a ++ varB f ++ varB (IntKind.u64.wrap of).toNat).length : Int), 0) := by
    have := numR_next (a := varB a ++ varB f) (rest := d) (x := (IntKind.u64.wrap of).toNat) (by omega)
    rw [hw] at this
    simpa only [frB, List.append_assoc] using this
  have h4 : mostR (frB a f of d) ((varB a ++ varB f).length : Int) 0 32 = (of, ((varB a ++ varB f ++ varB (IntKind.u64.wrap of).toNat).length : Int), 0) := by
    rw [mostR, h3, if_neg (by simp), if_neg (by simp; omega)]
  have hd : (frB a f of d).drop (varB a ++ varB f ++ varB (IntKind.u64.wrap of).toNat).length = d := by rw [frB, List.drop_left' rfl]
  simp only [readR, h1, h2, h4, Int.toNat_natCast, hd, hm]
  simp
theorem num_form {l : List UInt8} {at_ x n : Int} (h : numR l at_ 0 = (x, n, 0)) : readVar l at_ = (x, n, 0) := by
  unfold numR at h
  rw [if_neg (by simp)] at h
  split at h
  · rename_i hh
    simp only [Prod.mk.injEq] at h
    exact absurd h.2.2 hh
  · rename_i hh
    have hh' : (readVar l at_).2.2 = 0 := by simpa using hh
    simp only [Prod.mk.injEq] at h
    rw [← h.1, ← h.2.1]
    exact Prod.ext rfl (Prod.ext rfl hh')
theorem numR_bad {l : List UInt8} {at_ e : Int} (he : e ≠ 0) : (numR l at_ e).2.2 = e := by rw [numR_err l at_ he]
theorem mostR_form {l : List UInt8} {at_ m x n : Int} (h : mostR l at_ 0 m = (x, n, 0)) : numR l at_ 0 = (x, n, 0) ∧ x ≤ m := by
  unfold mostR at h
  split at h
  · rename_i hh
    simp only [Prod.mk.injEq] at h
    exact absurd h.2.2 hh
  split at h
  · simp at h
  · rename_i h2
    rw [h] at h2
    exact ⟨h, by simpa using h2⟩
theorem frB_readR {l : List UInt8} {a f of : Int} {d : List UInt8} (h : readR l = ((a, f, of, d), 0)) :
    ∃ (x y : Nat), a = x ∧ f = y ∧ x < 2 ^ 64 ∧ y < 2 ^ 64 ∧ mayF of d.length = true ∧ frB x y of d = l := by
  have e1 : (numR l 0 0).2.2 = 0 ∨ (numR l 0 0).2.2 ≠ 0 := by omega
  unfold readR at h
  dsimp only at h
  split at h
  · rename_i hh
    simp only [Prod.mk.injEq] at h
    exact absurd h.2 hh
  rename_i h3
  split at h
  · simp at h
  rename_i hm
  simp only [Prod.mk.injEq, and_true] at h
  obtain ⟨ha, hf, hof, hd⟩ := h
  have z1 : (numR l 0 0).2.2 = 0 := by
    rcases e1 with e1 | e1
    · exact e1
    · exfalso; apply h3
      rw [numR_err _ _ e1, mostR_err _ _ _ e1]; exact e1
  have z2 : (numR l (numR l 0 0).2.1 0).2.2 = 0 := by
    rcases (by omega : (numR l (numR l 0 0).2.1 0).2.2 = 0 ∨ (numR l (numR l 0 0).2.1 0).2.2 ≠ 0) with e | e
    · exact e
    · exfalso; apply h3
      rw [z1, mostR_err _ _ _ e]; exact e
  rw [z1] at hf h3 hof hd hm
  rw [z2] at h3 hof hd hm
  generalize hq1 : numR l 0 0 = q1 at *
  obtain ⟨x1, n1, c1⟩ := q1
  dsimp only at *
  subst z1 ha
  generalize hq2 : numR l n1 0 = q2 at *
  obtain ⟨x2, n2, c2⟩ := q2
  dsimp only at *
  subst z2 hf
  generalize hq3 : mostR l n2 0 32 = q3 at *
  obtain ⟨x3, n3, c3⟩ := q3
  dsimp only at *
  obtain rfl : c3 = 0 := by simpa using h3
  subst hof hd
  obtain ⟨hq3', h32⟩ := mostR_form hq3
  obtain ⟨k1, y1, m1, g1, rfl, rfl, _, g2, g3, g4⟩ := readVar_form (num_form hq1)
  obtain ⟨k2, y2, m2, g5, rfl, rfl, g6, g7, g8, g9⟩ := readVar_form (num_form hq2)
  obtain ⟨k3, y3, m3, g10, rfl, rfl, g11, g12, g13, g14⟩ := readVar_form (num_form hq3')
  obtain rfl : k1 = 0 := by omega
  obtain rfl : k2 = m1 := by omega
  obtain rfl : k3 = m2 := by omega
  rw [Int.toNat_natCast] at hm ⊢
  have hm' : mayF (y3 : Int) (l.drop m3).length = true := by simpa using hm
  refine ⟨y1, y2, rfl, rfl, g3, g8, hm', ?_⟩
  have ho : 1 ≤ (y3 : Int) ∧ (y3 : Int) ≤ 32 ∧ (l.drop m3).length ≤ 440 := by simpa [mayF] using hm'
  have hw := wrap_of ⟨ho.1, ho.2.1⟩
  have hw' : (IntKind.u64.wrap (y3 : Int)).toNat = y3 := by omega
  rw [frB, hw', g4, g9, g14]
  have c : ∀ i j : Nat, i ≤ j → j ≤ l.length → (l.drop i).take (j - i) ++ l.drop j = l.drop i := fun i j h1 h2 => by
    conv => rhs; rw [← List.take_append_drop (j - i) (l.drop i)]
    rw [List.drop_drop, show i + (j - i) = j by omega]
  rw [List.append_assoc, List.append_assoc, c k3 m3 (by omega) g12, c k2 k3 (by omega) g7, Nat.sub_zero, List.drop_zero, List.take_append_drop]
end Go.Proofs
