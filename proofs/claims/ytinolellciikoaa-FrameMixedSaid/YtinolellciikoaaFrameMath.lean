/- Which frames are a record: two ways to say it. Conditions: those that each lemma names. -/
import Derived.Test.YtinolellciikoaaFrame7
namespace Go.Proofs
open Go Go.Vc
/-- The piece number i of a record. -/
def piece (b : List UInt8) (i : Nat) : List UInt8 := (b.drop (i * 440)).take 440
def cntF (n : Nat) : Nat := if n = 0 then 1 else (n - 1) / 440 + 1
theorem cntF_eq (n : Nat) : countF (n : Int) = (cntF n : Int) := by
  unfold countF cntF
  rw [if_neg (by omega)]
  by_cases h : n = 0
  · rw [if_pos (by omega), if_pos h]; rfl
  · rw [if_neg (by omega), if_neg h]; omega
theorem cntF_pos (n : Nat) : 1 ≤ cntF n := by unfold cntF; split <;> omega
theorem piece_len (b : List UInt8) (i : Nat) : (piece b i).length = min 440 (b.length - i * 440) := by simp [piece]
theorem piece_app {d D : List UInt8} (h : d.length = 440) (i : Nat) : piece (d ++ D) (i + 1) = piece D i := by
  unfold piece
  have e1 : (i + 1) * 440 = d.length + i * 440 := by rw [h]; omega
  rw [e1, ← List.drop_drop, List.drop_left' rfl]
theorem piece_zero {d D : List UInt8} (h : d.length = 440) : piece (d ++ D) 0 = d := by
  unfold piece
  rw [Nat.zero_mul, List.drop_zero, List.take_append_of_le_length (by omega), List.take_of_length_le (by omega)]
theorem cntF_add {n : Nat} (h : 0 < n) : cntF (440 + n) = cntF n + 1 := by
  unfold cntF
  rw [if_neg (by omega), if_neg (by omega)]
  omega
/-- Pieces of the right lengths, but that the last one of one piece may be empty. -/
def Lens (ds : List (List UInt8)) : Prop := ∀ i, (h : i < ds.length) → (i + 1 = ds.length → (i = 0 ∨ 0 < ds[i].length) ∧ ds[i].length ≤ 440) ∧ (i + 1 < ds.length → ds[i].length = 440)
theorem pieces_of : ∀ (ds : List (List UInt8)), ds ≠ [] → Lens ds → (∀ i, (h : i < ds.length) → ds[i] = piece ds.flatten i) ∧ ds.length = cntF ds.flatten.length
  | [], h, _ => absurd rfl h
  | [d], _, hl => by
    have h1 := ((hl 0 (by simp)).1 rfl).2
    simp only [List.getElem_cons_zero] at h1
    refine ⟨fun i h => ?_, ?_⟩
    · obtain rfl : i = 0 := by simpa using h
      simp [piece, List.take_of_length_le h1]
    · simp only [List.length_cons, List.length_nil, List.flatten_cons, List.flatten_nil, List.append_nil, cntF]
      split <;> omega
  | d :: e :: r, _, hl => by
    have hd : d.length = 440 := (hl 0 (by simp)).2 (by simp)
    have hl' : Lens (e :: r) := by
      intro i h
      have := hl (i + 1) (by simpa using h)
      simp only [List.getElem_cons_succ, List.length_cons] at this ⊢
      refine ⟨fun hi => ⟨?_, (this.1 (by omega)).2⟩, fun hi => this.2 (by omega)⟩
      rcases (this.1 (by omega)).1 with h1 | h1
      · omega
      · exact .inr h1
    obtain ⟨h1, h2⟩ := pieces_of (e :: r) (by simp) hl'
    have hpos : 0 < (e :: r).flatten.length := by
      have hk : r.length < (e :: r).length := by simp
      have := (hl (r.length + 1) (by simp)).1 (by simp)
      rcases this.1 with h3 | h3
      · omega
      · rcases Nat.eq_zero_or_pos (e :: r).flatten.length with h4 | h4
        · have hm : (e :: r)[r.length] ∈ e :: r := List.getElem_mem hk
          have h5 := List.flatten_eq_nil_iff.1 (List.length_eq_zero_iff.1 h4) _ hm
          have h6 : 0 < (e :: r)[r.length].length := h3
          rw [h5] at h6
          simp at h6
        · exact h4
    have hfl : (d :: e :: r).flatten = d ++ (e :: r).flatten := rfl
    refine ⟨fun i h => ?_, ?_⟩
    · rw [hfl]
      cases i with
      | zero => rw [piece_zero hd]; rfl
      | succ i => rw [piece_app hd]; exact h1 i (by simpa using h)
    · rw [List.length_cons, h2, hfl, List.length_append, hd, cntF_add hpos]
theorem lens_of {ds : List (List UInt8)} (h1 : ∀ i, (h : i < ds.length) → ds[i] = piece ds.flatten i) (h2 : ds.length = cntF ds.flatten.length) : Lens ds := by
  intro i h
  rw [h1 i h, piece_len]
  unfold cntF at h2
  split at h2
  · rename_i h0
    rw [h0]
    refine ⟨fun _ => ⟨?_, ?_⟩, fun _ => ?_⟩ <;> omega
  · refine ⟨fun _ => ⟨?_, ?_⟩, fun _ => ?_⟩ <;> omega
@[reducible] def frOf (x : FrW) : FrV := ((x.age : Int), (x.first : Int), x.of, x.s)
abbrev datas (l : List FrW) : List UInt8 := (l.map (·.data)).flatten
def AllFit (y : FrW) (l : List FrW) : Prop := ∀ i : Fin l.length, Fits (frOf l[i]) (frOf y) (i.val : Int)
def Likes (y : FrW) (l : List FrW) : Prop := ∀ i : Fin l.length, l[i].age = y.age ∧ l[i].first = y.first ∧ l[i].of = (l.length : Int) ∧ l[i].data = piece (datas l) i.val
instance (y : FrW) (l : List FrW) : Decidable (AllFit y l) := by unfold AllFit; exact inferInstance
instance (y : FrW) (l : List FrW) : Decidable (Likes y l) := by unfold Likes; exact inferInstance
/-- Are these frames a record? -/
def Whole (l : List FrW) : Prop := ∃ y r, l = y :: r ∧ y.of = (l.length : Int) ∧ AllFit y l ∧ (datas l).length ≤ 8192
def WholeR (l : List FrW) : Prop := ∃ y r, l = y :: r ∧ l.length ≤ 32 ∧ (∀ x ∈ l, x.data.length ≤ 440) ∧ (datas l).length ≤ 8192 ∧ cntF (datas l).length = l.length ∧ Likes y l
theorem whole_iff {l : List FrW} (hs : ∀ x ∈ l, x.s.len = x.data.length) : Whole l ↔ WholeR l := by
  constructor
  · rintro ⟨y, r, hl, hof, hf, hd⟩
    have hm : ∀ i (h : i < l.length), Fits (frOf l[i]) (frOf y) (i : Int) := fun i h => hf ⟨i, h⟩
    have hlen : ∀ i (h : i < l.length), l[i].s.len = l[i].data.length := fun i h => hs _ (List.getElem_mem h)
    have hn : 0 < l.length := by rw [hl]; simp
    have hmay : ∀ i (h : i < l.length), 1 ≤ l[i].of ∧ l[i].of ≤ 32 ∧ l[i].data.length ≤ 440 := fun i h => by
      have := (hm i h).1
      rw [← hlen i h]
      simpa [mayF] using this
    have hofs : ∀ i (h : i < l.length), l[i].of = (l.length : Int) := fun i h => ((hm i h).2.2.2.1).trans hof
    have hL : Lens (l.map (·.data)) := by
      intro i h
      have h' : i < l.length := by simpa using h
      have h5 := (hm i h').2.2.2.2
      have h6 := hmay i h'
      have h7 := hofs i h'
      have h8 := hlen i h'
      simp only [List.length_map, List.getElem_map] at h5 ⊢
      refine ⟨fun _ => ⟨?_, h6.2.2⟩, fun _ => ?_⟩ <;> omega
    obtain ⟨p1, p2⟩ := pieces_of _ (by rw [hl]; simp) hL
    rw [List.length_map] at p2
    refine ⟨y, r, hl, ?_, fun x hx => ?_, hd, p2.symm, fun i => ⟨?_, ?_, hofs i.1 i.2, ?_⟩⟩
    · have := hmay 0 hn; have := hofs 0 hn; omega
    · obtain ⟨i, hi, rfl⟩ := List.getElem_of_mem hx
      exact (hmay i hi).2.2
    · have h9 : (l[i.1].age : Int) = y.age := (hm i.1 i.2).2.1; exact_mod_cast h9
    · have h9 : (l[i.1].first : Int) = y.first := (hm i.1 i.2).2.2.1; exact_mod_cast h9
    · have := p1 i.1 (by simp)
      simpa using this
  · rintro ⟨y, r, hl, h32, h440, hd, hc, hk⟩
    have hk' : ∀ i (h : i < l.length), l[i].age = y.age ∧ l[i].first = y.first ∧ l[i].of = (l.length : Int) ∧ l[i].data = piece (datas l) i := fun i h => hk ⟨i, h⟩
    have hL : Lens (l.map (·.data)) := lens_of (fun i h => by
      have := (hk' i (by simpa using h)).2.2.2
      simpa using this) (by rw [List.length_map]; exact hc.symm)
    have hn : 0 < l.length := by rw [hl]; simp
    have hy0 : l[0] = y := by simp [hl]
    have hyof : y.of = (l.length : Int) := by
      have := (hk' 0 hn).2.2.1
      rwa [hy0] at this
    refine ⟨y, r, hl, hyof, fun i => ?_, hd⟩
    obtain ⟨g1, g2, g3, g4⟩ := hk i
    have h7 := h440 _ (List.getElem_mem i.2)
    have h8 := hs _ (List.getElem_mem i.2)
    have h5 := hL i.1 (by simp)
    simp only [List.length_map, List.getElem_map] at h5
    refine ⟨?_, ?_, ?_, ?_, ?_⟩
    · simp only [mayF, decide_eq_true_eq]
      have h8' : l[i].s.len = l[i].data.length := h8
      have h7' : l[i].data.length ≤ 440 := h7
      omega
    · have h9 : (l[i].age : Int) = y.age := by exact_mod_cast g1
      exact h9
    · have h9 : (l[i].first : Int) = y.first := by exact_mod_cast g2
      exact h9
    · have h9 : l[i].of = y.of := by rw [g3, hyof]
      exact h9
    · have h8' : l[i].s.len = l[i].data.length := h8
      have h7' : l[i].data.length ≤ 440 := h7
      have h5' : (i.1 + 1 = l.length → (i.1 = 0 ∨ 0 < l[i].data.length) ∧ l[i].data.length ≤ 440) ∧ (i.1 + 1 < l.length → l[i].data.length = 440) := h5
      have := i.2
      simp only [frOf]
      omega
open Classical in
noncomputable def joinF (l : List FrW) : List UInt8 × Int := if Whole l then (datas l, 0) else ([], 11)
end Go.Proofs
