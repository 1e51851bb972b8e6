/- Slices of structs: what reads as so many things, each of sz cells. Conditions: those that each lemma names. -/
import Derived.Test.YtinolellciikoaaMem2
import Derived.Test.YtinolellciikoaaOpen
namespace Go.Vc
open Go
theorem flat_len {α : Type} {enc : α → List Value} {sz : Nat} (h : ∀ x, (enc x).length = sz) (l : List α) : (l.flatMap enc).length = l.length * sz := by
  induction l with
  | nil => simp
  | cons x r ih => simp [h, ih, Nat.add_mul]; omega
theorem flat_get {α : Type} {enc : α → List Value} {sz : Nat} (h : ∀ x, (enc x).length = sz) : ∀ (l : List α) (i k : Nat), k < sz → (l.flatMap enc)[i * sz + k]? = (l[i]?).bind fun x => (enc x)[k]?
  | [], i, k, _ => by simp
  | x :: r, 0, k, hk => by
    simp only [Nat.zero_mul, Nat.zero_add, List.flatMap_cons, List.getElem?_cons_zero, Option.bind_some]
    rw [List.getElem?_append_left (by rw [h]; exact hk)]
  | x :: r, i + 1, k, hk => by
    simp only [List.flatMap_cons, List.getElem?_cons_succ]
    rw [List.getElem?_append_right (by rw [h, Nat.add_mul]; omega), h, show (i + 1) * sz + k - sz = i * sz + k by rw [Nat.add_mul]; omega, flat_get h r i k hk]
theorem flat_take {α : Type} {enc : α → List Value} (l : List α) (n : Nat) {sz : Nat} (h : ∀ x, (enc x).length = sz) : (l.flatMap enc).take (n * sz) = (l.take n).flatMap enc := by
  induction l generalizing n with
  | nil => simp
  | cons x r ih =>
    cases n with
    | zero => simp
    | succ n =>
      simp only [List.flatMap_cons, List.take_succ_cons]
      rw [List.take_append, h, List.take_of_length_le (by rw [h, Nat.add_mul]; omega), show (n + 1) * sz - sz = n * sz by rw [Nat.add_mul]; omega, ih]
/-- A slice that reads as these things. -/
structure RdS {α : Type} (enc : α → List Value) (sz : Nat) (w : World) (s : SV) (l : List α) : Prop where
  rd : Rd w sz s (l.flatMap enc)
  esz : ∀ x, (enc x).length = sz
  pos : 0 < sz
structure OwnS {α : Type} (enc : α → List Value) (sz : Nat) (T : TypeId) (w : World) (B : Nat) (s : SV) (l : List α) : Prop where
  own : Own w B T sz s (l.flatMap enc)
  esz : ∀ x, (enc x).length = sz
  pos : 0 < sz
variable {α : Type} {enc : α → List Value} {sz : Nat} {w w' : World} {s : SV} {l : List α} {T : TypeId} {B : Nat}
theorem OwnS.rd (h : OwnS enc sz T w B s l) : RdS enc sz w s l := ⟨h.own.rd, h.esz, h.pos⟩
theorem RdS.len (h : RdS enc sz w s l) : s.len = l.length := by
  have := h.rd.len
  rw [flat_len h.esz] at this
  exact (Nat.eq_of_mul_eq_mul_right h.pos this).symm
theorem OwnS.len (h : OwnS enc sz T w B s l) : s.len = l.length := h.rd.len
theorem RdS.ext (h : RdS enc sz w s l) (hu : Ext w w') : RdS enc sz w' s l := ⟨h.rd.ext hu, h.esz, h.pos⟩
theorem OwnS.ext (h : OwnS enc sz T w B s l) (hu : Ext w w') : OwnS enc sz T w' B s l := ⟨h.own.ext hu, h.esz, h.pos⟩
theorem RdS.keep {M : Nat → Prop} (h : RdS enc sz w s l) (hu : Upd M w w') (hm : ∀ b, b < w.heap.size → s.blk b → ¬ M b) : RdS enc sz w' s l := ⟨h.rd.keep hu hm, h.esz, h.pos⟩
theorem RdS.at_ (h : RdS enc sz w s l) {i : Nat} {x : α} (hx : l[i]? = some x) {A : Addr} (hA : s.a = some A) : cellsAt w (A.add (i * sz)) (enc x) := by
  intro k v hv
  have hk : k < sz := by have := (List.getElem?_eq_some_iff.1 hv).1; rw [h.esz] at this; exact this
  rw [add_add]
  refine h.rd.at_ A hA _ v ?_
  rw [flat_get h.esz l i k hk, hx, Option.bind_some, hv]
theorem RdS.fld (h : RdS enc sz w s l) {i : Nat} {x : α} (hx : l[i]? = some x) {A : Addr} (hA : s.a = some A) {k : Nat} {v : Value} (hv : (enc x)[k]? = some v) : w.cell? ((A.add (i * sz)).add k) = some v := h.at_ hx hA k v hv
theorem RdS.get (h : RdS enc sz w s l) {i : Nat} (hi : i < l.length) {K : Addr → Prop} (hk : ∀ A, s.a = some A → K A) : onP s.a K := by
  cases hA : s.a with
  | none => have := h.rd.nil hA; rw [h.len] at this; omega
  | some A => exact hk A hA
theorem RdS.nil (hs : ∀ x, (enc x).length = sz) (hp : 0 < sz) (w : World) (c : Nat) : RdS enc sz w ⟨none, 0, c⟩ [] := ⟨Rd.nil' _ _ _, hs, hp⟩
theorem OwnS.nil (hs : ∀ x, (enc x).length = sz) (hp : 0 < sz) (w : World) (B : Nat) (T : TypeId) : OwnS enc sz T w B ⟨none, 0, 0⟩ [] := ⟨Own.nil _ _ _ _, hs, hp⟩
/-- A slice of flat structs, as its shape tells it. -/
theorem DS.flat {bd : TypeId → Nat → Prop} {bs : Nat → Prop} {e : TypeId} {n : Nat} {d : DS} {a : Option Addr} {len cap : Nat} (good : α → Prop) (h : DS.rel w bd bs (.slice e n d) [.slice a len cap])
    (hs : ∀ x, (enc x).length = n) (hp : 0 < n) (hd : ∀ es, es.length = n → d.rel w bd bs es → ∃ x, enc x = es ∧ good x) :
    ∃ l : List α, RdS enc n w ⟨a, len, cap⟩ l ∧ len ≤ cap ∧ (cap = 0 ∨ bd e cap) ∧ ∀ x ∈ l, good x := by
  obtain ⟨a', len', cap', he, h⟩ := h
  simp only [List.cons.injEq, Value.slice.injEq, and_true] at he
  obtain ⟨rfl, rfl, rfl⟩ := he
  rcases h with ⟨rfl, rfl, rfl⟩ | ⟨A, rfl, hle, hb, hc⟩
  · exact ⟨[], RdS.nil hs hp w 0, Nat.le_refl _, .inl rfl, by simp⟩
  · have hx : ∀ i : Fin len, ∃ x, cellsAt w (A.add (i.val * n)) (enc x) ∧ good x := fun i => by
      obtain ⟨es, h1, h2, h3⟩ := hc i.val (by omega)
      obtain ⟨x, rfl, hg⟩ := hd es h1 h3
      exact ⟨x, h2, hg⟩
    let f := fun i => Classical.choose (hx i)
    have hf := fun i => Classical.choose_spec (hx i)
    refine ⟨List.ofFn f, ⟨⟨?_, fun h => by simp at h, ?_⟩, hs, hp⟩, hle, .inr hb, ?_⟩
    · rw [flat_len hs, List.length_ofFn]
    · intro A' hA
      obtain rfl := Option.some.inj hA
      intro j v hv
      have hj : j < len * n := by have := (List.getElem?_eq_some_iff.1 hv).1; rw [flat_len hs, List.length_ofFn] at this; exact this
      have hdm : j = j / n * n + j % n := by rw [Nat.mul_comm]; exact (Nat.div_add_mod j n).symm
      have hjn : j / n < len := Nat.div_lt_of_lt_mul (by rw [Nat.mul_comm]; exact hj)
      rw [hdm] at hv
      rw [flat_get hs _ _ _ (Nat.mod_lt _ hp), List.getElem?_ofFn, dif_pos hjn, Option.bind_some] at hv
      rw [hdm, ← add_add]
      exact (hf ⟨j / n, hjn⟩).1 _ v hv
    · intro x hx
      obtain ⟨i, rfl⟩ := List.mem_ofFn.1 hx
      exact (hf i).2
/-- A new block that is written whole. -/
theorem canSt_fresh (w : World) (T : TypeId) (z : List Value) {n : Nat} (hn : n ≤ z.length) : canSt (w.alloc (.cells z.toArray T)) ⟨w.heap.size, 0, none⟩ n :=
  canSt_blk (blk_new w (.cells z.toArray T)) (by omega)
theorem fresh_of {w1 : World} {z vs : List Value} (h : setCells (w.alloc (.cells z.toArray T)) ⟨w.heap.size, 0, none⟩ 0 vs = w1) (hz : z.length = vs.length) :
    Ext w w1 ∧ w1.heap.size = w.heap.size + 1 ∧ w1.heap[w.heap.size]? = some (.cells vs.toArray T (0, 0)) := by
  subst h
  have hb := blk_new w (.cells z.toArray T)
  refine ⟨?_, ?_, ?_⟩
  · exact (ext_alloc w _).setCells (p := ⟨w.heap.size, 0, none⟩) (fun h => by simp at h) 0 vs
  · rw [setCells_size]; simp
  · have := setCells_blk (o := 0) vs _ 0 z hb (by omega)
    rw [this]
    simp [spl, ← hz]
end Go.Vc
