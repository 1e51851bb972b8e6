/- Blocks that hold a variable: what stands in them, what is loaded, stored. Conditions: those that each lemma names. -/
import Derived.Test.YtinolellciikoaaMem
namespace Go.Vc
open Go
/-- A block holds these cells. -/
def BK (w : World) (b : Nat) (T : TypeId) (vs : List Value) : Prop := w.heap[b]? = some (.cells vs.toArray T (0, 0))
theorem BK.new (w : World) (T : TypeId) (vs : List Value) : BK (w.alloc (.cells vs.toArray T)) w.heap.size T vs := blk_new _ _
variable {w w' : World} {b : Nat} {T : TypeId} {vs : List Value}
theorem BK.all (h : BK w b T vs) : cellsAt w ⟨b, 0, none⟩ vs := cellsAt_blk h fun j v hv => by simpa using hv
theorem BK.get (h : BK w b T vs) (i : Nat) {v : Value} (hv : vs[i]? = some v) : w.cell? (Addr.add ⟨b, 0, none⟩ i) = some v := by
  rw [add_mk, cell_blk h, Nat.zero_add]; simpa using hv
theorem BK.get0 (h : BK w b T vs) {v : Value} (hv : vs[0]? = some v) : w.cell? ⟨b, 0, none⟩ = some v := h.get 0 hv
theorem BK.upd {M : Nat → Prop} (h : BK w b T vs) (u : Upd M w w') (hm : ¬ M b) : BK w' b T vs := u.get h hm
theorem BK.ext (h : BK w b T vs) (u : Ext w w') : BK w' b T vs := h.upd u id
theorem BK.drew (h : BK w b T vs) : BK w.drew b T vs := h
theorem BK.lt (h : BK w b T vs) : b < w.heap.size := lt_of_blk h
theorem BK.can (h : BK w b T vs) {n : Nat} (hn : n ≤ vs.length) : canSt w ⟨b, 0, none⟩ n := canSt_blk (c := vs) h (by omega)
theorem BK.set (h : BK w b T vs) {us : List Value} (hu : us.length = vs.length) : BK (setCells w ⟨b, 0, none⟩ 0 us) b T us := by
  have := setCells_blk (o := 0) us w 0 vs h (by omega)
  unfold BK
  rw [this]
  simp [spl, hu]
theorem BK.store (h : BK w b T vs) (i : Nat) (hi : i < vs.length) (v : Value) :
    (w.cell? (Addr.add ⟨b, 0, none⟩ i)).isSome = true ∧ w.frozen? (Addr.add ⟨b, 0, none⟩ i) = false ∧ BK (w.setCell (Addr.add ⟨b, 0, none⟩ i) v) b T (vs.set i v) := by
  rw [add_mk, cell_blk h, frozen_blk h, Nat.zero_add]
  refine ⟨by simp [hi], rfl, ?_⟩
  unfold BK
  rw [blk_set h, List.setIfInBounds_toArray]
theorem BK.store0 (h : BK w b T vs) (hi : 0 < vs.length) (v : Value) :
    (w.cell? ⟨b, 0, none⟩).isSome = true ∧ w.frozen? ⟨b, 0, none⟩ = false ∧ BK (w.setCell ⟨b, 0, none⟩ v) b T (vs.set 0 v) := h.store 0 hi v
theorem BK.set_ne (h : BK w b T vs) {c : Nat} (hc : b ≠ c) (o : Nat) (v : Value) : BK (w.setCell ⟨c, o, none⟩ v) b T vs := by
  unfold BK
  rw [blk_set_ne (a := ⟨c, o, none⟩) hc]; exact h
theorem BK.sets_ne (h : BK w b T vs) {A : Addr} (hc : b ≠ A.block) (i : Nat) (us : List Value) : BK (setCells w A i us) b T vs := by
  unfold BK
  rw [setCells_heap_ne us w A i hc]; exact h
theorem BK.alloc (h : BK w b T vs) (o : Obj) : BK (w.alloc o) b T vs := h.ext (ext_alloc w o)
/-- A variable that is made and filled. -/
theorem bk_mk {w1 w2 w3 : World} {z : List Value} (ha : w1.alloc (.cells z.toArray T) = w2) (hs : setCells w2 ⟨w1.heap.size, 0, none⟩ 0 vs = w3) (hz : z.length = vs.length) :
    canSt w2 ⟨w1.heap.size, 0, none⟩ vs.length ∧ BK w3 w1.heap.size T vs ∧ Ext w1 w3 ∧ w3.heap.size = w1.heap.size + 1 := by
  have h0 : BK w2 w1.heap.size T z := by rw [← ha]; exact BK.new w1 T z
  have e2 : Ext w1 w2 := by rw [← ha]; exact ext_alloc _ _
  refine ⟨h0.can (by omega), by rw [← hs]; exact h0.set hz.symm, by rw [← hs]; exact e2.setCells (p := ⟨w1.heap.size, 0, none⟩) (fun h => by simp at h) 0 vs, ?_⟩
  rw [← hs, setCells_size, ← ha]; simp
/-- What is made. -/
theorem bk_new {w1 w2 : World} (ha : w1.alloc (.cells vs.toArray T) = w2) : BK w2 w1.heap.size T vs ∧ Ext w1 w2 ∧ w2.heap.size = w1.heap.size + 1 :=
  ⟨by rw [← ha]; exact BK.new w1 T vs, by rw [← ha]; exact ext_alloc _ _, by rw [← ha]; simp⟩
/-- A block that is new since w0 is written whole. -/
theorem bk_put {w0 w1 w2 : World} {b : Nat} {us : List Value} (h : BK w1 b T vs) (he : Ext w0 w1) (hb : w0.heap.size ≤ b) (hs : setCells w1 ⟨b, 0, none⟩ 0 us = w2) (hu : us.length = vs.length) :
    canSt w1 ⟨b, 0, none⟩ us.length ∧ BK w2 b T us ∧ Ext w0 w2 ∧ w2.heap.size = w1.heap.size ∧ ∀ c T' vs', c ≠ b → BK w1 c T' vs' → BK w2 c T' vs' := by
  refine ⟨h.can (by omega), by rw [← hs]; exact h.set hu, by rw [← hs]; exact he.setCells (p := ⟨b, 0, none⟩) (fun h => by have h' : b < w0.heap.size := h; omega) 0 us, by rw [← hs, setCells_size], fun c T' vs' hc hk => ?_⟩
  rw [← hs]; exact hk.sets_ne (A := ⟨b, 0, none⟩) hc 0 us
/-- Two variables that are made and filled. -/
theorem two_mk {w0 w1 w2 w3 w4 : World} {T1 T2 : TypeId} {y1 y2 u1 u2 : List Value} (ha : w0.alloc (.cells y1.toArray T1) = w1) (hb : w1.alloc (.cells y2.toArray T2) = w2) (hc : setCells w2 ⟨w0.heap.size, 0, none⟩ 0 u1 = w3) (hd : setCells w3 ⟨w1.heap.size, 0, none⟩ 0 u2 = w4)
    (h1 : u1.length = y1.length) (h2 : u2.length = y2.length) :
    canSt w2 ⟨w0.heap.size, 0, none⟩ u1.length ∧ canSt w3 ⟨w1.heap.size, 0, none⟩ u2.length ∧ BK w4 w0.heap.size T1 u1 ∧ BK w4 w1.heap.size T2 u2 ∧ Ext w0 w4 ∧ w1.heap.size = w0.heap.size + 1 ∧ w4.heap.size = w0.heap.size + 2 := by
  obtain ⟨b1, e1, z1⟩ := bk_new ha
  obtain ⟨b2, e2, z2⟩ := bk_new hb
  obtain ⟨c3, b3, e3, z3, k3⟩ := bk_put (b1.ext e2) (e1.tr e2) (Nat.le_refl _) hc h1
  obtain ⟨c4, b4, e4, z4, k4⟩ := bk_put (k3 _ _ _ (by omega) b2) e3 (by omega) hd h2
  exact ⟨c3, c4, k4 _ _ _ (by omega) b3, b4, e4, z1, by omega⟩
end Go.Vc
