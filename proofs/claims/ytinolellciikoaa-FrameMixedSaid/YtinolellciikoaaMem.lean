/- Memory: blocks, what a call may turn, slices that are read and slices that are one's own; the use of the conditions of append, make, copy. Conditions: those that each lemma names. -/
import Derived.Test.YtinolellciikoaaVcSound5
namespace Go.Vc
open Go Go.RowKit

/-! ### calls -/
theorem CallT.mono {rt : List Ty} {P : Program} {f : FuncId} {args : List Value} {w : World} {R R' : Tys rt → World → Prop} (h : CallT rt P f args w R) (hr : ∀ x w', R x w' → R' x w') : CallT rt P f args w R' :=
  ⟨h.1, h.2.mono fun _ w' ⟨x, he, hx⟩ => ⟨x, he, hr x w' hx⟩⟩
theorem cnd_intro {b : Bool} {x y : Prop} (h1 : b = true → x) (h2 : b = false → y) : cnd b x y := by cases b <;> simp_all [cnd]
theorem cnd_true {x y : Prop} (h : x) : cnd true x y := h
theorem cnd_false {x y : Prop} (h : y) : cnd false x y := h
theorem cnd_pos {b : Bool} {x y : Prop} (hb : b = true) (h : x) : cnd b x y := by subst hb; exact h
theorem cnd_neg {b : Bool} {x y : Prop} (hb : b = false) (h : y) : cnd b x y := by subst hb; exact h
theorem cnd_dec {p : Prop} [Decidable p] {x y : Prop} (h1 : p → x) (h2 : ¬ p → y) : cnd (decide p) x y :=
  cnd_intro (fun h => h1 (of_decide_eq_true h)) (fun h => h2 (of_decide_eq_false h))
theorem cnd_beq {a b : Int} {x y : Prop} (h1 : a = b → x) (h2 : a ≠ b → y) : cnd (a == b) x y :=
  cnd_intro (fun h => h1 (by simpa using h)) (fun h => h2 (by simpa using h))
theorem cnd_bne {a b : Int} {x y : Prop} (h1 : a ≠ b → x) (h2 : a = b → y) : cnd (a != b) x y :=
  cnd_intro (fun h => h1 (by simpa using h)) (fun h => h2 (by simpa using h))
theorem cnd_not {b : Bool} {x y : Prop} (h1 : b = false → x) (h2 : b = true → y) : cnd (!b) x y := by cases b <;> simp_all [cnd]
@[simp] theorem onP_some (a : Addr) (k : Addr → Prop) : onP (some a) k = k a := rfl

/-! ### whole numbers -/
theorem i64_id {x : Int} (h1 : -9223372036854775808 ≤ x) (h2 : x ≤ 9223372036854775807) : IntKind.i64.wrap x = x := by
  simp only [IntKind.wrap, IntKind.signed, IntKind.bits, Bool.true_and, decide_eq_true_eq, ge_iff_le]
  split <;> omega
theorem u64_id {x : Int} (h1 : 0 ≤ x) (h2 : x ≤ 18446744073709551615) : IntKind.u64.wrap x = x := by
  simp only [IntKind.wrap, IntKind.signed, IntKind.bits]; simp; omega
theorem u32_id {x : Int} (h1 : 0 ≤ x) (h2 : x ≤ 4294967295) : IntKind.u32.wrap x = x := by
  simp only [IntKind.wrap, IntKind.signed, IntKind.bits]; simp; omega
theorem u8_id {x : Int} (h1 : 0 ≤ x) (h2 : x ≤ 255) : IntKind.u8.wrap x = x := by
  simp only [IntKind.wrap, IntKind.signed, IntKind.bits]; simp; omega
theorem u8_mod (x : Int) : IntKind.u8.wrap x = x % 256 := by simp [IntKind.wrap, IntKind.signed, IntKind.bits]
theorem u32_mod (x : Int) : IntKind.u32.wrap x = x % 4294967296 := by simp [IntKind.wrap, IntKind.signed, IntKind.bits]
theorem u64_mod (x : Int) : IntKind.u64.wrap x = x % 18446744073709551616 := by simp [IntKind.wrap, IntKind.signed, IntKind.bits]
theorem i64_range (x : Int) : -9223372036854775808 ≤ IntKind.i64.wrap x ∧ IntKind.i64.wrap x ≤ 9223372036854775807 := by
  simp only [IntKind.wrap, IntKind.signed, IntKind.bits, Bool.true_and, decide_eq_true_eq, ge_iff_le]
  split <;> omega

/-! ### addresses, blocks -/
@[simp] theorem add_zero' (a : Addr) : a.add 0 = a := rfl
@[simp] theorem add_mk (b o n : Nat) : (Addr.mk b o none).add n = ⟨b, o + n, none⟩ := by
  unfold Addr.add; split
  · rename_i h; subst h; rfl
  · rfl
theorem add_add (a : Addr) (m n : Nat) : (a.add m).add n = a.add (m + n) := by
  unfold Addr.add
  by_cases hm : m = 0
  · subst hm; simp
  · by_cases hn : n = 0
    · subst hn; simp
    · simp [hm, hn, Nat.add_assoc]
@[simp] theorem add_block (a : Addr) (n : Nat) : (a.add n).block = a.block := by unfold Addr.add; split <;> rfl
theorem lt_of_blk {w : World} {b : Nat} {o : Obj} (h : w.heap[b]? = some o) : b < w.heap.size := (Array.getElem?_eq_some_iff.1 h).1
theorem blk_new (w : World) (o : Obj) : (w.alloc o).heap[w.heap.size]? = some o := by simp only [World.alloc, Array.getElem?_push, if_true]
theorem blk_old {w : World} {o : Obj} {b : Nat} (h : b ≠ w.heap.size) : (w.alloc o).heap[b]? = w.heap[b]? := by simp only [World.alloc, Array.getElem?_push, h, if_false]
theorem blk_lt {w : World} {o : Obj} {b : Nat} (h : b < w.heap.size) : (w.alloc o).heap[b]? = w.heap[b]? := blk_old (by omega)
theorem blk_alloc {w : World} {o p : Obj} {b : Nat} (h : w.heap[b]? = some p) : (w.alloc o).heap[b]? = some p := by rw [blk_lt (lt_of_blk h), h]
theorem blk_set {w : World} {b o : Nat} {c : Array Value} {T : TypeId} {fr : Nat × Nat} (h : w.heap[b]? = some (.cells c T fr)) (v : Value) :
    (w.setCell ⟨b, o, none⟩ v).heap[b]? = some (.cells (c.setIfInBounds o v) T fr) := by
  simp [World.setCell, Array.getElem?_modify, h]
theorem blk_set_ne {w : World} {a : Addr} {b : Nat} (h : b ≠ a.block) (v : Value) : (w.setCell a v).heap[b]? = w.heap[b]? := by
  simp only [World.setCell, Array.getElem?_modify]; rw [if_neg (fun e => h e.symm)]
theorem cell_blk {w : World} {b o : Nat} {c : Array Value} {T : TypeId} {fr : Nat × Nat} (h : w.heap[b]? = some (.cells c T fr)) : w.cell? ⟨b, o, none⟩ = c[o]? := by
  simp [World.cell?, h]
theorem frozen_blk {w : World} {b o : Nat} {c : Array Value} {T : TypeId} (h : w.heap[b]? = some (.cells c T (0, 0))) : w.frozen? ⟨b, o, none⟩ = false := by
  simp [World.frozen?, h]
theorem cell_keep {w w' : World} {a : Addr} (h : w'.heap[a.block]? = w.heap[a.block]?) : w'.cell? a = w.cell? a := by simp [World.cell?, h]
theorem frozen_keep {w w' : World} {a : Addr} (h : w'.heap[a.block]? = w.heap[a.block]?) : w'.frozen? a = w.frozen? a := by simp [World.frozen?, h]
theorem lt_of_cell {w : World} {a : Addr} {v : Value} (h : w.cell? a = some v) : a.block < w.heap.size := World.block_lt_of_cell? w a h

/-! ### what may have turned -/
structure Upd (M : Nat → Prop) (w w' : World) : Prop where
  os : w'.os = w.os
  tape : w'.tape = w.tape
  output : w'.output = w.output
  size : w.heap.size ≤ w'.heap.size
  keep : ∀ b, b < w.heap.size → ¬ M b → w'.heap[b]? = w.heap[b]?
/-- Nothing that was there has turned. -/
abbrev Ext (w w' : World) : Prop := Upd (fun _ => False) w w'
theorem Upd.refl (M : Nat → Prop) (w : World) : Upd M w w := ⟨rfl, rfl, rfl, Nat.le_refl _, fun _ _ _ => rfl⟩
theorem Upd.trans {M M' : Nat → Prop} {a b c : World} (h : Upd M a b) (k : Upd M' b c) (hM : ∀ x, x < a.heap.size → M' x → M x) : Upd M a c :=
  ⟨k.os.trans h.os, k.tape.trans h.tape, k.output.trans h.output, Nat.le_trans h.size k.size, fun x hx hm =>
    (k.keep x (Nat.lt_of_lt_of_le hx h.size) fun hm' => hm (hM x hx hm')).trans (h.keep x hx hm)⟩
theorem Upd.ext {M : Nat → Prop} {a b c : World} (h : Upd M a b) (k : Ext b c) : Upd M a c := h.trans k fun _ _ h => h.elim
theorem Upd.tr {M : Nat → Prop} {a b c : World} (h : Upd M a b) (k : Upd M b c) : Upd M a c := h.trans k fun _ _ h => h
theorem Upd.mono {M M' : Nat → Prop} {a b : World} (h : Upd M a b) (hM : ∀ x, x < a.heap.size → M x → M' x) : Upd M' a b :=
  ⟨h.os, h.tape, h.output, h.size, fun x hx hm => h.keep x hx fun hm' => hm (hM x hx hm')⟩
theorem Upd.drew {M : Nat → Prop} {a b : World} (h : Upd M a b) : Upd M a b.drew := ⟨h.os, h.tape, h.output, h.size, h.keep⟩
theorem Upd.alloc {M : Nat → Prop} {a b : World} (h : Upd M a b) (o : Obj) : Upd M a (b.alloc o) :=
  h.trans (M' := fun _ => False) ⟨rfl, rfl, rfl, by simp, fun x hx _ => blk_lt hx⟩ fun _ _ h => h.elim
theorem Upd.set {M : Nat → Prop} {a b : World} (h : Upd M a b) {p : Addr} (hp : p.block < a.heap.size → M p.block) (v : Value) : Upd M a (b.setCell p v) :=
  h.trans (M' := fun x => x = p.block) ⟨rfl, rfl, rfl, by simp, fun _ _ hm => blk_set_ne hm v⟩ fun _ hx e => by subst e; exact hp hx
theorem Upd.get {M : Nat → Prop} {a b : World} (h : Upd M a b) {x : Nat} {o : Obj} (hx : a.heap[x]? = some o) (hm : ¬ M x) : b.heap[x]? = some o := by
  rw [h.keep x (lt_of_blk hx) hm, hx]
theorem Ext.get {a b : World} (h : Ext a b) {x : Nat} {o : Obj} (hx : a.heap[x]? = some o) : b.heap[x]? = some o := Upd.get h hx id
theorem Upd.cell {M : Nat → Prop} {a b : World} (h : Upd M a b) {p : Addr} {v : Value} (hc : a.cell? p = some v) (hm : ¬ M p.block) : b.cell? p = some v := by
  rw [cell_keep (h.keep _ (lt_of_cell hc) hm), hc]
theorem Ext.below {w w' : World} (h : Ext w w') : Below w.heap.size w w' := ⟨h.os, h.tape, h.output, h.size, fun k hk => h.keep k hk id⟩
theorem Ext.to {a b : World} (h : Ext a b) (M : Nat → Prop) : Upd M a b := h.mono fun _ _ h => h.elim
theorem ext_drew (w : World) : Ext w w.drew := (Upd.refl _ w).drew
theorem ext_alloc (w : World) (o : Obj) : Ext w (w.alloc o) := (Upd.refl _ w).alloc o

/-! ### cells in a row -/
theorem cellsAt.nil (w : World) (A : Addr) : cellsAt w A [] := fun j v h => by simp at h
theorem cellsAt.upd {M : Nat → Prop} {w w' : World} {A : Addr} {vs : List Value} (h : cellsAt w A vs) (hu : Upd M w w') (hm : ¬ M A.block) : cellsAt w' A vs :=
  fun j v hv => hu.cell (h j v hv) (by simpa using hm)
theorem cellsAt.ext {w w' : World} {A : Addr} {vs : List Value} (h : cellsAt w A vs) (hu : Ext w w') : cellsAt w' A vs := h.upd hu id
theorem cellsAt.drop {w : World} {A : Addr} {vs : List Value} (h : cellsAt w A vs) (n : Nat) : cellsAt w (A.add n) (vs.drop n) :=
  fun j v hv => by rw [add_add]; exact h _ v (by simpa using hv)
theorem cellsAt.take {w : World} {A : Addr} {vs : List Value} (h : cellsAt w A vs) (n : Nat) : cellsAt w A (vs.take n) :=
  fun j v hv => h j v (by rw [List.getElem?_take] at hv; split at hv <;> simp_all)
theorem cellsAt_blk {w : World} {b o : Nat} {c : Array Value} {T : TypeId} {fr : Nat × Nat} (h : w.heap[b]? = some (.cells c T fr)) {vs : List Value} (hv : ∀ j v, vs[j]? = some v → c[o + j]? = some v) :
    cellsAt w ⟨b, o, none⟩ vs := fun j v hj => by rw [add_mk, cell_blk h]; exact hv j v hj
theorem cellsAt_lt {w : World} {A : Addr} {vs : List Value} (h : cellsAt w A vs) (hn : vs ≠ []) : A.block < w.heap.size := by
  cases vs with
  | nil => exact absurd rfl hn
  | cons v r => simpa using lt_of_cell (h 0 v (by simp))
theorem cellsAt_drew {w : World} {A : Addr} {vs : List Value} (h : cellsAt w A vs) : cellsAt w.drew A vs := h
theorem setCells_heap_ne {b : Nat} : ∀ (vs : List Value) (w : World) (A : Addr) (i : Nat), b ≠ A.block → (setCells w A i vs).heap[b]? = w.heap[b]?
  | [], _, _, _, _ => rfl
  | v :: r, w, A, i, h => by
    simp only [setCells]
    rw [setCells_heap_ne r _ A (i + 1) h, blk_set_ne (by simpa using h)]
theorem setCells_size : ∀ (vs : List Value) (w : World) (A : Addr) (i : Nat), (setCells w A i vs).heap.size = w.heap.size
  | [], _, _, _ => rfl
  | v :: r, w, A, i => by simp only [setCells]; rw [setCells_size r]; simp
theorem setCells_rest : ∀ (vs : List Value) (w : World) (A : Addr) (i : Nat), (setCells w A i vs).os = w.os ∧ (setCells w A i vs).tape = w.tape ∧ (setCells w A i vs).output = w.output
  | [], _, _, _ => ⟨rfl, rfl, rfl⟩
  | v :: r, w, A, i => by simp only [setCells]; exact setCells_rest r _ A (i + 1)
/-- A list's part exchanged. -/
def spl (c : List Value) (o : Nat) (vs : List Value) : List Value := c.take o ++ vs ++ c.drop (o + vs.length)
theorem spl_nil (c : List Value) (o : Nat) : spl c o [] = c := by simp [spl]
theorem spl_set (c : List Value) (o : Nat) (v : Value) (r : List Value) (h : o < c.length) : spl (c.set o v) (o + 1) r = spl c o (v :: r) := by
  have hl : (c.take o).length = o := by simp; omega
  have e : c.set o v = c.take o ++ (v :: c.drop (o + 1)) := by rw [List.set_eq_take_append_cons_drop, if_pos h]
  have e1 : (c.set o v).take (o + 1) = c.take o ++ [v] := by
    rw [e, List.take_append, hl, List.take_of_length_le (by omega), show o + 1 - o = 1 by omega]; rfl
  have e2 : (c.set o v).drop (o + 1 + r.length) = c.drop (o + (r.length + 1)) := by
    rw [e, List.drop_append, hl, List.drop_eq_nil_of_le (by omega), show o + 1 + r.length - o = r.length + 1 by omega]
    simp only [List.drop_succ_cons, List.drop_drop, List.nil_append]
    congr 1; omega
  simp only [spl, e1, e2, List.length_cons, List.append_assoc, List.cons_append, List.nil_append]
theorem setCells_blk {T : TypeId} {fr : Nat × Nat} {b o : Nat} : ∀ (vs : List Value) (w : World) (i : Nat) (c : List Value), w.heap[b]? = some (.cells c.toArray T fr) → o + i + vs.length ≤ c.length →
    (setCells w ⟨b, o, none⟩ i vs).heap[b]? = some (.cells (spl c (o + i) vs).toArray T fr)
  | [], w, i, c, h, _ => by simpa [setCells, spl_nil] using h
  | v :: r, w, i, c, h, hl => by
    simp only [setCells, add_mk]
    have h1 := blk_set (o := o + i) h v
    rw [List.setIfInBounds_toArray] at h1
    have := setCells_blk (o := o) r _ (i + 1) _ h1 (by simp at hl ⊢; omega)
    rw [this, show o + (i + 1) = o + i + 1 by omega, spl_set _ _ _ _ (by simp at hl; omega)]
theorem Upd.setCells {M : Nat → Prop} {a b : World} (h : Upd M a b) {p : Addr} (hp : p.block < a.heap.size → M p.block) (i : Nat) (vs : List Value) : Upd M a (setCells b p i vs) := by
  obtain ⟨h1, h2, h3⟩ := setCells_rest vs b p i
  exact h.trans (M' := fun x => x = p.block) ⟨h1, h2, h3, by rw [setCells_size]; exact Nat.le_refl _, fun _ _ hm => setCells_heap_ne vs b p i hm⟩ fun _ hx e => by subst e; exact hp hx
theorem canSt_blk {w : World} {b o n : Nat} {c : List Value} {T : TypeId} (h : w.heap[b]? = some (.cells c.toArray T (0, 0))) (hn : o + n ≤ c.length) : canSt w ⟨b, o, none⟩ n := by
  intro i hi
  rw [add_mk, cell_blk h, frozen_blk h]
  simp; omega
theorem _root_.Go.Vc.callVal.mono {rt : List Ty} {P : Program} {f : Value} {args : List Value} {w : World} {R R' : Tys rt → World → Prop} (h : callVal rt P f args w R) (hr : ∀ x w', R x w' → R' x w') : callVal rt P f args w R' := by
  unfold callVal at h ⊢
  split at h
  · exact CallT.mono h hr
  · exact h.elim
theorem alloc_facts (w : World) (o : Obj) : Ext w (w.alloc o) ∧ (w.alloc o).heap.size = w.heap.size + 1 ∧ (w.alloc o).heap[w.heap.size]? = some o :=
  ⟨ext_alloc w o, by simp, blk_new w o⟩
theorem set_ok {w : World} {b o : Nat} {c : Array Value} {T : TypeId} {X : Prop} (h : w.heap[b]? = some (.cells c T (0, 0))) (ho : o < c.size) (hx : X) :
    (w.cell? ⟨b, o, none⟩).isSome = true ∧ w.frozen? ⟨b, o, none⟩ = false ∧ X := by
  rw [cell_blk h, frozen_blk h]
  exact ⟨by simp [ho], rfl, hx⟩
theorem set_facts {w : World} {b o : Nat} {c : Array Value} {T : TypeId} (h : w.heap[b]? = some (.cells c T (0, 0))) (v : Value) :
    Upd (fun x => x = b) w (w.setCell ⟨b, o, none⟩ v) ∧ (w.setCell ⟨b, o, none⟩ v).heap.size = w.heap.size ∧ (w.setCell ⟨b, o, none⟩ v).heap[b]? = some (.cells (c.setIfInBounds o v) T (0, 0)) ∧ ∀ x, x ≠ b → (w.setCell ⟨b, o, none⟩ v).heap[x]? = w.heap[x]? :=
  ⟨(Upd.refl (fun x => x = b) w).set (p := ⟨b, o, none⟩) (fun _ => rfl) v, by simp, blk_set h v, fun _ hx => blk_set_ne hx v⟩
end Go.Vc
