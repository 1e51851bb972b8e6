/- A field of an element of a slice of one's own is set. Conditions: those that each lemma names. -/
import Derived.Test.YtinolellciikoaaRows4
namespace Go.Vc
open Go
theorem flat_set {α : Type} {enc : α → List Value} {sz : Nat} (h : ∀ x, (enc x).length = sz) {x y : α} {k : Nat} {v : Value} (hk : k < sz) (hy : enc y = (enc x).set k v) :
    ∀ (l : List α) (i : Nat), l[i]? = some x → (l.flatMap enc).set (i * sz + k) v = (l.set i y).flatMap enc
  | [], i, hx => by simp at hx
  | a :: r, 0, hx => by
    obtain rfl := Option.some.inj hx
    simp only [List.flatMap_cons, List.set_cons_zero, Nat.zero_mul, Nat.zero_add]
    rw [List.set_append_left _ _ (by rw [h]; exact hk), hy]
  | a :: r, i + 1, hx => by
    simp only [List.flatMap_cons, List.set_cons_succ]
    have ih := flat_set h hk hy r i (by simpa using hx)
    rw [List.set_append_right (s := enc a) _ _ (by rw [h, Nat.add_mul]; omega), h, show (i + 1) * sz + k - sz = i * sz + k by rw [Nat.add_mul]; omega, ih]
theorem OwnS.setf {α : Type} {enc : α → List Value} {sz : Nat} {w : World} {s : SV} {l : List α} {T : TypeId} {B : Nat} (h : OwnS enc sz T w B s l) {i : Nat} {x : α} (hx : l[i]? = some x) {A : Addr} (hA : s.a = some A) {k : Nat} (hk : k < sz) {v : Value} {y : α} (hy : enc y = (enc x).set k v) :
    (w.cell? ((A.add (i * sz)).add k)).isSome = true ∧ w.frozen? ((A.add (i * sz)).add k) = false ∧ OwnS enc sz T (w.setCell ((A.add (i * sz)).add k) v) B s (l.set i y) ∧
      (w.setCell ((A.add (i * sz)).add k) v).heap.size = w.heap.size ∧ Upd s.blk w (w.setCell ((A.add (i * sz)).add k) v) := by
  rcases h.own.is with ⟨h1, _⟩ | ⟨b, rest, ha, hB, hb, hcap, hle⟩
  · rw [h1] at hA; simp at hA
  · have hA' := hA
    rw [ha] at hA
    obtain rfl := Option.some.inj hA
    have hi : i < l.length := (List.getElem?_eq_some_iff.1 hx).1
    have hlt : i * sz + k < (l.flatMap enc).length := by
      rw [flat_len h.esz]
      have : (i + 1) * sz ≤ l.length * sz := Nat.mul_le_mul_right _ hi
      rw [Nat.add_mul] at this; omega
    rw [add_add, add_mk, Nat.zero_add]
    refine ⟨?_, frozen_blk hb, ⟨⟨?_, .inr ⟨b, rest, ha, hB, ?_, ?_, hle⟩⟩, h.esz, h.pos⟩, by simp, (Upd.refl _ w).set (p := ⟨b, i * sz + k, none⟩) (fun _ => ⟨_, hA', rfl⟩) v⟩
    · rw [cell_blk hb, List.getElem?_toArray, List.getElem?_eq_getElem (by rw [List.length_append]; omega)]; rfl
    · rw [← flat_set h.esz hk hy l i hx, List.length_set]; exact h.own.len
    · rw [blk_set hb, List.setIfInBounds_toArray, List.set_append_left _ _ hlt, flat_set h.esz hk hy l i hx]
    · rw [← flat_set h.esz hk hy l i hx, List.length_append, List.length_set, ← List.length_append]; exact hcap
theorem OwnS.lenS {α : Type} {enc : α → List Value} {sz : Nat} {w : World} {s : SV} {l : List α} {T : TypeId} {B : Nat} (h : OwnS enc sz T w B s l) : s.len ≤ s.cap := h.own.cap_le
/-- What was one's own from a number on is new. -/
theorem Upd.newS {M : Nat → Prop} {w0 w1 w2 : World} {s : SV} (h : Upd M w0 w1) (hs : ∀ b, s.blk b → w0.heap.size ≤ b) (hu : Upd s.blk w1 w2) : Upd M w0 w2 :=
  h.trans hu fun x hx hb => absurd (hs x hb) (by omega)
theorem flat_drop {α : Type} {enc : α → List Value} (l : List α) (n : Nat) {sz : Nat} (h : ∀ x, (enc x).length = sz) : (l.flatMap enc).drop (n * sz) = (l.drop n).flatMap enc := by
  induction l generalizing n with
  | nil => simp
  | cons x r ih =>
    cases n with
    | zero => simp
    | succ n =>
      simp only [List.flatMap_cons, List.drop_succ_cons]
      rw [List.drop_append, h, List.drop_eq_nil_of_le (by rw [h, Nat.add_mul]; omega), show (n + 1) * sz - sz = n * sz by rw [Nat.add_mul]; omega, ih]
      simp
theorem flat_spl {α : Type} {enc : α → List Value} {sz : Nat} (h : ∀ x, (enc x).length = sz) (l : List α) (rest : List Value) {i : Nat} (hi : i < l.length) (y : α) :
    spl (l.flatMap enc ++ rest) (i * sz) (enc y) = (l.set i y).flatMap enc ++ rest := by
  have hl := flat_len h l
  have h1 : (i + 1) * sz ≤ l.length * sz := Nat.mul_le_mul_right _ hi
  rw [Nat.add_mul, Nat.one_mul] at h1
  rw [spl, h, List.take_append_of_le_length (by omega), List.drop_append_of_le_length (by omega), flat_take l i h, show i * sz + sz = (i + 1) * sz by rw [Nat.add_mul, Nat.one_mul], flat_drop l (i + 1) h,
    List.set_eq_take_append_cons_drop, if_pos hi, List.flatMap_append, List.flatMap_cons]
  simp only [List.append_assoc]
/-- An element of a slice of one's own is exchanged. -/
theorem OwnS.setx {α : Type} {enc : α → List Value} {sz : Nat} {w : World} {s : SV} {l : List α} {T : TypeId} {B : Nat} (h : OwnS enc sz T w B s l) {i : Nat} (hi : i < l.length) {A : Addr} (hA : s.a = some A) (y : α) :
    canSt w (A.add (i * sz)) (enc y).length ∧ OwnS enc sz T (setCells w (A.add (i * sz)) 0 (enc y)) B s (l.set i y) ∧
      (setCells w (A.add (i * sz)) 0 (enc y)).heap.size = w.heap.size ∧ Upd s.blk w (setCells w (A.add (i * sz)) 0 (enc y)) := by
  rcases h.own.is with ⟨h1, _⟩ | ⟨b, rest, ha, hB, hb, hcap, hle⟩
  · rw [h1] at hA; simp at hA
  · have hA' := hA
    rw [ha] at hA
    obtain rfl := Option.some.inj hA
    have hl := flat_len h.esz l
    have h1 : (i + 1) * sz ≤ l.length * sz := Nat.mul_le_mul_right _ hi
    rw [Nat.add_mul, Nat.one_mul] at h1
    have hlen : (l.set i y).flatMap enc = (l.set i y).flatMap enc := rfl
    have hls : ((l.set i y).flatMap enc).length = (l.flatMap enc).length := by rw [flat_len h.esz, flat_len h.esz, List.length_set]
    rw [add_mk, Nat.zero_add]
    refine ⟨canSt_blk hb (by rw [h.esz, List.length_append]; omega), ⟨⟨by rw [hls]; exact h.own.len, .inr ⟨b, rest, ha, hB, ?_, ?_, hle⟩⟩, h.esz, h.pos⟩, by rw [setCells_size], (Upd.refl _ w).setCells (p := ⟨b, i * sz, none⟩) (fun _ => ⟨_, hA', rfl⟩) 0 _⟩
    · rw [setCells_blk (o := i * sz) (enc y) w 0 _ hb (by rw [h.esz, List.length_append]; omega), Nat.add_zero, flat_spl h.esz l rest hi y]
    · rw [List.length_append, hls, ← List.length_append]; exact hcap
/-- The built-in clear of a slice's end. -/
theorem clrV_own {P : Program} {ts : TypeId} {t e : TypeId} {sz c : Nat} {z as bs : List Value} {w : World} {s : SV} {B i : Nat} {K : World → Prop}
    (hu : P.underlying ts = some (.slice e)) (hz : zeroL P e = some z) (hzl : z.length = sz) (hz1 : ∀ v ∈ z, v.oneCell' = true) (ho : Own w B e sz s (as ++ bs)) (ha : as.length = i * sz) (hi : i ≤ s.len)
    (hk : ∀ w', Own w' B e sz ⟨s.a, i, s.cap⟩ as → Upd s.blk w w' → w'.heap.size = w.heap.size → K w') :
    clrV P [ts] t [.slice (subA s.a i sz s.cap) (s.len - i) c] w K := by
  have hlen := ho.len
  rw [List.length_append] at hlen
  rcases ho.is with ⟨h1, h2, h3⟩ | ⟨b, rest, hs, hB, hb, hcap, hle⟩
  · refine ⟨_, w, ?_, rfl, hk w ⟨?_, .inl ⟨h1, by simp only; omega, h3⟩⟩ (Upd.refl _ _) rfl⟩
    · have : subA s.a i sz s.cap = none := by unfold subA; split <;> simp [h1]
      rw [this]
      simp only [Builtin.clear_, List.getElem?_toArray, List.getElem?_cons_zero, Sem.run_bind, run_underlying hu, Result.andThen_ok, Sem.run_pure]
    · have : i = 0 := by omega
      subst this; exact ha
  · by_cases hn : s.len - i = 0
    · have hil : i = s.len := by omega
      refine ⟨_, w, ?_, rfl, hk w ⟨ha, .inr ⟨b, bs ++ rest, hs, hB, by rw [← List.append_assoc]; exact hb, by rw [← List.append_assoc]; exact hcap, by simp only; omega⟩⟩ (Upd.refl _ _) rfl⟩
      rw [hn]
      cases hsub : subA s.a i sz s.cap with
      | none => simp only [Builtin.clear_, List.getElem?_toArray, List.getElem?_cons_zero, Sem.run_bind, run_underlying hu, Result.andThen_ok, Sem.run_pure]
      | some A => simp only [Builtin.clear_, List.getElem?_toArray, List.getElem?_cons_zero, Sem.run_bind, run_underlying hu, Result.andThen_ok, Sem.run_pure]
    · obtain ⟨n, hn⟩ : ∃ n, s.len - i = n + 1 := ⟨s.len - i - 1, by omega⟩
      obtain ⟨zv, hzr, hzv⟩ := run_zeroL hz
      have hmul : (s.len - i) * sz = s.len * sz - i * sz := Nat.sub_mul _ _ _
      have himul : i * sz ≤ s.len * sz := Nat.mul_le_mul_right _ hi
      have hbs : bs.length = (n + 1) * sz := by rw [← hn, hmul]; omega
      have hrl : (reps (n + 1) z).length = (n + 1) * sz := by rw [reps_length, hzl]
      have hr1 : ∀ v ∈ reps (n + 1) z, v.oneCell' = true := by
        have : ∀ k, ∀ v ∈ reps k z, v.oneCell' = true := by
          intro k
          induction k with
          | zero => intro v hv; simp [reps] at hv
          | succ k ih => intro v hv; rw [reps] at hv; rcases List.mem_append.1 hv with h | h; exact hz1 v h; exact ih v h
        exact this _
      have hst := storeCells_own (P := P) (o := i * sz) (vs := reps (n + 1) z) hb (by simp only [List.length_append, hrl]; omega) hr1
      have hsub : subA s.a i sz s.cap = some ⟨b, i * sz, none⟩ := by
        rw [hs, subA, if_neg (by omega), Option.map_some, add_mk, Nat.zero_add]
      have hspl : spl (as ++ bs ++ rest) (i * sz + 0) (reps (n + 1) z) = as ++ (reps (n + 1) z ++ rest) := by
        have e1 : as ++ bs ++ rest = as ++ (bs ++ rest) := List.append_assoc _ _ _
        have e2 : (as ++ (bs ++ rest)).drop (as.length + (n + 1) * sz) = rest := by
          rw [← List.drop_drop, List.drop_left, ← hbs, List.drop_left]
        rw [Nat.add_zero, spl, hrl, ← ha, e1, List.take_left, e2, List.append_assoc]
      refine ⟨.tuple #[], setCells w ⟨b, i * sz, none⟩ 0 (reps (n + 1) z), ?_, rfl, hk _ ⟨ha, .inr ⟨b, reps (n + 1) z ++ rest, hs, hB, ?_, ?_, by simp only; omega⟩⟩ ((Upd.refl _ w).setCells (p := ⟨b, i * sz, none⟩) (fun _ => ⟨_, hs, rfl⟩) 0 _) (setCells_size _ _ _ _)⟩
      · rw [hsub, hn]
        simp only [Builtin.clear_, List.getElem?_toArray, List.getElem?_cons_zero, Sem.run_bind, run_underlying hu, Result.andThen_ok, hzr, zeroCells_eq, hzv, hst, Sem.run_pure]
      · rw [setCells_blk (o := i * sz) (reps (n + 1) z) w 0 _ hb (by simp only [List.length_append, hrl]; omega), hspl]
      · rw [← hcap]; simp only [List.length_append, hrl]; omega
end Go.Vc
