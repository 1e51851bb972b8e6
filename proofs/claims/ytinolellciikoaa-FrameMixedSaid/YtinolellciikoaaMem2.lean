/- Slices: what reads as some cells (Rd), what is one's own (Own); append, make, copy. Conditions: those that each lemma names. -/
import Derived.Test.YtinolellciikoaaMem
namespace Go.Vc
open Go

/-- A slice that reads as these cells, sz of them an element. -/
structure Rd (w : World) (sz : Nat) (s : SV) (cs : List Value) : Prop where
  len : cs.length = s.len * sz
  nil : s.a = none → s.len = 0
  at_ : ∀ A, s.a = some A → cellsAt w A cs
/-- A slice that is nil, or begins a whole block of its own from B on. -/
structure Own (w : World) (B : Nat) (T : TypeId) (sz : Nat) (s : SV) (cs : List Value) : Prop where
  len : cs.length = s.len * sz
  is : (s.a = none ∧ s.len = 0 ∧ s.cap = 0) ∨ ∃ b rest, s.a = some ⟨b, 0, none⟩ ∧ B ≤ b ∧ w.heap[b]? = some (.cells (cs ++ rest).toArray T (0, 0)) ∧ (cs ++ rest).length = s.cap * sz ∧ s.len ≤ s.cap
theorem Own.rd {w : World} {B : Nat} {T : TypeId} {sz : Nat} {s : SV} {cs : List Value} (h : Own w B T sz s cs) : Rd w sz s cs := by
  refine ⟨h.len, ?_, ?_⟩
  · intro hn
    rcases h.is with ⟨_, h1, _⟩ | ⟨b, rest, ha, _⟩
    · exact h1
    · rw [hn] at ha; simp at ha
  · intro A hA
    rcases h.is with ⟨h1, _⟩ | ⟨b, rest, ha, _, hb, _⟩
    · rw [h1] at hA; simp at hA
    · rw [ha] at hA
      obtain rfl := Option.some.inj hA
      refine cellsAt_blk hb fun j v hv => ?_
      have : j < cs.length := (List.getElem?_eq_some_iff.1 hv).1
      simp [List.getElem?_append_left this, hv]
/-- The blocks that a slice leads to. -/
def SV.blk (s : SV) : Nat → Prop := fun b => ∃ A, s.a = some A ∧ A.block = b
theorem Rd.upd {M : Nat → Prop} {w w' : World} {sz : Nat} {s : SV} {cs : List Value} (h : Rd w sz s cs) (hu : Upd M w w') (hm : ∀ b, s.blk b → ¬ M b) : Rd w' sz s cs :=
  ⟨h.len, h.nil, fun A hA => (h.at_ A hA).upd hu (hm _ ⟨A, hA, rfl⟩)⟩
theorem Rd.ext {w w' : World} {sz : Nat} {s : SV} {cs : List Value} (h : Rd w sz s cs) (hu : Ext w w') : Rd w' sz s cs := Rd.upd h hu fun _ _ => id
theorem Rd.drew {w : World} {sz : Nat} {s : SV} {cs : List Value} (h : Rd w sz s cs) : Rd w.drew sz s cs := h.ext (ext_drew w)
theorem Rd.lt {w : World} {sz : Nat} {s : SV} {cs : List Value} (h : Rd w sz s cs) (hc : cs ≠ []) : ∀ b, s.blk b → b < w.heap.size := by
  rintro b ⟨A, hA, rfl⟩
  exact cellsAt_lt (h.at_ A hA) hc
/-- What reads as some cells still does, where what turned is its own from a number on that is beyond it. -/
theorem Rd.keep {M : Nat → Prop} {w w' : World} {sz : Nat} {s : SV} {cs : List Value} (h : Rd w sz s cs) (hu : Upd M w w') (hm : ∀ b, b < w.heap.size → s.blk b → ¬ M b) : Rd w' sz s cs := by
  by_cases hc : cs = []
  · subst hc; exact ⟨h.len, h.nil, fun A _ => cellsAt.nil _ _⟩
  · exact h.upd hu fun b hb => hm b (h.lt hc b hb) hb
theorem Own.upd {M : Nat → Prop} {w w' : World} {B : Nat} {T : TypeId} {sz : Nat} {s : SV} {cs : List Value} (h : Own w B T sz s cs) (hu : Upd M w w') (hm : ∀ b, s.blk b → ¬ M b) : Own w' B T sz s cs := by
  refine ⟨h.len, ?_⟩
  rcases h.is with h1 | ⟨b, rest, ha, hB, hb, hr⟩
  · exact .inl h1
  · exact .inr ⟨b, rest, ha, hB, hu.get hb (hm _ ⟨_, ha, rfl⟩), hr⟩
theorem Own.ext {w w' : World} {B : Nat} {T : TypeId} {sz : Nat} {s : SV} {cs : List Value} (h : Own w B T sz s cs) (hu : Ext w w') : Own w' B T sz s cs := Own.upd h hu fun _ _ => id
theorem Own.blk_ge {w : World} {B : Nat} {T : TypeId} {sz : Nat} {s : SV} {cs : List Value} (h : Own w B T sz s cs) {b : Nat} (hb : s.blk b) : B ≤ b := by
  obtain ⟨A, hA, rfl⟩ := hb
  rcases h.is with ⟨h1, _⟩ | ⟨b, rest, ha, hB, _⟩
  · rw [h1] at hA; simp at hA
  · rw [ha] at hA; obtain rfl := Option.some.inj hA; exact hB
theorem Own.blk_lt {w : World} {B : Nat} {T : TypeId} {sz : Nat} {s : SV} {cs : List Value} (h : Own w B T sz s cs) {b : Nat} (hb : s.blk b) : b < w.heap.size := by
  obtain ⟨A, hA, rfl⟩ := hb
  rcases h.is with ⟨h1, _⟩ | ⟨b, rest, ha, hB, hbk, _⟩
  · rw [h1] at hA; simp at hA
  · rw [ha] at hA; obtain rfl := Option.some.inj hA; exact lt_of_blk hbk
theorem Own.mono {w : World} {B B' : Nat} {T : TypeId} {sz : Nat} {s : SV} {cs : List Value} (h : Own w B T sz s cs) (hB : B' ≤ B) : Own w B' T sz s cs := by
  refine ⟨h.len, ?_⟩
  rcases h.is with h1 | ⟨b, rest, ha, hb, hr⟩
  · exact .inl h1
  · exact .inr ⟨b, rest, ha, Nat.le_trans hB hb, hr⟩
theorem Own.cap_le {w : World} {B : Nat} {T : TypeId} {sz : Nat} {s : SV} {cs : List Value} (h : Own w B T sz s cs) : s.len ≤ s.cap := by
  rcases h.is with ⟨_, h1, h2⟩ | ⟨_, _, _, _, _, _, h⟩
  · rw [h1]; exact Nat.zero_le _
  · exact h
theorem Own.nil (w : World) (B : Nat) (T : TypeId) (sz : Nat) : Own w B T sz ⟨none, 0, 0⟩ [] := ⟨by simp, .inl ⟨rfl, rfl, rfl⟩⟩
theorem Rd.nil' (w : World) (sz : Nat) (c : Nat) : Rd w sz ⟨none, 0, c⟩ [] := ⟨by simp, fun _ => rfl, fun A h => by simp at h⟩
/-- A new block, all of it elements. -/
theorem Own.new (w : World) (T : TypeId) (sz n : Nat) (cs : List Value) (h : cs.length = n * sz) : Own (w.alloc (.cells cs.toArray T)) w.heap.size T sz ⟨some ⟨w.heap.size, 0, none⟩, n, n⟩ cs :=
  ⟨h, .inr ⟨w.heap.size, [], rfl, Nat.le_refl _, by simpa using blk_new w (.cells cs.toArray T), by simpa using h, Nat.le_refl _⟩⟩

/-! ### append -/
/-- What an append takes its new elements from. -/
structure Src (P : Program) (w : World) (sz : Nat) (x : Value) (m : Nat) (news : List Value) : Prop where
  len : ∀ w', (Builtin.lenOf x).run P w' = .ok m w'
  cells : (Builtin.firstCells sz m x).run P w = .ok news.toArray w
  drew : (Builtin.firstCells sz m x).run P w.drew = .ok news.toArray w.drew
  size : news.length = m * sz
  one : ∀ v ∈ news, v.oneCell' = true
theorem Rd.src {P : Program} {w : World} {sz : Nat} {s : SV} {cs : List Value} (h : Rd w sz s cs) (ho : ∀ v ∈ cs, v.oneCell' = true) : Src P w sz (.slice s.a s.len s.cap) s.len cs := by
  have key : ∀ w : World, Rd w sz s cs → (Builtin.firstCells sz s.len (.slice s.a s.len s.cap)).run P w = .ok cs.toArray w := by
    intro w h
    cases hA : s.a with
    | none =>
      have h0 := h.nil hA
      have hl := h.len
      rw [h0, Nat.zero_mul] at hl
      rw [List.eq_nil_of_length_eq_zero hl]
      rfl
    | some A =>
      have := run_loadCells_list (P := P) (w := w) A cs (h.at_ A hA)
      rw [h.len] at this
      exact this
  exact ⟨fun w' => rfl, key w h, key _ h.drew, h.len, ho⟩
theorem growBy_le (n : Nat) : ∀ (k c : Nat), c ≤ 2 * n + 192 → Builtin.growBy n k c ≤ 2 * n + 192
  | 0, c, h => h
  | k + 1, c, h => by
    unfold Builtin.growBy
    split
    · exact h
    · exact growBy_le n k _ (by omega)
theorem nextcap_le {n c : Nat} (h : c < n) : Builtin.nextslicecap n c ≤ 2 * n + 192 := by
  unfold Builtin.nextslicecap
  split
  · omega
  · split
    · omega
    · exact growBy_le n 4 c (by omega)
theorem nextcap_zero {n : Nat} (h : 0 < n) : Builtin.nextslicecap n 0 = n := by unfold Builtin.nextslicecap; rw [if_pos (by omega)]

/-- The closed facts of an append: its slice's type, the element's. -/
structure AppT (P : Program) (ts : List TypeId) (e : TypeId) (sz bt : Nat) (z : List Value) : Prop where
  t0 : ∃ t, ts.toArray[0]? = some t ∧ P.underlying t = some (.slice e)
  t1 : ∃ t d, ts.toArray[1]? = some t ∧ P.underlying t = some d ∧ (d = .string ∨ ∃ e', d = .slice e')
  size : szOf P e = some sz
  bytes : (P.info? e).map (·.bytes) = some bt
  pos : 0 < bt
  zero : zeroL P e = some z
  zlen : z.length = sz
  zone : ∀ v ∈ z, v.oneCell' = true
theorem zeroCells_eq (z : Array Value) (n : Nat) : Builtin.zeroCells z n = (reps n z.toList).toArray := range_reps z n
theorem reps_one {z : List Value} (h : ∀ v ∈ z, v.oneCell' = true) : ∀ (n : Nat), ∀ v ∈ reps n z, v.oneCell' = true
  | 0, v, hv => by simp [reps] at hv
  | n + 1, v, hv => by
    simp only [reps, List.mem_append] at hv
    rcases hv with hv | hv
    · exact h v hv
    · exact reps_one h n v hv
theorem storeCells_own {P : Program} {w : World} {b o : Nat} {T : TypeId} {c vs : List Value} (h : w.heap[b]? = some (.cells c.toArray T (0, 0))) (hn : o + vs.length ≤ c.length) (hv : ∀ v ∈ vs, v.oneCell' = true) :
    (storeCells ⟨b, o, none⟩ vs).run P w = .ok () (setCells w ⟨b, o, none⟩ 0 vs) :=
  storeCells_run vs 0 w hv fun j hj => by
    rw [Nat.zero_add]
    exact canSt_blk h hn j hj

set_option maxRecDepth 4000 in
theorem appV_ownL {P : Program} {ts : List TypeId} {ty e : TypeId} {sz bt : Nat} {z : List Value} {w : World} {B : Nat} {s : SV} {x : Value} {m : Nat} {cs news : List Value} {K : SV → World → Prop}
    (hT : AppT P ts e sz bt z) (hs : Own w B e sz s cs) (hx : Src P w sz x m news) (hB : B ≤ w.heap.size)
    (hroom : s.cap < s.len + m → Builtin.nextslicecap (s.len + m) s.cap * bt ≤ 281474976710656)
    (hk : ∀ s' w', Own w' B e sz s' (cs ++ news) → s'.len = s.len + m → Upd s.blk w w' → (s.a ≠ none ∨ 0 < m → s'.a ≠ none) → (s'.a = s.a ∨ s'.a = some ⟨w.heap.size, 0, none⟩) → K s' w') :
    appV P ts ty [.slice s.a s.len s.cap, x] w K := by
  obtain ⟨t0, ht0, hu0⟩ := hT.t0
  obtain ⟨t1, d1, ht1, hu1, hd1⟩ := hT.t1
  obtain ⟨i, hi, hbt⟩ : ∃ i, P.info? e = some i ∧ i.bytes = bt := by
    have := hT.bytes
    cases hq : P.info? e <;> simp_all
  obtain ⟨zv, hzr, hzl⟩ := run_zeroL hT.zero
  have hrd := hs.rd
  unfold appV runV
  by_cases hfit : s.len + m ≤ s.cap
  · -- there is room
    rcases hs.is with ⟨ha, h0, hc⟩ | ⟨b, rest, ha, hb, hblk, hcap, hle⟩
    · have hm : m = 0 := by omega
      subst hm
      have hn : news = [] := List.eq_nil_of_length_eq_zero (by simpa using hx.size)
      subst hn
      refine ⟨s, w, ?_, hk s w (by simpa using hs) rfl (Upd.refl _ _) (by rintro (h | h); exact absurd ha h; omega) (.inl rfl)⟩
      simp only [Builtin.append_]
      rw [ht0]
      rcases hd1 with rfl | ⟨e1, rfl⟩ <;> simp [run_underlying hu0, run_szOf hT.size, ht1, run_underlying hu1, hx.len, hx.cells, ha, h0]
    · have hlen := hs.len
      have hst := storeCells_own (P := P) (o := s.len * sz) (vs := news) hblk (by rw [hcap, hx.size, ← Nat.add_mul]; exact Nat.mul_le_mul_right _ hfit) hx.one
      have hblk' := setCells_blk (o := s.len * sz) news w 0 _ hblk (by rw [Nat.add_zero, hcap, hx.size, ← Nat.add_mul]; exact Nat.mul_le_mul_right _ hfit)
      have hspl : spl (cs ++ rest) (s.len * sz + 0) news = (cs ++ news) ++ rest.drop news.length := by
        rw [Nat.add_zero, ← hlen]
        simp only [spl, List.take_left', List.append_assoc]
        rw [List.drop_append, List.drop_eq_nil_of_le (by omega)]
        simp
      rw [hspl] at hblk'
      refine ⟨⟨s.a, s.len + m, s.cap⟩, setCells w ⟨b, s.len * sz, none⟩ 0 news, ?_, hk _ _ ⟨by simp [hlen, hx.size, Nat.add_mul], .inr ⟨b, rest.drop news.length, ha, hb, hblk', ?_, hfit⟩⟩ rfl ?_ (fun _ => by simp [ha]) (.inl rfl)⟩
      · simp only [Builtin.append_]
        rw [ht0]
        rcases hd1 with rfl | ⟨e1, rfl⟩ <;> simp [run_underlying hu0, run_szOf hT.size, ht1, run_underlying hu1, hx.len, hfit, hx.cells, ha, hst]
      · have h1 : news.length ≤ rest.length := by
          have : (cs ++ rest).length = cs.length + rest.length := by simp
          have h2 : (s.len + m) * sz ≤ s.cap * sz := Nat.mul_le_mul_right _ hfit
          rw [Nat.add_mul, ← hx.size, ← hlen] at h2
          omega
        rw [← hcap]; simp; omega
      · exact (Upd.refl _ w).setCells (fun _ => ⟨_, ha, rfl⟩) 0 news
  · -- it grows
    have hlt : s.cap < s.len + m := by omega
    have hroom' : ¬ (Builtin.nextslicecap (s.len + m) s.cap * bt > 2 ^ 48) := by have := hroom hlt; omega
    have hinf : (typeInfo e).run P = fun w => .ok i w := by funext w; exact run_info hi w
    have hold : ∀ w : World, Rd w sz s cs → (Builtin.firstCells sz s.len (.slice s.a s.len s.cap)).run P w = .ok cs.toArray w := fun w h => by
      cases hA : s.a with
      | none =>
        have h0 := h.nil hA
        have hl := h.len
        rw [h0, Nat.zero_mul] at hl
        rw [List.eq_nil_of_length_eq_zero hl]
        rfl
      | some A =>
        have := run_loadCells_list (P := P) (w := w) A cs (h.at_ A hA)
        rw [h.len] at this
        exact this
    let q := Question.appendCap (s.len + m) s.cap e
    let nc := q.cut (w.tape w.drawn q)
    have hnc : s.len + m ≤ nc := Nat.le_add_right _ _
    have hzz : zv.cells.size = sz := by rw [← hT.zlen, ← hzl]; simp
    let row := cs ++ news ++ reps (nc - (s.len + m)) z
    refine ⟨⟨some ⟨w.heap.size, 0, none⟩, s.len + m, nc⟩, w.drew.alloc (.cells row.toArray e), ?_, hk _ _ ⟨by simp [hs.len, hx.size, Nat.add_mul], .inr ⟨w.heap.size, reps (nc - (s.len + m)) z, rfl, hB, blk_new w.drew (.cells row.toArray e), ?_, hnc⟩⟩ rfl ?_ (fun _ => by simp) (.inr rfl)⟩
    · simp only [Builtin.append_]
      rw [ht0]
      have hb0 : ¬ bt = 0 := fun h => by have := hT.pos; omega
      have ho := hold _ hrd.drew
      have hxd := hx.drew
      rcases hd1 with rfl | ⟨e1, rfl⟩ <;>
      · simp only [List.getElem?_toArray, List.getElem?_cons_zero, List.getElem?_cons_succ, Sem.run_bind, run_underlying hu0, Result.andThen_ok, run_szOf hT.size, ht1, run_underlying hu1, Sem.run_pure, Bool.false_eq_true, if_false, hx.len, hfit, Bool.not_false, if_true, hinf, hbt, false_or, hb0, and_false, hroom', run_choose, Question.forced, run_askRoom, World.drew_eq, ho, hxd, hzr, newRow, run_newObj, zeroCells_eq, hzl]
        simp only [row, List.append_toArray]
        rfl
    · simp only [List.length_append, reps_length, hs.len, hx.size, hT.zlen, ← Nat.add_mul]
      congr 1; omega
    · exact ((Upd.refl _ w).drew.alloc _)
theorem appV_own {P : Program} {ts : List TypeId} {ty e : TypeId} {sz bt : Nat} {z : List Value} {w : World} {B : Nat} {s : SV} {x : Value} {m : Nat} {cs news : List Value} {K : SV → World → Prop}
    (hT : AppT P ts e sz bt z) (hs : Own w B e sz s cs) (hx : Src P w sz x m news) (hB : B ≤ w.heap.size)
    (hroom : s.cap < s.len + m → Builtin.nextslicecap (s.len + m) s.cap * bt ≤ 281474976710656)
    (hk : ∀ s' w', Own w' B e sz s' (cs ++ news) → s'.len = s.len + m → Upd s.blk w w' → (s.a ≠ none ∨ 0 < m → s'.a ≠ none) → K s' w') :
    appV P ts ty [.slice s.a s.len s.cap, x] w K :=
  appV_ownL hT hs hx hB hroom fun s' w' h1 h2 h3 h4 _ => hk s' w' h1 h2 h3 h4
end Go.Vc
namespace Go.Vc
open Go
theorem Upd.own {w0 w1 w2 : World} {B : Nat} {T : TypeId} {sz : Nat} {s : SV} {cs : List Value} {M : Nat → Prop} (h : Upd M w0 w1) (hs : Own w1 B T sz s cs) (hB : w0.heap.size ≤ B) (hu : Upd s.blk w1 w2) : Upd M w0 w2 :=
  h.trans hu fun x hx hb => absurd (hs.blk_ge hb) (by omega)
theorem one_cells {vs : List Value} {n : Nat} (h : ∀ v ∈ vs, v.oneCell' = true) : ∀ v ∈ vs.take n, v.oneCell' = true := fun v hv => h v (List.mem_of_mem_take hv)
/-- An append of new elements that stand in a block of their own. -/
theorem app_new {P : Program} {ts : List TypeId} {ty e : TypeId} {sz bt : Nat} {z : List Value} {w0 w : World} {s : SV} {m : Nat} {cs vs : List Value} {K : SV → World → Prop} {M : Nat → Prop}
    (hT : AppT P ts e sz bt z) (he : Upd M w0 w) (hs : Own w w0.heap.size e sz s cs) (hv : vs.length = m * sz) (h1 : ∀ v ∈ vs, v.oneCell' = true) (hroom : (2 * (s.len + m) + 192) * bt ≤ 281474976710656)
    (hk : ∀ s' w', Own w' w0.heap.size e sz s' (cs ++ vs) → Upd M w0 w' → s'.len = s.len + m → (0 < m → s'.a ≠ none) → K s' w') :
    appV P ts ty [.slice s.a s.len s.cap, .slice (some ⟨w.heap.size, 0, none⟩) m m] (w.alloc (.cells vs.toArray e)) K := by
  have hs' : Own (w.alloc (.cells vs.toArray e)) w0.heap.size e sz s cs := hs.ext (ext_alloc _ _)
  have hsrc := (Own.new w e sz m vs hv).rd.src (P := P) h1
  refine appV_own hT hs' hsrc (by have := he.size; simp; omega) (fun hlt => ?_) ?_
  · exact Nat.le_trans (Nat.mul_le_mul_right _ (nextcap_le hlt)) hroom
  · intro s' w' ho hl hu ha
    exact hk s' w' ho ((he.alloc _).own hs' (Nat.le_refl _) hu) hl (fun h => ha (.inr h))
/-- The same; what it turns: the slice's own block alone. -/
theorem app_new' {P : Program} {ts : List TypeId} {ty e : TypeId} {sz bt : Nat} {z : List Value} {w0 w : World} {s : SV} {m : Nat} {cs vs : List Value} {K : SV → World → Prop} {M : Nat → Prop}
    (hT : AppT P ts e sz bt z) (he : Upd M w0 w) (hs : Own w w0.heap.size e sz s cs) (hv : vs.length = m * sz) (h1 : ∀ v ∈ vs, v.oneCell' = true) (hroom : (2 * (s.len + m) + 192) * bt ≤ 281474976710656)
    (hk : ∀ s' w', Own w' w0.heap.size e sz s' (cs ++ vs) → Upd M w0 w' → Upd s.blk w w' → s'.len = s.len + m → (0 < m → s'.a ≠ none) → K s' w') :
    appV P ts ty [.slice s.a s.len s.cap, .slice (some ⟨w.heap.size, 0, none⟩) m m] (w.alloc (.cells vs.toArray e)) K := by
  have hs' : Own (w.alloc (.cells vs.toArray e)) w0.heap.size e sz s cs := hs.ext (ext_alloc _ _)
  have hsrc := (Own.new w e sz m vs hv).rd.src (P := P) h1
  refine appV_own hT hs' hsrc (by have := he.size; simp; omega) (fun hlt => ?_) ?_
  · exact Nat.le_trans (Nat.mul_le_mul_right _ (nextcap_le hlt)) hroom
  · intro s' w' ho hl hu ha
    exact hk s' w' ho ((he.alloc _).own hs' (Nat.le_refl _) hu) (((ext_alloc w _).to s.blk).trans hu fun _ _ h => h) hl (fun h => ha (.inr h))
/-- An append of what a slice reads as. -/
theorem app_rd {P : Program} {ts : List TypeId} {ty e : TypeId} {sz bt : Nat} {z : List Value} {w0 w : World} {s t : SV} {cs vs : List Value} {K : SV → World → Prop} {M : Nat → Prop}
    (hT : AppT P ts e sz bt z) (he : Upd M w0 w) (hs : Own w w0.heap.size e sz s cs) (ht : Rd w sz t vs) (h1 : ∀ v ∈ vs, v.oneCell' = true)
    (hroom : s.cap < s.len + t.len → Builtin.nextslicecap (s.len + t.len) s.cap * bt ≤ 281474976710656)
    (hk : ∀ s' w', Own w' w0.heap.size e sz s' (cs ++ vs) → Upd M w0 w' → s'.len = s.len + t.len → (s.a ≠ none ∨ 0 < t.len → s'.a ≠ none) → K s' w') :
    appV P ts ty [.slice s.a s.len s.cap, .slice t.a t.len t.cap] w K := by
  refine appV_own hT hs (ht.src h1) he.size hroom ?_
  intro s' w' ho hl hu ha
  exact hk s' w' ho (he.own hs (Nat.le_refl _) hu) hl ha
/-- make. -/
theorem mkSV_own {P : Program} {t e : TypeId} {sz bt : Nat} {z : List Value} {w : World} {k k' : IntKind} {l c : Int} {K : SV → World → Prop}
    (hu : P.underlying t = some (.slice e)) (hs : szOf P e = some sz) (hb : (P.info? e).map (·.bytes) = some bt) (hz : zeroL P e = some z) (hzl : z.length = sz)
    (h0 : 0 ≤ l) (h1 : l ≤ c) (h2 : (bt : Int) * c ≤ 281474976710656) (h3 : c ≤ 9223372036854775807)
    (hk : K ⟨some ⟨w.heap.size, 0, none⟩, l.toNat, c.toNat⟩ (w.alloc (.cells (reps c.toNat z).toArray e))) :
    mkSV P t (.int k l) (.int k' c) w K := by
  obtain ⟨i, hi, hbt⟩ : ∃ i, P.info? e = some i ∧ i.bytes = bt := by cases hq : P.info? e <;> simp_all
  obtain ⟨zv, hzr, hzv⟩ := run_zeroL hz
  have hzz : zv.cells.size = sz := by rw [← hzl, ← hzv]; simp
  refine ⟨⟨some ⟨w.heap.size, 0, none⟩, l.toNat, c.toNat⟩, _, ?_, hk⟩
  have hl : IntKind.i64.wrap l = l := i64_id (by omega) (by omega)
  have hc : IntKind.i64.wrap c = c := i64_id (by omega) (by omega)
  have hbig : ¬ ((bt : Int) * c > 2 ^ 48) := by omega
  simp only [Instr.makeSlice, Sem.run_bind, run_underlying hu, Result.andThen_ok, asInt, asIntOf, Sem.run_pure, run_info hi, hbt, hl, hc]
  have hcond : (decide (c < 0) || decide ((bt : Int) * c > 2 ^ 48) || decide (l < 0) || decide (l > c)) = false := by
    simp only [Bool.or_eq_false_iff, decide_eq_false_iff_not]
    exact ⟨⟨⟨by omega, hbig⟩, by omega⟩, by omega⟩
  rw [if_neg (by rw [hcond]; simp)]
  simp only [Sem.run_bind, run_askRoom, Result.andThen_ok, run_szOf hs]
  have hcell : (Array.range (c.toNat * sz)).map (fun i => zv.cells[i % zv.cells.size]!) = (reps c.toNat z).toArray := by
    have := range_reps zv.cells c.toNat
    rw [hzv] at this
    rwa [hzz] at this ⊢
  by_cases hn : c.toNat * sz = 0
  · have : reps c.toNat z = [] := List.eq_nil_of_length_eq_zero (by rw [reps_length, hzl]; exact hn)
    simp only [hn, if_true, Sem.run_pure, Result.andThen_ok, newRow, run_newObj, Sem.run_bind, this]
    simp only [World.alloc_eq]
    congr 3
    simp
  · simp only [hn, if_false, Sem.run_bind, hzr, Result.andThen_ok, Sem.run_pure, newRow, run_newObj, hcell]
    rfl
end Go.Vc
