/- word: the walk over bytes; word.Zero; ReadVar, and the document's Var and ReadVar (r1's texts Word and WordRead without what this seat lacks). Conditions: those of each contract. -/
import Derived.Test.YtinolellciikoaaCond13
import Derived.Test.YtinolellciikoaaCond14
import Derived.Test.YtinolellciikoaaCond15
import Derived.Test.YtinolellciikoaaHelp
import Derived.Test.YtinolellciikoaaByt
namespace Go.Proofs
open Go Go.Vc

/-- The walk: S i holds ahead of the i-th byte, E i behind the last that do was told. -/
theorem word_walk_over.spec {M : Nat → Prop} {w : World} {x0 : Value} {s : SV} {l : List UInt8} (S E : Nat → World → Prop) (i0 : Nat)
    (hs : RdB w s l) (hl : l.length < 2 ^ 62) (hM0 : ¬ M w.heap.size) (hM : l ≠ [] → ∀ b, s.blk b → ¬ M b)
    (h0 : ∀ w', Ext w w' → S i0 w')
    (hstep : ∀ i b w', l[i]? = some b → Upd M w w' → w.heap.size < w'.heap.size → S i w' →
      callVal [.one .bool] Try.prog x0 [.int .u8 b.toNat] w'.drew fun r w2 => Upd M w' w2 ∧ cnd r (S (i + 1) w2) (E (i + 1) w2)) :
    CallT [.one (.int .i64), .one .bool] Try.prog F.word_walk_over [.agg #[x0], .slice s.a s.len s.cap, .int .i64 i0] w fun r w' =>
      Upd M w w' ∧ ∃ i : Nat, r.1 = i ∧ cnd r.2 (i = max i0 l.length ∧ S i w') (i ≤ l.length ∧ E i w') := by
  refine word_walk_over.vc x0 s i0 w _ ?_
  refine ⟨fun n x w' => ∃ i : Nat, x = i ∧ (i = i0 ∨ i ≤ l.length) ∧ i0 ≤ i ∧ n = l.length - i ∧ Upd M (w.alloc (.cells #[x0] T.word_walk)) w' ∧ S i w',
    ⟨_, i0, rfl, .inl rfl, Nat.le_refl _, rfl, Upd.refl _ _, h0 _ (ext_alloc _ _)⟩, ?_⟩
  rintro n x j w' ⟨i, rfl, hi, hle, rfl, hu, hS⟩
  have hlen := hs.lenB
  have hu0 : Upd M w w' := ((ext_alloc w _).to M).trans hu fun _ _ h => h
  refine cnd_dec (fun hlt => ?_) (fun hge => ?_)
  · have hil : i < l.length := by omega
    obtain ⟨b, hb⟩ : ∃ b, l[i]? = some b := ⟨_, List.getElem?_eq_getElem hil⟩
    have hw1 : IntKind.i64.wrap ((i : Int) + 1) = ((i + 1 : Nat) : Int) := by rw [i64_id] <;> omega
    have hw2 : IntKind.i64.wrap (((i + 1 : Nat) : Int) - 1) = (i : Int) := by rw [i64_id] <;> omega
    have hcl : w'.drew.cell? (Addr.add ⟨w.heap.size, 0, none⟩ 0) = some x0 := by
      have := hu.get (blk_new w (.cells #[x0] T.word_walk)) hM0
      rw [add_mk]
      exact cell_blk this
    refine ⟨x0, hcl, ?_⟩
    rw [hw1, hw2]
    refine ⟨by omega, by omega, SV.getB hs hil fun A hA => ⟨b.toNat, ?_, ?_⟩⟩
    · rw [Int.toNat_natCast]
      exact ((hs.upd hu0 (hM (List.ne_nil_of_length_pos (by omega)))).drew).cellB hb hA
    · have hsz : w.heap.size < w'.heap.size := by have := hu.size; simp at this; omega
      refine callVal.mono (hstep i b w' hb hu0 hsz hS) ?_
      rintro r w2 ⟨hu2, hr⟩
      refine cnd_not (fun hf => ?_) (fun ht => ?_)
      · subst hf
        exact ⟨hu0.trans hu2 fun _ _ h => h, i + 1, rfl, by omega, hr⟩
      · subst ht
        exact ⟨l.length - (i + 1), by omega, i + 1, rfl, by omega, by omega, rfl, hu.trans hu2 fun _ _ h => h, hr⟩
  · exact ⟨hu0, i, rfl, by omega, hS⟩

theorem walk_mk {w : World} {T : TypeId} {z f : Value} {K : Value → World → Prop} (hk : ∀ w1, Ext w w1 → w1.heap.size = w.heap.size + 1 → w1.drawn = w.drawn → K f w1) :
    canSt (w.alloc (.cells #[z] T)) ⟨w.heap.size, 0, none⟩ 1 ∧ (let w1 := setCells (w.alloc (.cells #[z] T)) ⟨w.heap.size, 0, none⟩ 0 [f]; ∃ x, cellsAt w1 ⟨w.heap.size, 0, none⟩ [x] ∧ K x w1) := by
  have hb := blk_new w (.cells [z].toArray T)
  refine ⟨canSt_blk hb (by simp), f, ?_, hk _ ?_ ?_ ?_⟩
  · exact cellsAt_blk (setCells_blk (o := 0) [f] _ 0 _ hb (by simp)) (by simp [spl])
  · exact (ext_alloc w _).setCells (p := ⟨w.heap.size, 0, none⟩) (fun h => by simp at h) 0 [f]
  · rw [setCells_size]; simp
  · rfl

theorem walk_mkd {w : World} {T : TypeId} {z f : Value} {K : Value → World → Prop} (hk : ∀ w1, Ext w w1 → w1.heap.size = w.heap.size + 1 → w1.drawn = w.drawn → K f w1) :
    canSt (w.alloc (.cells #[z] T)) ⟨w.heap.size, 0, none⟩ 1 ∧ (let w1 := setCells (w.alloc (.cells #[z] T)) ⟨w.heap.size, 0, none⟩ 0 [f]; ∃ x, cellsAt w1.drew ⟨w.heap.size, 0, none⟩ [x] ∧ K x w1) :=
  walk_mk hk
/-! ### word.Zero -/
theorem word_Zero_1.spec (n : Int) (w : World) : CallT [.one .bool] Try.prog F.word_Zero_1 [.int .u8 n] w fun r w' => r = (n == 0) ∧ w = w' :=
  word_Zero_1.vc n w _ ⟨rfl, rfl⟩
def allZ (l : List UInt8) : Bool := l.all (· == 0)
theorem word_Zero.spec {w : World} {s : SV} {l : List UInt8} (hs : RdB w s l) (hl : l.length < 2 ^ 62) :
    CallT [.one .bool] Try.prog F.word_Zero [.slice s.a s.len s.cap] w fun r w' => r = allZ l ∧ Ext w w' := by
  refine word_Zero.vc s w _ ?_
  refine walk_mk (K := fun x w1 => CallT _ _ _ [.agg #[x], _, _] w1 _) ?_
  intro w1 h1 h1s _
  refine CallT.mono (word_walk_over.spec (M := fun _ => False) (fun i _ => allZ (l.take i) = true) (fun i _ => allZ l = false) 0 (hs.ext h1) hl id (fun _ _ _ => id) (fun _ _ => rfl) ?_) ?_
  · intro i b w' hb hu _ hS
    refine CallT.mono (word_Zero_1.spec b.toNat w'.drew) ?_
    rintro r w2 ⟨rfl, rfl⟩
    refine ⟨(Upd.refl _ _).drew, cnd_beq (fun hz => ?_) (fun hz => ?_)⟩
    · have : b = 0 := by rw [← UInt8.toNat_inj]; simpa using hz
      subst this
      rw [List.take_add_one, hb]
      simp only [allZ, List.all_append] at hS ⊢
      simp [hS]
    · have : b ≠ 0 := by rintro rfl; exact hz rfl
      simp only [allZ, List.all_eq_false]
      exact ⟨b, List.mem_of_getElem? hb, by simpa using this⟩
  · rintro ⟨i, r⟩ w' ⟨hu, k, hk, hr⟩
    refine ⟨?_, h1.trans hu fun _ _ h => h⟩
    cases r with
    | true => obtain ⟨rfl, hr⟩ := hr; simpa using hr.symm
    | false => exact hr.2.symm

/-! ### awake -/

/-- What bytes are as a number, from the n-th on, v being that of those ahead: the number, how many bytes, an error. -/
def rvGo (n v : Nat) : List UInt8 → Nat × Nat × Int
  | [] => (0, 0, 10)
  | c :: r => if n = 9 ∧ 1 < c.toNat ∨ 0 < n ∧ c.toNat = 0 then (0, 0, 11)
    else if c.toNat < 128 then (v + c.toNat % 128 * 128 ^ n, n + 1, 0) else rvGo (n + 1) (v + c.toNat % 128 * 128 ^ n) r
def readVar (l : List UInt8) (at_ : Int) : Int × Int × Int :=
  if at_ < 0 then (0, 0, 1) else (match rvGo 0 0 (l.drop at_.toNat) with | (v, n, e) => if e = 0 then (v, at_ + n, 0) else (0, 0, e))

theorem or_add {v x n : Nat} (h : v < 128 ^ n) : v ||| (x * 128 ^ n) = v + x * 128 ^ n := by
  have e : 128 ^ n = 2 ^ (7 * n) := by rw [Nat.pow_mul]
  rw [e] at h ⊢
  rw [Nat.mul_comm x, Nat.or_comm, ← Nat.two_pow_add_eq_or_of_lt h]; omega
theorem rv_bits {v n c : Nat} (hv : v < 128 ^ n) (hn : n ≤ 9) (hc : c < 256) (hn9 : n = 9 → c ≤ 1) :
    bor .u64 (v : Int) (shl .u64 (IntKind.u64.wrap (band .u8 (c : Int) 127)) (((7 * n : Nat)) : Int)) = ((v + c % 128 * 128 ^ n : Nat) : Int) ∧ v + c % 128 * 128 ^ n < 2 ^ 64 ∧ v + c % 128 * 128 ^ n < 128 ^ (n + 1) := by
  have hb : band .u8 (c : Int) ((127 : Nat) : Int) = ((c &&& 127 : Nat) : Int) := band_nat rfl (by simpa [IntKind.bits] using hc) (by decide)
  have h127 : c &&& 127 = c % 128 := Nat.and_two_pow_sub_one_eq_mod c 7
  have hw : IntKind.u64.wrap (((c % 128 : Nat)) : Int) = ((c % 128 : Nat) : Int) := u64_id (by omega) (by omega)
  have hb' : band .u8 (c : Int) 127 = ((c % 128 : Nat) : Int) := by rw [← h127]; exact hb
  rw [hb', hw, shl_nat (k := .u64) rfl (by simp only [IntKind.bits]; omega)]
  have e : 128 ^ n = 2 ^ (7 * n) := by rw [Nat.pow_mul]
  have hpos : 0 < 128 ^ n := Nat.pow_pos (by decide)
  have hlt : v + c % 128 * 128 ^ n < 128 ^ (n + 1) := by
    rw [Nat.pow_succ]
    have : c % 128 ≤ 127 := by omega
    have := Nat.mul_le_mul_right (128 ^ n) this
    omega
  have h64 : v + c % 128 * 128 ^ n < 2 ^ 64 := by
    by_cases h9 : n = 9
    · subst h9
      have := hn9 rfl
      have : c % 128 ≤ 1 := by omega
      omega
    · have : 128 ^ (n + 1) ≤ 128 ^ 9 := Nat.pow_le_pow_right (by decide) (by omega)
      omega
  have hm : c % 128 * 2 ^ (7 * n) % 2 ^ IntKind.u64.bits = c % 128 * 128 ^ n := by
    rw [← e]
    apply Nat.mod_eq_of_lt
    simp only [IntKind.bits]; omega
  rw [hm, bor_nat (k := .u64) rfl (by simp only [IntKind.bits]; omega) (by simp only [IntKind.bits]; omega), or_add hv]
  exact ⟨rfl, h64, hlt⟩

theorem word_ReadVar.spec {w : World} {s : SV} {l : List UInt8} (hs : RdB w s l) (hl : l.length ≤ 140737488351232) (a : Int) (ha : a ≤ 9223372036854775807) :
    CallT [.one (.int .u64), .one (.int .i64), .one (.int .i64)] Try.prog F.word_ReadVar [.slice s.a s.len s.cap, .int .i64 a] w fun r w' => r = readVar l a ∧ Ext w w' := by
  refine word_ReadVar.vc s a w _ ?_
  refine cnd_dec (fun h => ⟨by rw [readVar, if_pos h], Upd.refl _ _⟩) (fun h0 => ?_)
  obtain ⟨at_, rfl⟩ : ∃ n : Nat, a = n := ⟨a.toNat, by omega⟩
  have hsl := hs.lenB
  intro w1
  obtain ⟨e1, z1, b1⟩ := alloc_facts w (.cells #[.int .u64 0] T.uint64)
  intro w2
  obtain ⟨e2, z2, b2⟩ := alloc_facts w1 (.cells #[.int .i64 0] T.int)
  intro w3
  obtain ⟨e3, z3, b3⟩ := alloc_facts w2 (.cells #[.bool false] T.bool)
  have e123 : Ext w w3 := (e1.trans e2 fun _ _ h => h).trans e3 fun _ _ h => h
  have zz1 : w1.heap.size = w.heap.size + 1 := z1
  have zz2 : w2.heap.size = w.heap.size + 2 := by rw [← Nat.add_assoc (w.heap.size) 1 1, ← zz1]; exact z2
  have zz3 : w3.heap.size = w.heap.size + 3 := by rw [show w.heap.size + 3 = w.heap.size + 2 + 1 from rfl, ← zz2]; exact z3
  have g1 : w3.heap[w.heap.size]? = some (.cells #[.int .u64 0] T.uint64) := e3.get (e2.get b1)
  have g2 : w3.heap[w1.heap.size]? = some (.cells #[.int .i64 0] T.int) := e3.get b2
  have g3 : w3.heap[w2.heap.size]? = some (.cells #[.bool false] T.bool) := b3
  clear b1 b2 b3 e1 e2 e3 z1 z2 z3
  clear_value w3
  clear_value w2
  clear_value w1
  refine set_ok (o := 0) g1 (by simp) ?_
  intro w4
  obtain ⟨u4, z4, h1, k4⟩ := set_facts (o := 0) g1 (.int .u64 0)
  have h2 : w4.heap[w1.heap.size]? = _ := (k4 _ (by omega)).trans g2
  have h3 : w4.heap[w2.heap.size]? = _ := (k4 _ (by omega)).trans g3
  have e4 : Ext w w4 := e123.trans u4 fun x hx e => by omega
  have z4 : w4.heap.size = w.heap.size + 3 := z4.trans zz3
  have h1 : w4.heap[w.heap.size]? = some (.cells #[.int .u64 0] T.uint64) := h1
  clear_value w4
  clear u4 k4 g1 g2 g3
  refine set_ok (o := 0) h2 (by simp) ?_
  intro w5
  obtain ⟨u5, z5, g2, k5⟩ := set_facts (o := 0) h2 (.int .i64 0)
  have g1 : w5.heap[w.heap.size]? = _ := (k5 _ (by omega)).trans h1
  have g3 : w5.heap[w2.heap.size]? = _ := (k5 _ (by omega)).trans h3
  have e5 : Ext w w5 := e4.trans u5 fun x hx e => by omega
  have z5 : w5.heap.size = w.heap.size + 3 := z5.trans z4
  have g2 : w5.heap[w1.heap.size]? = some (.cells #[.int .i64 0] T.int) := g2
  clear_value w5
  clear u5 k5 h1 h2 h3
  refine set_ok (o := 0) g3 (by simp) ?_
  intro w6
  obtain ⟨u6, z6, h3, k6⟩ := set_facts (o := 0) g3 (.bool true)
  have h1 : w6.heap[w.heap.size]? = _ := (k6 _ (by omega)).trans g1
  have h2 : w6.heap[w1.heap.size]? = _ := (k6 _ (by omega)).trans g2
  have e6 : Ext w w6 := e5.trans u6 fun x hx e => by omega
  have z6 : w6.heap.size = w.heap.size + 3 := z6.trans z5
  have h3 : w6.heap[w2.heap.size]? = some (.cells #[.bool true] T.bool) := h3
  clear_value w6
  clear u6 k6 g1 g2 g3
  refine walk_mk (K := fun x w1 => CallT _ _ _ [.agg #[x], _, _] w1 _) ?_
  intro w7 e7 z7 _
  have h1 := e7.get h1
  have h2 := e7.get h2
  have h3 := e7.get h3
  have e7 : Ext w w7 := e6.trans e7 fun _ _ h => h
  clear e123 zz3 e4 z4 e5 z5 e6
  refine CallT.mono (word_walk_over.spec (M := fun b => b = w.heap.size ∨ b = w1.heap.size ∨ b = w2.heap.size)
    (fun i w' => ∃ n v : Nat, n ≤ 9 ∧ v < 128 ^ n ∧ i = at_ + n ∧ rvGo 0 0 (l.drop at_) = rvGo n v (l.drop i) ∧
      w'.heap[w.heap.size]? = some (.cells #[.int .u64 v] T.uint64) ∧ w'.heap[w1.heap.size]? = some (.cells #[.int .i64 n] T.int) ∧ w'.heap[w2.heap.size]? = some (.cells #[.bool true] T.bool))
    (fun i w' => ∃ f : Bool, w'.heap[w2.heap.size]? = some (.cells #[.bool f] T.bool) ∧ cnd f
      (∃ n v : Nat, n ≤ 10 ∧ i = at_ + n ∧ rvGo 0 0 (l.drop at_) = (v, n, 0) ∧ w'.heap[w.heap.size]? = some (.cells #[.int .u64 v] T.uint64))
      (rvGo 0 0 (l.drop at_) = (0, 0, 11))) at_ (hs.ext e7) (by omega) (by omega) ?_ ?_ ?_) ?_
  · intro hne b hb hM
    have := hs.lt (by intro h; exact hne (List.map_eq_nil_iff.1 h)) b hb
    omega
  · intro w' he
    exact ⟨0, 0, by omega, by decide, rfl, rfl, he.get h1, he.get h2, he.get h3⟩
  · rintro i b w' hb hu hsz ⟨n, v, hn, hv, rfl, hrv, c1, c2, c3⟩
    have hdrop : l.drop (at_ + n) = b :: l.drop (at_ + n + 1) := by
      have hlt : at_ + n < l.length := (List.getElem?_eq_some_iff.1 hb).1
      rw [List.drop_eq_getElem_cons hlt, (List.getElem?_eq_some_iff.1 hb).2]
    rw [hdrop, rvGo] at hrv
    refine word_ReadVar_1.vc b.toNat _ _ _ w'.drew _ ?_
    have hl1 : w.heap.size < w'.heap.size := lt_of_blk c1
    have form : Upd (fun b => b = w.heap.size ∨ b = w1.heap.size ∨ b = w2.heap.size) w' (w'.drew.setCell ⟨w2.heap.size, 0, none⟩ (.bool false)) ∧
        (w'.drew.setCell ⟨w2.heap.size, 0, none⟩ (.bool false)).heap[w2.heap.size]? = some (.cells #[.bool false] T.bool) :=
      ⟨((Upd.refl _ w').drew).set (p := ⟨w2.heap.size, 0, none⟩) (fun _ => .inr (.inr rfl)) _, blk_set (w := w'.drew) c3 _⟩
    have bad : ∀ hc : (n = 9 ∧ 1 < b.toNat ∨ 0 < n ∧ b.toNat = 0), rvGo 0 0 (l.drop at_) = (0, 0, 11) := fun hc => by rw [hrv, if_pos hc]
    have hcell : w'.drew.cell? ⟨w1.heap.size, 0, none⟩ = some (.int .i64 n) := cell_blk (w := w'.drew) c2
    refine ⟨fun _ w2' => w2' = w'.drew ∧ ¬ (n = 9 ∧ 1 < b.toNat ∨ 0 < n ∧ b.toNat = 0), ⟨n, hcell, ?_⟩, ?_⟩
    · refine cnd_beq (fun h9 => cnd_dec (fun hg => ?_) (fun hng => ⟨n, hcell, cnd_dec (fun hp => cnd_beq (fun hz => ?_) (fun hz => ?_)) (fun hp => ?_)⟩)) (fun h9 => ⟨n, hcell, cnd_dec (fun hp => cnd_beq (fun hz => ?_) (fun hz => ?_)) (fun hp => ?_)⟩)
      · exact set_ok (o := 0) (w := w'.drew) c3 (by simp) ⟨form.1, false, form.2, bad (.inl ⟨by omega, by omega⟩)⟩
      · exact set_ok (o := 0) (w := w'.drew) c3 (by simp) ⟨form.1, false, form.2, bad (.inr ⟨by omega, by omega⟩)⟩
      · exact ⟨rfl, by omega⟩
      · exact ⟨rfl, by omega⟩
      · exact set_ok (o := 0) (w := w'.drew) c3 (by simp) ⟨form.1, false, form.2, bad (.inr ⟨by omega, by omega⟩)⟩
      · exact ⟨rfl, by omega⟩
      · exact ⟨rfl, by omega⟩
    · rintro _ j' _ ⟨rfl, hc⟩
      rw [if_neg hc] at hrv
      obtain ⟨q1, q2, q3⟩ := rv_bits hv hn b.toNat_lt (by omega)
      have h7 : IntKind.i64.wrap (7 * (n : Int)) = ((7 * n : Nat) : Int) := by rw [i64_id] <;> omega
      have hn1 : IntKind.i64.wrap ((n : Int) + 1) = ((n + 1 : Nat) : Int) := by rw [i64_id] <;> omega
      have d1 : w'.drew.drew.heap[w.heap.size]? = some (.cells #[.int .u64 v] T.uint64) := c1
      have d2 : w'.drew.drew.heap[w1.heap.size]? = some (.cells #[.int .i64 n] T.int) := c2
      refine ⟨v, cell_blk d1, n, cell_blk d2, ?_⟩
      rw [h7]
      refine ⟨by omega, set_ok (o := 0) d1 (by simp) ?_⟩
      rw [q1]
      intro x1
      obtain ⟨u1, _, k1, kk⟩ := set_facts (o := 0) d1 (.int .u64 ((v + b.toNat % 128 * 128 ^ n : Nat) : Int))
      have k2 : x1.heap[w1.heap.size]? = _ := (kk _ (by omega)).trans d2
      have k3 : x1.heap[w2.heap.size]? = some (.cells #[.bool true] T.bool) := (kk _ (by omega)).trans c3
      have k1 : x1.heap[w.heap.size]? = some (.cells #[.int .u64 ((v + b.toNat % 128 * 128 ^ n : Nat) : Int)] T.uint64) := k1
      have u1 : Upd (fun b => b = w.heap.size ∨ b = w1.heap.size ∨ b = w2.heap.size) w' x1 := ((Upd.refl _ w').drew.drew).trans u1 fun _ _ h => .inl h
      clear_value x1
      refine ⟨n, cell_blk k2, set_ok (o := 0) k2 (by simp) ?_⟩
      obtain ⟨u2, _, m2, mm⟩ := set_facts (o := 0) k2 (.int .i64 (IntKind.i64.wrap (n + 1)))
      have m1 := (mm _ (by omega)).trans k1
      have m3 := (mm _ (by omega)).trans k3
      have u2 := u1.trans u2 fun _ _ h => .inr (.inl h)
      refine ⟨u2, cnd_dec (fun hge => ?_) (fun hlt => ?_)⟩
      · rw [if_neg (by omega)] at hrv
        rw [hn1] at m2 m1 m3 ⊢
        refine ⟨n + 1, _, ?_, q3, by omega, hrv, m1, m2, m3⟩
        by_cases h9 : n = 9 <;> omega
      · rw [if_pos (by omega)] at hrv
        refine ⟨true, m3, n + 1, _, by omega, by omega, hrv, m1⟩
  · rintro ⟨i, r⟩ w' ⟨hu, k, hk, hr⟩
    dsimp only at hk hr
    subst hk
    have hext : Ext w w' := e7.trans hu fun x hx hM => by omega
    cases r with
    | true =>
      obtain ⟨rfl, n, v, _, _, _, hrv, _, _, hf⟩ := hr
      refine ⟨true, cell_blk hf, ?_⟩
      have hd : l.drop (max at_ l.length) = [] := List.drop_eq_nil_of_le (by omega)
      rw [hd] at hrv
      refine cnd_false (cnd_true ⟨?_, hext⟩)
      rw [readVar, if_neg h0, Int.toNat_natCast, hrv]
      rfl
    | false =>
      obtain ⟨hil, f, hf, hr⟩ := hr
      refine ⟨f, cell_blk hf, ?_⟩
      cases f with
      | false =>
        refine cnd_true ⟨?_, hext⟩
        have hr : rvGo 0 0 (l.drop at_) = (0, 0, 11) := hr
        rw [readVar, if_neg h0, Int.toNat_natCast, hr]
        rfl
      | true =>
        obtain ⟨n, v, hn, rfl, hrv, hv⟩ := hr
        refine cnd_false (cnd_false ⟨v, cell_blk hv, ?_, hext⟩)
        rw [readVar, if_neg h0, Int.toNat_natCast, hrv]
        simp

set_option maxRecDepth 4000 in
theorem dunnageref01_ReadVar.spec {w : World} {s : SV} {l : List UInt8} (hs : RdB w s l) (hl : l.length ≤ 140737488351232) (a : Int) (ha : a ≤ 9223372036854775807) :
    CallT [.one (.int .u64), .one (.int .i64), .one (.int .i64)] Try.prog F.dunnageref01_ReadVar [.slice s.a s.len s.cap, .int .i64 a] w fun r w' => r = readVar l a ∧ w = w' := by
  refine dunnageref01_ReadVar.vc s a w _ ?_
  refine cnd_dec (fun h => ⟨by rw [readVar, if_pos h], rfl⟩) (fun h0 => ?_)
  obtain ⟨at_, rfl⟩ : ∃ n : Nat, a = n := ⟨a.toNat, by omega⟩
  have hsl := hs.lenB
  have hrd : readVar l at_ = (match rvGo 0 0 (l.drop at_) with | (v, n, e) => if e = 0 then ((v : Int), (at_ : Int) + n, (0 : Int)) else (0, 0, e)) := by
    rw [readVar, if_neg h0, Int.toNat_natCast]
  refine ⟨fun m x w' => ∃ n v : Nat, x = ((v : Int), (n : Int)) ∧ n ≤ 9 ∧ v < 128 ^ n ∧ m = 10 - n ∧ w = w' ∧ rvGo 0 0 (l.drop at_) = rvGo n v (l.drop (at_ + n)), ⟨10, 0, 0, rfl, by omega, by decide, rfl, rfl, rfl⟩, ?_⟩
  rintro m _ j _ ⟨n, v, rfl, hn, hv, rfl, rfl, hrv⟩
  dsimp only
  refine cnd_dec (fun _ => ?_) (fun h => absurd (by omega) h)
  refine ⟨fun _ w' => w = w' ∧ at_ + n < l.length, ?_, ?_⟩
  · have short : l.length ≤ at_ + n → (0, 0, 10) = readVar l at_ ∧ w = w := fun h => by
      rw [List.drop_eq_nil_of_le h] at hrv
      rw [hrd, hrv]; exact ⟨rfl, rfl⟩
    refine cnd_dec (fun h => short (by omega)) (fun h => ?_)
    have h7 : IntKind.i64.wrap ((at_ : Int) + (n : Int)) = ((at_ + n : Nat) : Int) := by rw [i64_id] <;> omega
    rw [h7]
    exact cnd_dec (fun h => short (by omega)) (fun h => ⟨rfl, by omega⟩)
  · rintro _ _ _ ⟨rfl, hlt⟩
    have h7 : IntKind.i64.wrap ((at_ : Int) + (n : Int)) = ((at_ + n : Nat) : Int) := by rw [i64_id] <;> omega
    rw [h7, Int.toNat_natCast]
    refine ⟨by omega, by omega, SV.getB hs hlt fun A hA => ⟨(l[at_ + n]).toNat, hs.cellB (List.getElem?_eq_getElem hlt) hA, ?_⟩⟩
    rw [List.drop_eq_getElem_cons hlt, rvGo] at hrv
    generalize l[at_ + n] = b at hrv ⊢
    have bad : (n = 9 ∧ 1 < b.toNat ∨ 0 < n ∧ b.toNat = 0) → (0, 0, 11) = readVar l at_ ∧ w = w := fun hc => by
      rw [if_pos hc] at hrv
      rw [hrd, hrv]; exact ⟨rfl, rfl⟩
    refine ⟨fun _ w2' => w = w2' ∧ ¬ (n = 9 ∧ 1 < b.toNat ∨ 0 < n ∧ b.toNat = 0), ?_, ?_⟩
    · refine cnd_beq (fun h9 => cnd_dec (fun hg => bad (.inl ⟨by omega, by omega⟩)) (fun hng => cnd_dec (fun hp => cnd_beq (fun hz => bad (.inr ⟨by omega, by omega⟩)) (fun hz => ⟨rfl, by omega⟩)) (fun hp => ⟨rfl, by omega⟩)))
        (fun h9 => cnd_dec (fun hp => cnd_beq (fun hz => bad (.inr ⟨by omega, by omega⟩)) (fun hz => ⟨rfl, by omega⟩)) (fun hp => ⟨rfl, by omega⟩))
    · rintro _ _ _ ⟨rfl, hc⟩
      rw [if_neg hc] at hrv
      obtain ⟨q1, q2, q3⟩ := rv_bits hv hn b.toNat_lt (by omega)
      have h8 : IntKind.u64.wrap (7 * IntKind.u64.wrap (n : Int)) = ((7 * n : Nat) : Int) := by rw [u64_id (x := n) (by omega) (by omega), u64_id] <;> omega
      rw [h8]
      refine And.intro (by omega) ?_
      rw [q1]
      have hlt0 : b.toNat < 128 ∨ ¬ b.toNat < 128 := by omega
      rcases hlt0 with hlt' | hlt'
      · refine cnd_pos (decide_eq_true (by omega)) ?_
        rw [if_pos (by omega)] at hrv
        refine ⟨?_, rfl⟩
        rw [hrd, hrv, i64_id (by omega) (by omega)]
        simp; omega
      · refine cnd_neg (decide_eq_false (by omega)) ?_
        rw [if_neg (by omega)] at hrv
        refine ⟨10 - (n + 1), by omega, n + 1, _, by rw [i64_id (x := (n : Int) + 1) (by omega) (by omega)]; rfl, ?_, q3, rfl, rfl, hrv⟩
        by_cases h9 : n = 9 <;> omega

theorem dunnageref01_Var.spec (v : Nat) (hv : v < 2 ^ 64) (w : World) :
    CallT [.one .slice] Try.prog F.dunnageref01_Var [.int .u64 v] w fun s w' => OwnB w' w.heap.size s (varB v) ∧ Ext w w' ∧ s.a ≠ none := by
  refine dunnageref01_Var.vc v w _ ?_
  refine ⟨fun n x w' => ∃ (u : Nat) (d : List UInt8), x.1 = u ∧ u < 2 ^ 64 ∧ OwnB w' w.heap.size x.2 d ∧ Ext w w' ∧ d ++ varB u = varB v ∧ n = u,
    ⟨v, v, [], rfl, hv, Own.nil _ _ _ _, Upd.refl _ _, rfl, rfl⟩, ?_⟩
  rintro n ⟨x, out⟩ j w' ⟨u, d, hx, hle, ho, he, hd, rfl⟩
  dsimp only at hx ho ⊢
  subst hx
  have hlen : d.length ≤ 10 := by
    have := varB_10 hv
    rw [← hd] at this
    simp at this; omega
  have hol := ho.lenB
  refine cnd_dec (fun hge => ?_) (fun hlt => ?_)
  · have hge' : ¬ n < 128 := by omega
    have hb := bor128 (n % 256) (by omega)
    have hw : IntKind.u8.wrap (n : Int) = ((n % 256 : Nat) : Int) := by rw [u8_mod]; omega
    rw [hw, hb]
    refine app_new (vs := B8 [UInt8.ofNat (n % 256 % 128 + 128)]) appB he ho rfl (B8_one _) (by omega) ?_
    intro s' w2 ho2 he2 hl2 _
    have hshr : shr .u64 (n : Int) 7 = ((n / 128 : Nat) : Int) := shr_nat (k := .u64) (b := 7) (by decide)
    refine ⟨n / 128, by omega, n / 128, d ++ [UInt8.ofNat (n % 256 % 128 + 128)], hshr, by omega, ?_, he2, ?_, rfl⟩
    · rw [OwnB, B8_append]; exact ho2
    · rw [← hd, varB_ge hge', List.append_assoc]
      congr 2
      rw [show n % 256 % 128 = n % 128 by omega]
      rfl
  · have hlt' : n < 128 := by omega
    have hw : IntKind.u8.wrap (n : Int) = ((UInt8.ofNat n).toNat : Int) := u8_of n
    rw [hw]
    refine app_new (vs := B8 [UInt8.ofNat n]) appB he ho rfl (B8_one _) (by omega) ?_
    intro s' w2 ho2 he2 hl2 ha
    refine ⟨?_, he2, ha (by omega)⟩
    rw [← hd, varB_lt hlt', OwnB, B8_append]
    exact ho2


/-! ### Text, ReadText -/
def textB (l : List UInt8) : List UInt8 := varB l.length ++ l
theorem rvGo_ok : ∀ (l : List UInt8) (n v : Nat) {v' n' : Nat}, n ≤ 9 → v < 128 ^ n → rvGo n v l = (v', n', 0) → n < n' ∧ n' ≤ n + l.length ∧ v' < 2 ^ 64
  | [], n, v, v', n', _, _, h => by simp [rvGo] at h
  | c :: r, n, v, v', n', hn, hv, h => by
    rw [rvGo] at h
    split at h
    · simp at h
    · rename_i hc
      obtain ⟨_, q2, q3⟩ := rv_bits hv hn c.toNat_lt (by omega)
      split at h
      · simp only [Prod.mk.injEq, and_true] at h
        obtain ⟨rfl, rfl⟩ := h
        exact ⟨by omega, by simp, q2⟩
      · have := rvGo_ok r (n + 1) _ (by by_cases h9 : n = 9 <;> omega) q3 h
        simp only [List.length_cons]
        omega
theorem readVar_ok {l : List UInt8} {a v n : Int} (h : readVar l a = (v, n, 0)) : ∃ (i j u : Nat), a = i ∧ n = j ∧ v = u ∧ i < j ∧ j ≤ l.length ∧ u < 2 ^ 64 := by
  unfold readVar at h
  split at h
  · simp at h
  · rename_i ha
    revert h
    rcases hq : rvGo 0 0 (l.drop a.toNat) with ⟨v', n', e⟩
    intro h
    dsimp only at h
    split at h
    · rename_i he
      subst he
      obtain ⟨h1, h2, h3⟩ := rvGo_ok _ 0 0 (by omega) (by decide) hq
      simp only [Prod.mk.injEq, and_true] at h
      obtain ⟨rfl, rfl⟩ := h
      rw [List.length_drop] at h2
      exact ⟨a.toNat, a.toNat + n', v', by omega, by omega, rfl, by omega, by omega, h3⟩
    · rename_i he
      simp only [Prod.mk.injEq] at h
      exact absurd h.2.2 he
/-- What bytes are as a text: the text, the place behind it, an error. -/
def readText (l : List UInt8) (a most : Int) : List UInt8 × Int × Int :=
  match readVar l a with
  | (v, n, e) => if e ≠ 0 then ([], 0, e) else if v > max most 0 then ([], 0, 4) else if v > (l.length : Int) - n then ([], 0, 10) else
    ((l.drop n.toNat).take v.toNat, n + v, 0)
end Go.Proofs
