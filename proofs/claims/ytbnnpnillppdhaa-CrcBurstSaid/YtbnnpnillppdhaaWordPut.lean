/- word.Put, word.Get, and the document's. Conditions: those of each contract. -/
import Derived.Test.YtbnnpnillppdhaaWord
namespace Go.Proofs
open Go Go.Vc

def leB (n v : Nat) : List UInt8 := (List.range n).map fun i => UInt8.ofNat (v / 256 ^ i)
theorem leB_succ (n v : Nat) : leB (n + 1) v = leB n v ++ [UInt8.ofNat (v / 256 ^ n)] := by simp [leB, List.range_succ]
theorem leB_len (n v : Nat) : (leB n v).length = n := by simp [leB]
def leV : List UInt8 → Nat | [] => 0 | c :: r => c.toNat + 256 * leV r
theorem leV_snoc (a : List UInt8) (c : UInt8) : leV (a ++ [c]) = leV a + c.toNat * 256 ^ a.length := by
  induction a with
  | nil => simp [leV]
  | cons x r ih => simp only [List.cons_append, leV, ih, List.length_cons, Nat.pow_succ]; rw [Nat.mul_add, ← Nat.add_assoc, Nat.mul_left_comm 256, Nat.mul_comm (256 ^ r.length)]
theorem leV_lt (a : List UInt8) : leV a < 256 ^ a.length := by
  induction a with
  | nil => simp [leV]
  | cons x r ih => simp only [leV, List.length_cons, Nat.pow_succ]; have := x.toNat_lt; omega
theorem leV_leB : ∀ (n v : Nat), leV (leB n v) = v % 256 ^ n
  | 0, v => by simp [leB, leV, Nat.mod_one]
  | n + 1, v => by
    rw [leB_succ, leV_snoc, leV_leB n v, leB_len, Nat.pow_succ, Nat.mod_mul]
    simp [Nat.mul_comm]
theorem leB_cons (n v : Nat) : leB (n + 1) v = UInt8.ofNat v :: leB n (v / 256) := by
  simp only [leB, List.range_succ_eq_map, List.map_cons, List.map_map, Nat.pow_zero, Nat.div_one]
  congr 1
  apply List.map_congr_left
  intro i _
  simp only [Function.comp, Nat.pow_succ, Nat.div_div_eq_div_mul, Nat.mul_comm]
theorem leB_leV (a : List UInt8) : leB a.length (leV a) = a := by
  induction a with
  | nil => rfl
  | cons c r ih =>
    have := c.toNat_lt
    rw [List.length_cons, leB_cons, leV, show (c.toNat + 256 * leV r) / 256 = leV r by omega, ih]
    congr 1
    rw [← UInt8.toNat_inj]; simp
def putB (l : List UInt8) (v : Nat) (n : Int) : List UInt8 × Int :=
  if n < 1 ∨ n > 8 then ([], 1) else if 256 ^ n.toNat ≤ v then ([], 12) else (l ++ leB n.toNat v, 0)
def getB (l : List UInt8) (a n : Int) : Int × Int :=
  if n < 1 ∨ n > 8 ∨ a < 0 then (0, 1) else if a > l.length ∨ (l.length : Int) - a < n then (0, 10) else ((leV ((l.drop a.toNat).take n.toNat) : Nat), 0)
theorem pow256 (n : Nat) : 256 ^ n = 2 ^ (8 * n) := by rw [Nat.pow_mul]
theorem word_Put.spec {w : World} {s : SV} {l : List UInt8} (hs : RdB w s l) (hl : l.length ≤ 140737488351232) {v : Nat} (hv : v < 2 ^ 64) {n : Int} (hn : -9223372036854775808 ≤ n ∧ n ≤ 9223372036854775807) :
    CallT [.one .slice, .one (.int .i64)] Try.prog F.word_Put [.slice s.a s.len s.cap, .int .u64 v, .int .i64 n] w fun r w' =>
      OwnB w' w.heap.size r.1 (putB l v n).1 ∧ r.2 = (putB l v n).2 ∧ Ext w w' := by
  refine word_Put.vc s v n w _ ?_
  have hsl := hs.lenB
  refine ⟨fun _ w' => w = w' ∧ 1 ≤ n ∧ n ≤ 8, ?_, ?_⟩
  · have bad : (n < 1 ∨ n > 8) → OwnB w w.heap.size ⟨none, 0, 0⟩ (putB l v n).1 ∧ (1 : Int) = (putB l v n).2 ∧ Ext w w := fun h => by
      rw [putB, if_pos h]; exact ⟨Own.nil _ _ _ _, rfl, Upd.refl _ _⟩
    exact cnd_dec (fun h => bad (.inl h)) fun h => cnd_dec (fun h => bad (.inr h)) fun h' => ⟨rfl, by omega, by omega⟩
  rintro _ _ _ ⟨rfl, hn1, hn8⟩
  obtain ⟨k, rfl⟩ : ∃ k : Nat, n = k := ⟨n.toNat, by omega⟩
  refine ⟨fun _ w' => w = w' ∧ v < 256 ^ k, ?_, ?_⟩
  · have h8 : IntKind.i64.wrap (8 * (k : Int)) = ((8 * k : Nat) : Int) := by rw [i64_id] <;> omega
    rw [h8]
    refine cnd_dec (fun hlt => ⟨by omega, ?_⟩) (fun hge => ?_)
    · rw [shr_nat (k := .u64) (by simp only [IntKind.bits]; omega), ← pow256]
      refine cnd_bne (fun hne => ?_) (fun he => ?_)
      · have : 256 ^ k ≤ v := by
          rcases Nat.lt_or_ge v (256 ^ k) with h | h
          · rw [Nat.div_eq_of_lt h] at hne; exact absurd rfl hne
          · exact h
        rw [putB, if_neg (by omega), Int.toNat_natCast, if_pos this]
        exact ⟨Own.nil _ _ _ _, rfl, Upd.refl _ _⟩
      · refine ⟨rfl, ?_⟩
        have h0 : v / 256 ^ k = 0 := by omega
        rcases Nat.div_eq_zero_iff.1 h0 with h | h
        · have : 0 < 256 ^ k := Nat.pow_pos (by decide)
          omega
        · exact h
    · have : k = 8 := by omega
      subst this
      exact ⟨rfl, by omega⟩
  rintro _ _ _ ⟨rfl, hfit⟩
  have hput : putB l v k = (l ++ leB k v, 0) := by rw [putB, if_neg (by omega), Int.toNat_natCast, if_neg (by omega)]
  have hcl := slices_Clone_byte_byte.spec hs (by omega)
  refine CallT.mono hcl ?_
  rintro o w1 ⟨ho, he, _⟩
  refine ⟨fun m x w' => ∃ i : Nat, x.1 = ((v / 256 ^ i : Nat) : Int) ∧ x.2.2 = i ∧ m = k - i ∧ i ≤ k ∧ OwnB w' w.heap.size x.2.1 (l ++ leB i v) ∧ Ext w w',
    ⟨_, 0, by simp, rfl, rfl, by omega, by simpa [leB] using ho, he⟩, ?_⟩
  rintro m ⟨u, o', i'⟩ j w' ⟨i, h1, h2, rfl, hik, ho', he'⟩
  dsimp only at h1 h2 ho' ⊢
  subst h1 h2
  refine cnd_dec (fun hlt => ?_) (fun hge => ?_)
  · have hol := ho'.lenB
    rw [List.length_append, leB_len] at hol
    have h8 := u8_of (v / 256 ^ i)
    rw [h8]
    refine app_new (vs := B8 [UInt8.ofNat (v / 256 ^ i)]) appB he' ho' rfl (B8_one _) (by omega) ?_
    intro s' w2 ho2 he2 _ _
    refine ⟨k - (i + 1), by omega, i + 1, ?_, by rw [i64_id] <;> omega, rfl, by omega, ?_, he2⟩
    · have e : v / 256 ^ i / 2 ^ 8 = v / 256 ^ (i + 1) := by rw [Nat.div_div_eq_div_mul, Nat.pow_succ 256 i]
      rw [show shr .u64 ((v / 256 ^ i : Nat) : Int) 8 = ((v / 256 ^ i / 2 ^ 8 : Nat) : Int) from shr_nat (k := .u64) (b := 8) (by decide), e]
    · rw [leB_succ, ← List.append_assoc, OwnB, B8_append (l ++ leB i v)]; exact ho2
  · have : i = k := by omega
    subst this
    rw [hput]
    exact ⟨ho', rfl, he'⟩

theorem dunnageref01_Fits.spec {w : World} {v k : Nat} (hv : v < 2 ^ 64) (h1 : 1 ≤ k) (h8 : k ≤ 8) :
    CallT [.one .bool] Try.prog F.dunnageref01_Fits [.int .u64 v, .int .i64 k] w fun r w' => r = decide (v < 256 ^ k) ∧ w = w' := by
  refine dunnageref01_Fits.vc v k w _ ?_
  refine cnd_dec (fun hge => ?_) (fun hlt => ?_)
  · have : k = 8 := by omega
    subst this
    exact ⟨by simp; omega, rfl⟩
  · have hw : IntKind.u64.wrap (8 * IntKind.u64.wrap (k : Int)) = ((8 * k : Nat) : Int) := by rw [u64_id (x := k) (by omega) (by omega), u64_id] <;> omega
    rw [hw, shr_nat (k := .u64) (by simp only [IntKind.bits]; omega), ← pow256]
    refine ⟨by omega, ?_, rfl⟩
    have hp : 0 < 256 ^ k := Nat.pow_pos (by decide)
    by_cases h : v < 256 ^ k
    · rw [Nat.div_eq_of_lt h]; simp [h]
    · have : 0 < v / 256 ^ k := Nat.div_pos (by omega) hp
      have h0 : ((v / 256 ^ k : Nat) : Int) ≠ 0 := by omega
      rw [beq_eq_false_iff_ne.2 h0]; simp [h]
theorem dunnageref01_Put.spec {w : World} {s : SV} {l : List UInt8} (hs : RdB w s l) (hl : l.length ≤ 140737488351232) {v : Nat} (hv : v < 2 ^ 64) {n : Int} (hn : -9223372036854775808 ≤ n ∧ n ≤ 9223372036854775807) :
    CallT [.one .slice, .one (.int .i64)] Try.prog F.dunnageref01_Put [.slice s.a s.len s.cap, .int .u64 v, .int .i64 n] w fun r w' =>
      OwnB w' w.heap.size r.1 (putB l v n).1 ∧ r.2 = (putB l v n).2 ∧ Ext w w' := by
  refine dunnageref01_Put.vc s v n w _ ?_
  have hsl := hs.lenB
  refine ⟨fun _ w' => w = w' ∧ 1 ≤ n ∧ n ≤ 8, ?_, ?_⟩
  · have bad : (n < 1 ∨ n > 8) → OwnB w w.heap.size ⟨none, 0, 0⟩ (putB l v n).1 ∧ (1 : Int) = (putB l v n).2 ∧ Ext w w := fun h => by
      rw [putB, if_pos h]; exact ⟨Own.nil _ _ _ _, rfl, Upd.refl _ _⟩
    exact cnd_dec (fun h => bad (.inl h)) fun h => cnd_dec (fun h => bad (.inr h)) fun h' => ⟨rfl, by omega, by omega⟩
  rintro _ _ _ ⟨rfl, hn1, hn8⟩
  obtain ⟨k, rfl⟩ : ∃ k : Nat, n = k := ⟨n.toNat, by omega⟩
  have hf := dunnageref01_Fits.spec (w := w) hv (k := k) (by omega) (by omega)
  refine CallT.mono hf ?_
  rintro _ _ ⟨rfl, rfl⟩
  refine cnd_not (fun hno => ?_) (fun hyes => ?_)
  · rw [putB, if_neg (by omega), Int.toNat_natCast, if_pos (by simpa using hno)]
    exact ⟨Own.nil _ _ _ _, rfl, Upd.refl _ _⟩
  have hfit : v < 256 ^ k := of_decide_eq_true hyes
  have hput : putB l v k = (l ++ leB k v, 0) := by rw [putB, if_neg (by omega), Int.toNat_natCast, if_neg (by omega)]
  refine app_rd (s := ⟨none, 0, 0⟩) (cs := []) appB (Upd.refl (fun _ => False) _) (Own.nil _ _ _ _) hs (B8_one _) (fun hlt => ?_) ?_
  · simp only [Nat.zero_add] at hlt ⊢
    rw [nextcap_zero hlt]; omega
  intro o w1 ho he _ _
  refine ⟨fun m x w' => ∃ i : Nat, x.2 = i ∧ m = k - i ∧ i ≤ k ∧ OwnB w' w.heap.size x.1 (l ++ leB i v) ∧ Ext w w',
    ⟨_, 0, rfl, rfl, by omega, by simpa [leB] using ho, he⟩, ?_⟩
  rintro m ⟨o', i'⟩ j w' ⟨i, h2, rfl, hik, ho', he'⟩
  dsimp only at h2 ho' ⊢
  subst h2
  refine cnd_dec (fun hlt => ?_) (fun hge => ?_)
  · have hol := ho'.lenB
    rw [List.length_append, leB_len] at hol
    have hw : IntKind.u64.wrap (8 * IntKind.u64.wrap (i : Int)) = ((8 * i : Nat) : Int) := by rw [u64_id (x := i) (by omega) (by omega), u64_id] <;> omega
    rw [hw, shr_nat (k := .u64) (by simp only [IntKind.bits]; omega), ← pow256]
    have h8 := u8_of (v / 256 ^ i)
    rw [h8]
    refine And.intro (by omega) ?_
    refine app_new (vs := B8 [UInt8.ofNat (v / 256 ^ i)]) appB he' ho' rfl (B8_one _) (by omega) ?_
    intro s' w2 ho2 he2 _ _
    refine ⟨k - (i + 1), by omega, i + 1, by rw [i64_id] <;> omega, rfl, by omega, ?_, he2⟩
    rw [leB_succ, ← List.append_assoc, OwnB, B8_append (l ++ leB i v)]; exact ho2
  · have : i = k := by omega
    subst this
    rw [hput]
    exact ⟨ho', rfl, he'⟩

theorem or_add' {v x n : Nat} (h : v < 256 ^ n) : v ||| (x * 256 ^ n) = v + x * 256 ^ n := by
  rw [pow256] at h ⊢
  rw [Nat.mul_comm x, Nat.or_comm, ← Nat.two_pow_add_eq_or_of_lt h]; omega
theorem pow256_le {i : Nat} (h : i ≤ 7) : 256 ^ (i + 1) ≤ 2 ^ 64 := by
  have : 256 ^ (i + 1) ≤ 256 ^ 8 := Nat.pow_le_pow_right (by decide) (by omega)
  omega
theorem word_Get.spec {w : World} {s : SV} {l : List UInt8} (hs : RdB w s l) (hc : s.len ≤ s.cap) (hl : l.length ≤ 140737488351240) {a n : Int} (ha : -9223372036854775808 ≤ a ∧ a ≤ 9223372036854775807) (hn : -9223372036854775808 ≤ n ∧ n ≤ 9223372036854775807) :
    CallT [.one (.int .u64), .one (.int .i64)] Try.prog F.word_Get [.slice s.a s.len s.cap, .int .i64 a, .int .i64 n] w fun r w' => r = getB l a n ∧ Ext w w' := by
  refine word_Get.vc s a n w _ ?_
  have hsl := hs.lenB
  refine ⟨fun _ w' => w = w' ∧ ¬ (n < 1 ∨ n > 8 ∨ a < 0), ?_, ?_⟩
  · have bad : (n < 1 ∨ n > 8 ∨ a < 0) → ((0 : Int), (1 : Int)) = getB l a n ∧ Ext w w := fun h => by
      rw [getB, if_pos h]; exact ⟨rfl, Upd.refl _ _⟩
    exact cnd_dec (fun h => bad (.inl h)) fun h => cnd_dec (fun h => bad (.inr (.inl h))) fun h' => cnd_dec (fun h => bad (.inr (.inr h))) fun h'' => ⟨rfl, by omega⟩
  rintro _ _ _ ⟨rfl, hb⟩
  refine ⟨fun _ w' => w = w' ∧ ¬ (a > l.length ∨ (l.length : Int) - a < n), ?_, ?_⟩
  · have bad : (a > l.length ∨ (l.length : Int) - a < n) → ((0 : Int), (10 : Int)) = getB l a n ∧ Ext w w := fun h => by
      rw [getB, if_neg hb, if_pos h]; exact ⟨rfl, Upd.refl _ _⟩
    refine cnd_dec (fun h => bad (.inl (by omega))) fun h => ?_
    have : IntKind.i64.wrap ((s.len : Int) - a) = (l.length : Int) - a := by rw [i64_id] <;> omega
    rw [this]
    exact cnd_dec (fun h => bad (.inr h)) fun h' => ⟨rfl, by omega⟩
  rintro _ _ _ ⟨rfl, hb2⟩
  obtain ⟨i, rfl⟩ : ∃ k : Nat, a = k := ⟨a.toNat, by omega⟩
  obtain ⟨k, rfl⟩ : ∃ k : Nat, n = k := ⟨n.toNat, by omega⟩
  have hget : getB l i k = (((leV ((l.drop i).take k) : Nat) : Int), 0) := by rw [getB, if_neg hb, if_neg hb2]; rfl
  have hin : i + k ≤ l.length := by omega
  intro w1
  obtain ⟨e1, z1, b1⟩ := alloc_facts w (.cells #[.int .u64 0] T.uint64)
  intro w2
  obtain ⟨e2, z2, b2⟩ := alloc_facts w1 (.cells #[.int .i64 0] T.int)
  have g1 : w2.heap[w.heap.size]? = some (.cells #[.int .u64 0] T.uint64) := e2.get b1
  have g2 : w2.heap[w1.heap.size]? = some (.cells #[.int .i64 0] T.int) := b2
  have e12 : Ext w w2 := e1.tr e2
  have zz1 : w1.heap.size = w.heap.size + 1 := z1
  have zz2 : w2.heap.size = w1.heap.size + 1 := z2
  clear b1 b2 e1 e2 z1 z2
  clear_value w2
  clear_value w1
  refine set_ok (o := 0) g1 (by simp) ?_
  intro w3
  obtain ⟨u3, z3, h1, k3⟩ := set_facts (o := 0) g1 (.int .u64 0)
  have h2 : w3.heap[w1.heap.size]? = _ := (k3 _ (by omega)).trans g2
  have e3 : Ext w w3 := e12.trans u3 fun x hx e => by omega
  have z3 : w3.heap.size = w2.heap.size := z3
  have h1 : w3.heap[w.heap.size]? = some (.cells #[.int .u64 0] T.uint64) := h1
  clear_value w3
  clear u3 k3 g1 g2
  refine set_ok (o := 0) h2 (by simp) ?_
  intro w4
  obtain ⟨u4, z4, g2, k4⟩ := set_facts (o := 0) h2 (.int .i64 0)
  have g1 : w4.heap[w.heap.size]? = _ := (k4 _ (by omega)).trans h1
  have e4 : Ext w w4 := e3.trans u4 fun x hx e => by omega
  have z4 : w4.heap.size = w3.heap.size := z4
  have g2 : w4.heap[w1.heap.size]? = some (.cells #[.int .i64 0] T.int) := g2
  clear_value w4
  clear u4 k4 h1 h2
  refine walk_mkd (K := fun x w1 => _ ∧ _ ∧ _ ∧ _ ∧ CallT _ _ _ [.agg #[x], _, _] w1.drew _) ?_
  intro w5 e5 z5 _
  have h1 := e5.get g1
  have h2 := e5.get g2
  have e5 : Ext w w5 := e4.tr e5
  have hik : IntKind.i64.wrap ((i : Int) + (k : Int)) = ((i + k : Nat) : Int) := by rw [i64_id] <;> omega
  rw [hik]
  simp only [Int.toNat_natCast]
  refine ⟨by omega, by omega, by omega, by omega, ?_⟩
  have hsub : RdB w5.drew _ _ := ((hs.ext e5).drew).subB hc (i := i) (j := i + k) (by omega) hin
  rw [show i + k - i = k by omega] at hsub ⊢
  have hlen : ((l.drop i).take k).length = k := by rw [List.length_take, List.length_drop]; omega
  generalize hL : (l.drop i).take k = L at *
  clear e12 e3 e4
  have hover := word_walk_over.spec (x0 := .func (.func 77) #[] #[.pointer (some ⟨w.heap.size, 0, none⟩), .pointer (some ⟨w1.heap.size, 0, none⟩)]) (M := fun b => b = w.heap.size ∨ b = w1.heap.size)
    (fun j w' => w'.heap[w.heap.size]? = some (.cells #[.int .u64 (leV (L.take j) : Nat)] T.uint64) ∧ w'.heap[w1.heap.size]? = some (.cells #[.int .i64 ((8 * j : Nat) : Int)] T.int))
    (fun _ _ => False) 0 hsub (by omega) (by show ¬ (w5.heap.size = w.heap.size ∨ w5.heap.size = w1.heap.size); omega) ?_ (fun w' he => ⟨he.get h1, he.get h2⟩) ?_
  · refine CallT.mono hover ?_
    rintro ⟨j, r⟩ w' ⟨hu, m, hm, hr⟩
    cases r with
    | false => exact hr.2.elim
    | true =>
      obtain ⟨rfl, c1, _⟩ := hr
      refine ⟨_, cell_blk c1, ?_, ?_⟩
      · rw [hget, Nat.zero_max, List.take_length]
      · exact (e5.drew).trans hu fun x hx hM => by omega
  · intro hne b hb hM
    have := (hs.sub hc (i := i) (j := i + k) (by omega) (by omega)).lt ?_ b ?_
    · omega
    · intro h
      have := congrArg List.length h
      rw [(hs.sub hc (i := i) (j := i + k) (by omega) (by omega)).len] at this
      simp at this
      omega
    · rw [show i + k - i = k by omega]; exact hb
  · rintro j b w' hb hu hsz ⟨c1, c2⟩
    have hjk : j < k := by have := (List.getElem?_eq_some_iff.1 hb).1; omega
    refine word_Get_1.vc b.toNat _ _ w'.drew _ ?_
    have d1 : w'.drew.drew.heap[w.heap.size]? = _ := c1
    have d2 : w'.drew.drew.heap[w1.heap.size]? = _ := c2
    refine ⟨_, cell_blk d1, _, cell_blk d2, by omega, set_ok (o := 0) d1 (by simp) ?_⟩
    have hlt : leV (L.take j) < 256 ^ j := by have := leV_lt (L.take j); rwa [List.length_take, Nat.min_eq_left (by omega)] at this
    have hb256 := b.toNat_lt
    have hp : b.toNat * 256 ^ j + 256 ^ j ≤ 256 ^ (j + 1) := by
      rw [Nat.pow_succ]
      have := Nat.mul_le_mul_right (256 ^ j) (show b.toNat + 1 ≤ 256 by omega)
      rw [Nat.add_mul, Nat.one_mul] at this
      omega
    have hj64 := pow256_le (i := j) (by omega)
    have hv : bor .u64 ((leV (L.take j) : Nat) : Int) (shl .u64 (IntKind.u64.wrap (b.toNat : Int)) ((8 * j : Nat) : Int)) = ((leV (L.take (j + 1)) : Nat) : Int) := by
      have hm : b.toNat * 2 ^ (8 * j) % 2 ^ IntKind.u64.bits = b.toNat * 256 ^ j := by
        rw [← pow256]; apply Nat.mod_eq_of_lt; simp only [IntKind.bits]; omega
      rw [u64_id (x := b.toNat) (by omega) (by omega), shl_nat (k := .u64) rfl (by simp only [IntKind.bits]; omega), hm,
        bor_nat (k := .u64) rfl (by simp only [IntKind.bits]; omega) (by simp only [IntKind.bits]; omega), or_add' hlt, List.take_add_one, hb, Option.toList_some, leV_snoc, List.length_take, Nat.min_eq_left (by omega)]
    rw [hv]
    intro x1
    obtain ⟨u1, _, k1, kk⟩ := set_facts (o := 0) d1 (.int .u64 ((leV (L.take (j + 1)) : Nat) : Int))
    have k2 : x1.heap[w1.heap.size]? = _ := (kk _ (by omega)).trans d2
    have k1 : x1.heap[w.heap.size]? = some (.cells #[.int .u64 ((leV (L.take (j + 1)) : Nat) : Int)] T.uint64) := k1
    have u1 : Upd (fun b => b = w.heap.size ∨ b = w1.heap.size) w' x1 := ((Upd.refl _ w').drew.drew).trans u1 fun _ _ h => .inl h
    clear_value x1
    refine ⟨_, cell_blk k2, set_ok (o := 0) k2 (by simp) ?_⟩
    have h8 : IntKind.i64.wrap (((8 * j : Nat) : Int) + 8) = ((8 * (j + 1) : Nat) : Int) := by rw [i64_id] <;> omega
    rw [h8]
    obtain ⟨u2, _, m2, mm⟩ := set_facts (o := 0) k2 (.int .i64 ((8 * (j + 1) : Nat) : Int))
    exact ⟨u1.trans u2 fun _ _ h => .inr h, (mm _ (by omega)).trans k1, m2⟩
theorem dunnageref01_Get.spec {w : World} {s : SV} {l : List UInt8} (hs : RdB w s l) (hl : l.length ≤ 140737488351240) {a n : Int} (ha : -9223372036854775808 ≤ a ∧ a ≤ 9223372036854775807) (hn : -9223372036854775808 ≤ n ∧ n ≤ 9223372036854775807) :
    CallT [.one (.int .u64), .one (.int .i64)] Try.prog F.dunnageref01_Get [.slice s.a s.len s.cap, .int .i64 a, .int .i64 n] w fun r w' => r = getB l a n ∧ w = w' := by
  refine dunnageref01_Get.vc s a n w _ ?_
  have hsl := hs.lenB
  refine ⟨fun _ w' => w = w' ∧ ¬ (n < 1 ∨ n > 8 ∨ a < 0), ?_, ?_⟩
  · have bad : (n < 1 ∨ n > 8 ∨ a < 0) → ((0 : Int), (1 : Int)) = getB l a n ∧ w = w := fun h => by
      rw [getB, if_pos h]; exact ⟨rfl, rfl⟩
    exact cnd_dec (fun h => bad (.inl h)) fun h => cnd_dec (fun h => bad (.inr (.inl h))) fun h' => cnd_dec (fun h => bad (.inr (.inr h))) fun h'' => ⟨rfl, by omega⟩
  rintro _ _ _ ⟨rfl, hb⟩
  refine ⟨fun _ w' => w = w' ∧ ¬ (a > l.length ∨ (l.length : Int) - a < n), ?_, ?_⟩
  · have bad : (a > l.length ∨ (l.length : Int) - a < n) → ((0 : Int), (10 : Int)) = getB l a n ∧ w = w := fun h => by
      rw [getB, if_neg hb, if_pos h]; exact ⟨rfl, rfl⟩
    refine cnd_dec (fun h => bad (.inl (by omega))) fun h => ?_
    have : IntKind.i64.wrap ((s.len : Int) - a) = (l.length : Int) - a := by rw [i64_id] <;> omega
    rw [this]
    exact cnd_dec (fun h => bad (.inr h)) fun h' => ⟨rfl, by omega⟩
  rintro _ _ _ ⟨rfl, hb2⟩
  obtain ⟨i, rfl⟩ : ∃ k : Nat, a = k := ⟨a.toNat, by omega⟩
  obtain ⟨k, rfl⟩ : ∃ k : Nat, n = k := ⟨n.toNat, by omega⟩
  have hget : getB l i k = (((leV ((l.drop i).take k) : Nat) : Int), 0) := by rw [getB, if_neg hb, if_neg hb2]; rfl
  have hin : i + k ≤ l.length := by omega
  have hlen : ((l.drop i).take k).length = k := by rw [List.length_take, List.length_drop]; omega
  refine ⟨fun m x w' => ∃ j : Nat, j ≤ k ∧ m = j ∧ w = w' ∧ x.2 = (j : Int) - 1 ∧ x.1 = ((leV (((l.drop i).take k).drop j) : Nat) : Int), ⟨k, k, by omega, rfl, rfl, by rw [i64_id] <;> omega, by rw [List.drop_eq_nil_of_le (by omega)]; rfl⟩, ?_⟩
  rintro m ⟨u, c⟩ j' _ ⟨j, hjk, rfl, rfl, h2, h1⟩
  dsimp only at h1 h2 ⊢
  subst h1 h2
  refine cnd_dec (fun hge => ?_) (fun hlt => ?_)
  · obtain ⟨j, rfl⟩ : ∃ q, m = q + 1 := ⟨m - 1, by omega⟩
    have h9 : IntKind.i64.wrap ((i : Int) + (((j + 1 : Nat) : Int) - 1)) = ((i + j : Nat) : Int) := by rw [i64_id] <;> omega
    rw [h9]
    have hil : i + j < l.length := by omega
    simp only [Int.toNat_natCast]
    refine ⟨by omega, by omega, SV.getB hs hil fun A hA => ⟨(l[i + j]).toNat, hs.cellB (List.getElem?_eq_getElem hil) hA, j, by omega, j, by omega, rfl, trivial, by rw [i64_id] <;> omega, ?_⟩⟩
    have hj : j < ((l.drop i).take k).length := by omega
    have hdr : ((l.drop i).take k).drop j = l[i + j] :: ((l.drop i).take k).drop (j + 1) := by
      rw [List.drop_eq_getElem_cons hj]
      congr 1
      simp
    rw [hdr, leV]
    have hb256 := (l[i + j]).toNat_lt
    have hlt := leV_lt (((l.drop i).take k).drop (j + 1))
    rw [List.length_drop, hlen] at hlt
    have h7 : 256 ^ (k - (j + 1)) ≤ 256 ^ 7 := Nat.pow_le_pow_right (by decide) (by omega)
    generalize leV (((l.drop i).take k).drop (j + 1)) = V at *
    generalize (l[i + j]).toNat = c at *
    have hV : V < 256 ^ 7 := by omega
    have hm : V * 2 ^ 8 % 2 ^ IntKind.u64.bits = V * 2 ^ 8 := by apply Nat.mod_eq_of_lt; simp only [IntKind.bits]; omega
    rw [show shl .u64 (V : Int) 8 = ((V * 2 ^ 8 % 2 ^ IntKind.u64.bits : Nat) : Int) from shl_nat (k := .u64) (b := 8) rfl (by decide), hm, u64_id (x := c) (by omega) (by omega),
      bor_nat (k := .u64) rfl (by simp only [IntKind.bits]; omega) (by simp only [IntKind.bits]; omega)]
    have : V * 2 ^ 8 ||| c = c + 256 * V := by
      rw [Nat.mul_comm, ← Nat.two_pow_add_eq_or_of_lt (by omega)]; omega
    rw [this]
  · have : m = 0 := by omega
    subst this
    rw [List.drop_zero, hget]
    exact ⟨rfl, rfl⟩
end Go.Proofs
