/- The walk of dunnagelaw02.CrcBurst: it answers true, and turns nothing that was there. Conditions: none. -/
import Derived.Test.YtbnnpnillppdhaaLCrcThree
namespace Go.Proofs
open Go Go.Vc Go.Crc
def bitsOf (p a i : Nat) : List Int := (List.range i).flatMap fun t => if p.testBit t then [((a + t : Nat) : Int)] else []
theorem bitsOf_succ (p a i : Nat) : bitsOf p a (i + 1) = bitsOf p a i ++ (if p.testBit i then [((a + i : Nat) : Int)] else []) := by simp [bitsOf, List.range_succ]
theorem bitsOf_len (p a : Nat) : ∀ i, (bitsOf p a i).length ≤ i
  | 0 => by simp [bitsOf]
  | i + 1 => by
    rw [bitsOf_succ, List.length_append]
    have := bitsOf_len p a i
    split <;> simp <;> omega
theorem bitsOf_mem {p a i : Nat} {k : Int} (h : k ∈ bitsOf p a i) : ∃ t, t < i ∧ p.testBit t = true ∧ k = ((a + t : Nat) : Int) := by
  obtain ⟨t, ht, hk⟩ := List.mem_flatMap.1 h
  split at hk
  · exact ⟨t, List.mem_range.1 ht, by assumption, by simpa using hk⟩
  · simp at hk
theorem ers_bits (n p a : Nat) : ∀ i, ers n (bitsOf p a i) = xs i fun t => if p.testBit t then er n ((a + t : Nat) : Int) else 0
  | 0 => rfl
  | i + 1 => by
    rw [bitsOf_succ, xs, ← ers_bits n p a i]
    split
    · rw [ers_snoc]
    · rw [List.append_nil, Nat.xor_zero]
theorem xs_pow (c : Nat → Bool) (j : Nat) : ∀ n, (xs n fun t => if c t then 2 ^ t else 0).testBit j = (decide (j < n) && c j)
  | 0 => by simp [xs]
  | n + 1 => by
    rw [xs, Nat.testBit_xor, xs_pow c j n]
    by_cases h : j = n
    · subst h
      cases c j <;> simp [Nat.testBit_two_pow]
    · have h2 : decide (j < n + 1) = decide (j < n) := by simp; omega
      rw [h2]
      cases c n <;> simp [Nat.testBit_two_pow, Ne.symm h]
theorem xs_pow_lt (c : Nat → Bool) : ∀ n, (xs n fun t => if c t then 2 ^ t else 0) < 2 ^ n
  | 0 => by simp [xs]
  | n + 1 => by
    rw [xs]
    refine Nat.xor_lt_two_pow (Nat.lt_trans (xs_pow_lt c n) (Nat.pow_lt_pow_right (by decide) (by omega))) ?_
    split
    · exact Nat.pow_lt_pow_right (by decide) (by omega)
    · exact Nat.two_pow_pos _
theorem burst {n p a t : Nat} (ha : a < 8 * n) (ht : t < 32) (hp : p.testBit t = true) (hin : a + t < 8 * n) : ers n (bitsOf p a 32) ≠ 0 := by
  rw [ers_bits]
  let c : Nat → Bool := fun t => p.testBit t && decide (a + t < 8 * n)
  have h1 : (xs 32 fun t => if p.testBit t then er n ((a + t : Nat) : Int) else 0) = Crc.hn (8 * n - a) (xs 32 fun t => if c t then 2 ^ t else 0) := by
    rw [(Crc.hn_lin _).xs]
    refine xs_congr fun q hq => ?_
    show (if p.testBit q = true then er n ((a + q : Nat) : Int) else 0) = Crc.hn (8 * n - a) (if (p.testBit q && decide (a + q < 8 * n)) = true then 2 ^ q else 0)
    cases hpq : p.testBit q
    · simp [(Crc.hn_lin _).z]
    · by_cases hlt : a + q < 8 * n
      · simp only [hlt, decide_true, Bool.and_true, if_true]
        rw [er_X hlt, pow_X q hq, X, X, ← Crc.hn_add]
        congr 1
        omega
      · simp only [hlt, decide_false, Bool.and_false, Bool.false_eq_true, if_false, if_true]
        rw [er, if_neg (by omega), (Crc.hn_lin _).z]
  rw [h1]
  intro h0
  have := hn_zero _ (xs_pow_lt c 32) h0
  have h2 := xs_pow c t 32
  rw [this] at h2
  simp [c, ht, hp, hin] at h2
theorem first_bit {p a : Nat} (hp : p ≠ 0) (h32 : p < 2 ^ 32) : ∃ t, t < 32 ∧ p.testBit t = true := by
  rcases Nat.exists_testBit_of_ne_zero hp with ⟨t, ht⟩
  refine ⟨t, ?_, ht⟩
  rcases Nat.lt_or_ge t 32 with h | h
  · exact h
  · have := Nat.testBit_lt_two_pow (Nat.lt_of_lt_of_le h32 (Nat.pow_le_pow_right (by decide) h))
    rw [this] at ht; cases ht
theorem appI : AppT Try.prog [T.sl_int, T.sl_int] T.int 1 8 [.int .i64 0] :=
  ⟨⟨T.sl_int, rfl, by kernel_rfl⟩, ⟨T.sl_int, _, rfl, by kernel_rfl, .inr ⟨T.int, rfl⟩⟩, by kernel_rfl, by kernel_rfl, by decide, by kernel_rfl, rfl, by decide⟩
theorem dunnagelaw02_CrcBurst.spec {s : SV} {l : List UInt8} {a : Int} {p : Nat} {w : World} (hs : RdB w s l) (hp32 : p < 2 ^ 32) :
    CallT [.one .bool] Try.prog F.dunnagelaw02_CrcBurst [.slice s.a s.len s.cap, .int .i64 a, .int .u32 p] w fun r w' => r = true ∧ Ext w w' := by
  refine dunnagelaw02_CrcBurst.vc s a p w _ ?_
  have hsl := hs.lenB
  refine ⟨fun _ w' => Ext w w' ∧ 0 < l.length ∧ l.length ≤ 508 ∧ p ≠ 0, ⟨fun b w' => Ext w w' ∧ (b = false → 0 < l.length ∧ l.length ≤ 508 ∧ p ≠ 0), ?_, ?_⟩, ?_⟩
  · refine CallT.mono (dunnagelaw02_awake.spec w) ?_
    rintro _ w1 ⟨rfl, e1⟩
    refine cnd_false (cnd_beq (fun _ => ⟨e1, by simp⟩) (fun h0 => cnd_dec (fun _ => ⟨e1, by simp⟩) (fun h5 => ⟨e1, fun h => ⟨by omega, by omega, ?_⟩⟩)))
    rintro rfl
    simp at h
  · rintro b _ w1 ⟨e1, hb⟩
    refine cnd_intro (fun _ => ?_) (fun hf => ⟨e1, hb hf⟩)
    refine CallT.mono (dunnagelaw02_awake.spec w1) ?_
    rintro _ w2 ⟨rfl, e2⟩
    exact ⟨rfl, e1.tr e2⟩
  rintro _ _ w1 ⟨e1, hl0, hl, hp⟩
  have hn0 : IntKind.u64.wrap (IntKind.i64.wrap (8 * (s.len : Int))) = ((8 * l.length : Nat) : Int) := by rw [i64_id (by omega) (by omega), u64_id] <;> omega
  rw [hn0]
  obtain ⟨a0, ha0, _⟩ := u64_nat a
  have hpos : 0 < 8 * l.length := by omega
  have hm : IntKind.i64.wrap ((IntKind.u64.wrap a).tmod ((8 * l.length : Nat) : Int)) = ((a0 % (8 * l.length) : Nat) : Int) := by
    have h2 := Nat.mod_lt a0 hpos
    rw [ha0, Int.tmod_eq_emod_of_nonneg (by omega), ← Int.natCast_emod, i64_id] <;> omega
  rw [hm]
  have hb := Nat.mod_lt a0 hpos
  generalize a0 % (8 * l.length) = q at *
  refine ⟨by omega, fun n x w' => ∃ i : Nat, x.2 = (i : Int) ∧ i ≤ 32 ∧ n = 32 - i ∧ Own w' w1.heap.size T.int 1 x.1 (I64 (bitsOf p q i)) ∧ Ext w1 w', ⟨_, 0, rfl, by omega, rfl, Own.nil _ _ _ _, Upd.refl _ _⟩, ?_⟩
  rintro n ⟨o, i'⟩ j w2 ⟨i, h2, hi, rfl, ho, e2⟩
  dsimp only at h2 ho ⊢
  subst h2
  have hbl := bitsOf_len p q i
  have hol : o.len = (bitsOf p q i).length := by have := ho.len; simp [I64] at this; exact this.symm
  refine cnd_dec (fun hlt => ?_) (fun hge => ?_)
  · have hi32 : i < 32 := by omega
    have hw : IntKind.i64.wrap ((i : Int) + 1) = ((i + 1 : Nat) : Int) := by rw [i64_id] <;> omega
    rw [u64_id (x := (i : Int)) (by omega) (by omega), shr_nat (k := .u32) (by simp only [IntKind.bits]; omega), (half_val (Nat.lt_of_le_of_lt (Nat.div_le_self _ _) hp32)).2.2]
    have hsu := bitsOf_succ p q i
    refine ⟨by omega, cnd_beq (fun h1 => ?_) (fun h1 => ⟨32 - (i + 1), by omega, i + 1, hw, by omega, rfl, ?_, e2⟩)⟩
    · have ht : p.testBit i = true := by rw [tb]; simp; omega
      rw [show IntKind.i64.wrap ((q : Int) + (i : Int)) = ((q + i : Nat) : Int) by rw [i64_id] <;> omega]
      refine app_new (vs := I64 [((q + i : Nat) : Int)]) appI e2 ho rfl (by intro v hv; simp [I64] at hv; subst hv; rfl) (by omega) ?_
      intro s' w3 ho3 e3 _ _
      refine ⟨32 - (i + 1), by omega, i + 1, hw, by omega, rfl, ?_, e3⟩
      rw [hsu, ht, if_pos rfl, I64, List.map_append]; exact ho3
    · have ht : p.testBit i = false := by rw [tb]; simp; omega
      rw [hsu, ht, if_neg (by simp), List.append_nil]; exact ho
  · have : i = 32 := by omega
    subst this
    obtain ⟨t, ht32, ht⟩ := first_bit (a := q) hp hp32
    have hmem : ((q + t : Nat) : Int) ∈ bitsOf p q 32 := List.mem_flatMap.2 ⟨t, List.mem_range.2 ht32, by rw [if_pos ht]; simp⟩
    have hlen : 0 < (bitsOf p q 32).length := List.length_pos_of_mem hmem
    have hrd : RdI w2 o (bitsOf p q 32) := ho.rd
    refine ⟨by omega, by omega, SV.getI hrd hlen fun A hA => ⟨(bitsOf p q 32)[0], hrd.cellI (i := 0) (List.getElem?_eq_getElem hlen) hA, ?_⟩⟩
    have h8 : IntKind.i64.wrap (8 * (s.len : Int)) = ((8 * l.length : Nat) : Int) := by rw [i64_id] <;> omega
    rw [h8]
    refine cnd_dec (fun _ => ⟨rfl, e1.tr e2⟩) (fun hlt => ?_)
    obtain ⟨t0, ht0, htb, hq0⟩ := bitsOf_mem (List.getElem_mem hlen)
    have hne := burst (n := l.length) hb ht0 htb (by omega)
    have c1 := dunnageref02_Turn.spec (hs.ext (e1.tr e2)) hrd (by omega) (by omega) (fun k hk => by obtain ⟨t, ht, _, rfl⟩ := bitsOf_mem hk; omega)
    refine CallT.mono c1 ?_
    rintro x w3 ⟨hx, e3⟩
    have c2 := crc_Sum.spec hx.rd (by rw [turns_len]; omega)
    refine CallT.mono c2 ?_
    rintro _ w4 ⟨rfl, e4⟩
    have hw4 := ((e1.tr e2).tr e3).tr e4
    have c3 := crc_Sum.spec (hs.ext hw4) (by omega)
    refine CallT.mono c3 ?_
    rintro _ w5 ⟨rfl, e5⟩
    refine ⟨?_, hw4.tr e5⟩
    have hd : more 0 (turns l (bitsOf p q 32)) ≠ more 0 l := by
      intro h
      simp only [more, Nat.zero_xor, raw_turns] at h
      apply hne
      have h1 := congrArg (fun z => raw M l ^^^ (z ^^^ M)) h
      simp only [Nat.xor_assoc, Nat.xor_self, Nat.xor_zero] at h1
      rwa [← Nat.xor_assoc, Nat.xor_self, Nat.zero_xor] at h1
    simp only [bne_iff_ne, ne_eq]
    omega
end Go.Proofs
