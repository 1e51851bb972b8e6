/- crc.times, crc.Join, and the document's. Conditions: those of each contract. -/
import Derived.Test.YtbnnpnillppdhaaCrc
namespace Go.Proofs
open Go Go.Vc Go.Crc
theorem band_i64 {n : Nat} (h : n < 2 ^ 63) : band .i64 (n : Int) 1 = ((n % 2 : Nat) : Int) := by
  unfold band
  rw [ofInt_nat, show (1 : Int) = ((1 : Nat) : Int) from rfl, ofInt_nat, BitVec.toNat_and, BitVec.toNat_ofNat, BitVec.toNat_ofNat]
  simp only [IntKind.bits]
  rw [Nat.mod_eq_of_lt (by omega), Nat.mod_eq_of_lt (by omega), Nat.and_one_is_mod, i64_id] <;> omega
theorem tb (a i : Nat) : a.testBit i = decide (a / 2 ^ i % 2 = 1) := Nat.testBit_eq_decide_div_mod_eq
theorem xs_lt {f : Nat → Nat} (h : ∀ i, f i < 2 ^ 32) : ∀ n, Crc.xs n f < 2 ^ 32
  | 0 => Nat.two_pow_pos 32
  | n + 1 => Nat.xor_lt_two_pow (xs_lt h n) (h n)
theorem and_2p (x j : Nat) : x &&& 2 ^ j = (x.testBit j).toNat * 2 ^ j := by
  apply Nat.eq_of_testBit_eq
  intro i
  rw [Nat.testBit_and, Nat.testBit_two_pow]
  by_cases h : j = i
  · subst h; cases x.testBit j <;> simp
  · cases x.testBit j <;> simp [h]
theorem term_lt {a b : Nat} (hb : b < 2 ^ 32) (i : Nat) : (if a.testBit (31 - i) then Crc.hn i b else 0) < 2 ^ 32 := by
  split
  · exact Crc.hn_lt i hb
  · decide
theorem tm_lt {a b : Nat} (hb : b < 2 ^ 32) : tm a b < 2 ^ 32 := xs_lt (fun i => term_lt hb i) 32
theorem crc_times.spec {a b : Nat} (ha : a < 2 ^ 32) (hb : b < 2 ^ 32) (w : World) : CallT [.one (.int .u32)] Try.prog F.crc_times [.int .u32 a, .int .u32 b] w fun r w' => r = tm a b ∧ w = w' := by
  refine crc_times.vc a b w _ ?_
  let f : Nat → Nat := fun i => if a.testBit (31 - i) then Crc.hn i b else 0
  have hf : ∀ k, Crc.xs k f < 2 ^ 32 := fun k => xs_lt (fun i => term_lt hb i) k
  refine ⟨fun m x w' => ∃ k : Nat, x = (((Crc.hn k b : Nat) : Int), ((Crc.xs k f : Nat) : Int), (31 : Int) - k) ∧ k ≤ 32 ∧ m = 32 - k ∧ w = w', ⟨_, 0, rfl, by omega, rfl, rfl⟩, ?_⟩
  rintro m _ j _ ⟨k, rfl, hk, rfl, rfl⟩
  dsimp only
  refine cnd_dec (fun hge => ?_) (fun hlt => ?_)
  · have h31 : (31 : Int) - (k : Int) = ((31 - k : Nat) : Int) := by omega
    rw [h31, shr_nat (k := .u32) (by simp only [IntKind.bits]; omega)]
    have hd : a / 2 ^ (31 - k) < 2 ^ 32 := Nat.lt_of_le_of_lt (Nat.div_le_self _ _) ha
    rw [(half_val hd).2.2]
    have hxs : Crc.xs (k + 1) f = Crc.xs k f ^^^ (if a.testBit (31 - k) then Crc.hn k b else 0) := rfl
    refine ⟨fun p w' => p = ((Crc.xs (k + 1) f : Nat) : Int) ∧ w = w', ⟨by omega, cnd_bne (fun h => ⟨?_, rfl⟩) (fun h => ⟨?_, rfl⟩)⟩, ?_⟩
    · have : a.testBit (31 - k) = true := by rw [tb]; simp; omega
      rw [hxs, this, if_pos rfl, bx (hf k) (Crc.hn_lt k hb)]
    · have : a.testBit (31 - k) = false := by rw [tb]; simp; omega
      rw [hxs, this, if_neg (by simp), Nat.xor_zero]
    · rintro _ _ _ ⟨rfl, rfl⟩
      refine CallT.mono (crc_half.spec (Crc.hn_lt k hb) _) ?_
      rintro _ _ ⟨rfl, rfl⟩
      exact ⟨32 - (k + 1), by omega, k + 1, by rw [i64_id (by omega) (by omega), ← Crc.hn_half, Crc.hn]; congr 2; omega, by omega, rfl, rfl⟩
  · have : k = 32 := by omega
    subst this
    exact ⟨rfl, rfl⟩
theorem dunnageref02_times.spec {a b : Nat} (ha : a < 2 ^ 32) (hb : b < 2 ^ 32) (w : World) : CallT [.one (.int .u32)] Try.prog F.dunnageref02_times [.int .u32 a, .int .u32 b] w fun r w' => r = tm a b ∧ w = w' := by
  refine dunnageref02_times.vc a b w _ ?_
  let f : Nat → Nat := fun i => if a.testBit (31 - i) then Crc.hn i b else 0
  have hf : ∀ k, Crc.xs k f < 2 ^ 32 := fun k => xs_lt (fun i => term_lt hb i) k
  refine ⟨fun m x w' => ∃ k : Nat, x = (((a * 2 ^ k % 2 ^ 32 : Nat) : Int), ((Crc.hn k b : Nat) : Int), ((Crc.xs k f : Nat) : Int), (k : Int)) ∧ k ≤ 32 ∧ m = 32 - k ∧ w = w',
    ⟨_, 0, by rw [Nat.pow_zero, Nat.mul_one, Nat.mod_eq_of_lt ha]; rfl, by omega, rfl, rfl⟩, ?_⟩
  rintro m _ j _ ⟨k, rfl, hk, rfl, rfl⟩
  dsimp only
  refine cnd_dec (fun hlt => ?_) (fun hge => ?_)
  · have hm : a * 2 ^ k % 2 ^ 32 < 2 ^ 32 := Nat.mod_lt _ (by decide)
    have hband : band .u32 ((a * 2 ^ k % 2 ^ 32 : Nat) : Int) 2147483648 = (((a.testBit (31 - k)).toNat * 2 ^ 31 : Nat) : Int) := by
      have h1 : band .u32 ((a * 2 ^ k % 2 ^ 32 : Nat) : Int) ((2 ^ 31 : Nat) : Int) = ((a * 2 ^ k % 2 ^ 32 &&& 2 ^ 31 : Nat) : Int) := band_nat rfl (u32lt hm) (by decide)
      rw [and_2p, Nat.testBit_mod_two_pow, ← Nat.shiftLeft_eq, Nat.testBit_shiftLeft] at h1
      rw [show (decide (31 < 32) && (decide (31 ≥ k) && a.testBit (31 - k))) = a.testBit (31 - k) by simp; omega] at h1
      rw [Nat.shiftLeft_eq] at h1
      exact h1
    rw [hband]
    have hxs : Crc.xs (k + 1) f = Crc.xs k f ^^^ (if a.testBit (31 - k) then Crc.hn k b else 0) := rfl
    refine ⟨fun p w' => p = ((Crc.xs (k + 1) f : Nat) : Int) ∧ w = w', cnd_bne (fun h => ⟨?_, rfl⟩) (fun h => ⟨?_, rfl⟩), ?_⟩
    · have : a.testBit (31 - k) = true := by
        cases ht : a.testBit (31 - k)
        · rw [ht] at h; exact absurd rfl h
        · rfl
      rw [hxs, this, if_pos rfl, bx (hf k) (Crc.hn_lt k hb)]
    · have : a.testBit (31 - k) = false := by
        cases ht : a.testBit (31 - k)
        · rfl
        · rw [ht] at h; simp at h
      rw [hxs, this, if_neg (by simp), Nat.xor_zero]
    · rintro _ _ _ ⟨rfl, rfl⟩
      refine CallT.mono (dunnageref02_step.spec (Crc.hn_lt k hb) _) ?_
      rintro _ _ ⟨rfl, rfl⟩
      have hsh : shl .u32 ((a * 2 ^ k % 2 ^ 32 : Nat) : Int) 1 = ((a * 2 ^ (k + 1) % 2 ^ 32 : Nat) : Int) := by
        have := shl_nat (k := .u32) (a := a * 2 ^ k % 2 ^ 32) (b := 1) rfl (by decide)
        simp only [IntKind.bits] at this
        rw [Nat.pow_succ 2 k, ← Nat.mul_assoc]
        rw [show a * 2 ^ k % 2 ^ 32 * 2 ^ 1 % 2 ^ 32 = a * 2 ^ k * 2 % 2 ^ 32 by rw [Nat.pow_one, Nat.mod_mul_mod]] at this
        exact this
      exact ⟨32 - (k + 1), by omega, k + 1, by rw [i64_id (by omega) (by omega), ← Crc.hn_half, Crc.hn, hsh]; rfl, by omega, rfl, rfl⟩
  · have : k = 32 := by omega
    subst this
    exact ⟨rfl, rfl⟩
def joinC (a b : Nat) (n : Int) : Nat := if n < 1 then a else Crc.hn (8 * n.toNat) a ^^^ b
theorem crc_Join.spec {a b : Nat} {n : Int} (ha : a < 2 ^ 32) (hb : b < 2 ^ 32) (hn0 : n ≤ 9223372036854775807) (w : World) : CallT [.one (.int .u32)] Try.prog F.crc_Join [.int .u32 a, .int .u32 b, .int .i64 n] w fun r w' => r = joinC a b n ∧ w = w' := by
  refine crc_Join.vc a b n w _ ?_
  refine cnd_dec (fun h => ⟨by rw [joinC, if_pos h], rfl⟩) (fun h => ?_)
  obtain ⟨n, rfl⟩ : ∃ k : Nat, n = k := ⟨n.toNat, by omega⟩
  refine ⟨fun m x w' => ∃ q e d : Nat, x = ((q : Int), ((Crc.X (8 * e) : Nat) : Int), ((Crc.X (8 * d) : Nat) : Int)) ∧ e + d * q = n ∧ m = q ∧ q ≤ n ∧ w = w',
    ⟨_, n, 0, 1, rfl, by omega, rfl, Nat.le_refl _, rfl⟩, ?_⟩
  rintro m _ j _ ⟨q, e, d, rfl, hq, rfl, hqn, rfl⟩
  dsimp only
  refine cnd_dec (fun hpos => ?_) (fun hz => ?_)
  · rw [band_i64 (by omega)]
    refine ⟨fun p w' => w = w' ∧ ∃ e' : Nat, p = ((Crc.X (8 * e') : Nat) : Int) ∧ e' = e + d * (m % 2), ?_, ?_⟩
    · refine cnd_bne (fun h1 => ?_) (fun h0 => ⟨rfl, e, rfl, ?_⟩)
      · refine CallT.mono (crc_times.spec (X_lt _) (X_lt _) w) ?_
        rintro _ _ ⟨rfl, rfl⟩
        exact ⟨rfl, e + d, by rw [X_X, Nat.mul_add], by rw [show m % 2 = 1 by omega, Nat.mul_one]⟩
      · rw [show m % 2 = 0 by omega]; rfl
    · rintro _ _ _ ⟨rfl, e', rfl, he'⟩
      refine CallT.mono (crc_times.spec (X_lt _) (X_lt _) w) ?_
      rintro _ _ ⟨rfl, rfl⟩
      have hs : shr .i64 (m : Int) 1 = ((m / 2 : Nat) : Int) := by
        have := shr_nat (k := .i64) (a := m) (b := 1) (by decide)
        simpa using this
      refine ⟨m / 2, by omega, m / 2, e', 2 * d, by rw [hs, X_X, ← Nat.mul_add, show d + d = 2 * d by omega], ?_, rfl, by omega, rfl⟩
      have hm := Nat.div_add_mod m 2
      rw [he', ← hq, Nat.mul_comm 2 d, Nat.mul_assoc, Nat.add_assoc, ← Nat.mul_add]
      congr 2
      omega
  · have : m = 0 := by omega
    subst this
    rw [Nat.mul_zero, Nat.add_zero] at hq
    subst hq
    refine CallT.mono (crc_times.spec (X_lt _) ha w) ?_
    rintro _ _ ⟨rfl, rfl⟩
    refine ⟨?_, rfl⟩
    rw [X_tm ha, bx (Crc.hn_lt _ ha) hb, joinC, if_neg h, Int.toNat_natCast]
theorem dunnageref02_power.spec {n : Nat} (hn0 : n < 2 ^ 63) (w : World) : CallT [.one (.int .u32)] Try.prog F.dunnageref02_power [.int .i64 n] w fun r w' => r = ((Crc.X (8 * n) : Nat) : Int) ∧ w = w' := by
  refine dunnageref02_power.vc n w _ ?_
  refine ⟨fun m x w' => ∃ q e d : Nat, x = ((q : Int), ((Crc.X (8 * e) : Nat) : Int), ((Crc.X (8 * d) : Nat) : Int)) ∧ e + d * q = n ∧ m = q ∧ q ≤ n ∧ w = w',
    ⟨_, n, 0, 1, rfl, by omega, rfl, Nat.le_refl _, rfl⟩, ?_⟩
  rintro m _ j _ ⟨q, e, d, rfl, hq, rfl, hqn, rfl⟩
  dsimp only
  refine cnd_dec (fun hpos => ?_) (fun hz => ?_)
  · rw [band_i64 (by omega)]
    refine ⟨fun p w' => w = w' ∧ ∃ e' : Nat, p = ((Crc.X (8 * e') : Nat) : Int) ∧ e' = e + d * (m % 2), ?_, ?_⟩
    · refine cnd_beq (fun h1 => ?_) (fun h0 => ⟨rfl, e, rfl, ?_⟩)
      · refine CallT.mono (dunnageref02_times.spec (X_lt _) (X_lt _) w) ?_
        rintro _ _ ⟨rfl, rfl⟩
        exact ⟨rfl, e + d, by rw [X_X, Nat.mul_add], by rw [show m % 2 = 1 by omega, Nat.mul_one]⟩
      · rw [show m % 2 = 0 by omega]; rfl
    · rintro _ _ _ ⟨rfl, e', rfl, he'⟩
      refine CallT.mono (dunnageref02_times.spec (X_lt _) (X_lt _) w) ?_
      rintro _ _ ⟨rfl, rfl⟩
      have hs : shr .i64 (m : Int) 1 = ((m / 2 : Nat) : Int) := by
        have := shr_nat (k := .i64) (a := m) (b := 1) (by decide)
        simpa using this
      refine ⟨m / 2, by omega, m / 2, e', 2 * d, by rw [hs, X_X, ← Nat.mul_add, show d + d = 2 * d by omega], ?_, rfl, by omega, rfl⟩
      rw [he', ← hq, Nat.mul_comm 2 d, Nat.mul_assoc, Nat.add_assoc, ← Nat.mul_add]
      congr 2
      omega
  · have : m = 0 := by omega
    subst this
    rw [Nat.mul_zero, Nat.add_zero] at hq
    subst hq
    exact ⟨rfl, rfl⟩
theorem dunnageref02_Join.spec {a b : Nat} {n : Int} (ha : a < 2 ^ 32) (hb : b < 2 ^ 32) (hn0 : n ≤ 9223372036854775807) (w : World) : CallT [.one (.int .u32)] Try.prog F.dunnageref02_Join [.int .u32 a, .int .u32 b, .int .i64 n] w fun r w' => r = joinC a b n ∧ w = w' := by
  refine dunnageref02_Join.vc a b n w _ ?_
  refine cnd_dec (fun h => ⟨by rw [joinC, if_pos h], rfl⟩) (fun h => ?_)
  obtain ⟨n, rfl⟩ : ∃ k : Nat, n = k := ⟨n.toNat, by omega⟩
  refine CallT.mono (dunnageref02_power.spec (n := n) (by omega) w) ?_
  rintro _ _ ⟨rfl, rfl⟩
  refine CallT.mono (dunnageref02_times.spec ha (X_lt _) w) ?_
  rintro _ _ ⟨rfl, rfl⟩
  refine ⟨?_, rfl⟩
  rw [tm_X ha, bx (Crc.hn_lt _ ha) hb, joinC, if_neg h, Int.toNat_natCast]
end Go.Proofs
