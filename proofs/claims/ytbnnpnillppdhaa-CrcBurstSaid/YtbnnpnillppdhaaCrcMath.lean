/- The remainders of chapter 02 over the natural numbers: half a step, its powers, products; what turned bits do. Conditions: that the numbers are below 2^32. -/
import Derived.Test.YtbnnpnillppdhaaBits
namespace Go.Crc
def P : Nat := 2197175160
def M : Nat := 4294967295
def one : Nat := 2147483648
def half (c : Nat) : Nat := c / 2 ^^^ (if c % 2 = 1 then P else 0)
def hn : Nat → Nat → Nat | 0, c => c | n + 1, c => hn n (half c)
def xs : Nat → (Nat → Nat) → Nat | 0, _ => 0 | n + 1, f => xs n f ^^^ f n
structure Lin (f : Nat → Nat) : Prop where
  z : f 0 = 0
  x : ∀ a b, f (a ^^^ b) = f a ^^^ f b
theorem xor4 (a b c d : Nat) : (a ^^^ b) ^^^ (c ^^^ d) = (a ^^^ c) ^^^ (b ^^^ d) := by
  rw [Nat.xor_assoc, Nat.xor_assoc, ← Nat.xor_assoc b c d, Nat.xor_comm b c, Nat.xor_assoc c b d]
theorem xor_div2 (a b : Nat) : (a ^^^ b) / 2 = a / 2 ^^^ b / 2 := by
  have := @Nat.xor_div_two_pow a b 1
  simpa using this
theorem xor_mod2 (a b : Nat) : (a ^^^ b) % 2 = (a % 2 + b % 2) % 2 := by
  have := @Nat.xor_mod_two_pow a b 1
  simp at this
  rw [this]
  rcases Nat.mod_two_eq_zero_or_one a with h | h <;> rcases Nat.mod_two_eq_zero_or_one b with h' | h' <;> rw [h, h'] <;> rfl
theorem half_lin : Lin half := by
  refine ⟨rfl, fun a b => ?_⟩
  unfold half
  rw [xor_div2, xor_mod2]
  rcases Nat.mod_two_eq_zero_or_one a with h | h <;> rcases Nat.mod_two_eq_zero_or_one b with h' | h' <;> rw [h, h'] <;> simp
  · exact Nat.xor_assoc _ _ _
  · rw [Nat.xor_assoc, Nat.xor_assoc, Nat.xor_comm P]
  · rw [xor4, Nat.xor_self, Nat.xor_zero]
theorem Lin.id : Lin (fun c => c) := ⟨rfl, fun _ _ => rfl⟩
theorem Lin.comp {f g : Nat → Nat} (hf : Lin f) (hg : Lin g) : Lin (fun c => f (g c)) := ⟨by rw [hg.z, hf.z], fun a b => by rw [hg.x, hf.x]⟩
theorem Lin.add {f g : Nat → Nat} (hf : Lin f) (hg : Lin g) : Lin (fun c => f c ^^^ g c) := ⟨by simp [hf.z, hg.z], fun a b => by simp only [hf.x, hg.x]; rw [xor4]⟩
theorem hn_lin : ∀ n, Lin (hn n)
  | 0 => Lin.id
  | n + 1 => (hn_lin n).comp half_lin
theorem hn_half : ∀ n c, hn n (half c) = half (hn n c)
  | 0, _ => rfl
  | n + 1, c => hn_half n (half c)
theorem hn_add : ∀ m n c, hn (m + n) c = hn m (hn n c)
  | 0, n, c => by rw [Nat.zero_add]; rfl
  | m + 1, n, c => by rw [show m + 1 + n = (m + n) + 1 by omega, hn, hn_add m n, hn, hn_half n]
theorem half_lt {c : Nat} (h : c < 2 ^ 32) : half c < 2 ^ 32 := by
  unfold half
  refine Nat.xor_lt_two_pow (by omega) ?_
  split <;> decide
theorem hn_lt : ∀ (n : Nat) {c : Nat}, c < 2 ^ 32 → hn n c < 2 ^ 32
  | 0, _, h => h
  | n + 1, _, h => hn_lt n (half_lt h)
theorem lin_ext' {f g : Nat → Nat} (hf : Lin f) (hg : Lin g) : ∀ k, (∀ j, j < k → f (2 ^ j) = g (2 ^ j)) → ∀ c, c < 2 ^ k → f c = g c
  | 0, _, c, hc => by
    have : c = 0 := by simpa using hc
    subst this; rw [hf.z, hg.z]
  | k + 1, h, c, hc => by
    have hpos : 0 < 2 ^ k := Nat.pow_pos (by decide)
    have hlt := Nat.mod_lt c hpos
    by_cases hb : c < 2 ^ k
    · exact lin_ext' hf hg k (fun j hj => h j (by omega)) c hb
    · have hd : c = 2 ^ k * 1 + c % 2 ^ k := by
        rw [Nat.pow_succ] at hc
        have h1 : c / 2 ^ k = 1 := by
          apply Nat.div_eq_of_lt_le <;> omega
        have := Nat.div_add_mod c (2 ^ k)
        rw [h1] at this; exact this.symm
      have hx : c = 2 ^ k ^^^ c % 2 ^ k := by
        apply Nat.eq_of_testBit_eq
        intro i
        rw [Nat.testBit_xor]
        conv => lhs; rw [hd, Nat.two_pow_add_eq_or_of_lt hlt, Nat.mul_one]
        rw [Nat.testBit_or, Nat.testBit_two_pow]
        by_cases hi : k = i
        · subst hi
          have : (c % 2 ^ k).testBit k = false := Nat.testBit_lt_two_pow hlt
          simp [this]
        · simp [hi]
      rw [hx, hf.x, hg.x, h k (by omega), lin_ext' hf hg k (fun j hj => h j (by omega)) _ hlt]
theorem lin_ext {f g : Nat → Nat} (hf : Lin f) (hg : Lin g) (h : ∀ j, j < 32 → f (2 ^ j) = g (2 ^ j)) {c : Nat} (hc : c < 2 ^ 32) : f c = g c := lin_ext' hf hg 32 h c hc
theorem div_lin (k : Nat) : Lin (fun c => c / 2 ^ k) := ⟨Nat.zero_div _, fun _ _ => Nat.xor_div_two_pow⟩
theorem mod_lin (k : Nat) : Lin (fun c => c % 2 ^ k) := ⟨Nat.zero_mod _, fun _ _ => Nat.xor_mod_two_pow⟩
/-- Four steps at once. -/
theorem hn4 {c : Nat} (h : c < 2 ^ 32) : hn 4 c = c / 16 ^^^ hn 4 (c % 16) := by
  refine lin_ext (f := hn 4) (g := fun c => c / 2 ^ 4 ^^^ hn 4 (c % 2 ^ 4)) (hn_lin 4) ((div_lin 4).add ((hn_lin 4).comp (mod_lin 4))) ?_ h
  decide +kernel

/-! ### sums -/
theorem xs_congr {n : Nat} {f g : Nat → Nat} (h : ∀ i, i < n → f i = g i) : xs n f = xs n g := by
  induction n with
  | zero => rfl
  | succ n ih => rw [xs, xs, ih (fun i hi => h i (by omega)), h n (by omega)]
theorem xs_zero {n : Nat} {f : Nat → Nat} (h : ∀ i, i < n → f i = 0) : xs n f = 0 := by
  induction n with
  | zero => rfl
  | succ n ih => rw [xs, ih (fun i hi => h i (by omega)), h n (by omega)]; rfl
theorem xs_xor (n : Nat) (f g : Nat → Nat) : xs n (fun i => f i ^^^ g i) = xs n f ^^^ xs n g := by
  induction n with
  | zero => simp [xs]
  | succ n ih => rw [xs, xs, xs, ih, xor4]
theorem Lin.xs {f : Nat → Nat} (hf : Lin f) (n : Nat) (g : Nat → Nat) : f (xs n g) = Go.Crc.xs n (fun i => f (g i)) := by
  induction n with
  | zero => exact hf.z
  | succ n ih => rw [Go.Crc.xs, Go.Crc.xs, hf.x, ih]
theorem xs_one (n k : Nat) (v : Nat → Nat) : xs n (fun i => if i = k then v i else 0) = if k < n then v k else 0 := by
  induction n with
  | zero => simp [xs]
  | succ n ih =>
    rw [xs, ih]
    by_cases h : n = k
    · subst h; simp
    · by_cases h2 : k < n
      · rw [if_pos h2, if_neg h, if_pos (by omega), Nat.xor_zero]
      · rw [if_neg h2, if_neg h, if_neg (by omega)]; rfl

/-! ### products -/
def tm (a b : Nat) : Nat := xs 32 fun i => if a.testBit (31 - i) then hn i b else 0
theorem Lin.ite {f : Nat → Nat} (hf : Lin f) (b : Bool) : Lin (fun c => if b then f c else 0) := by
  cases b
  · exact ⟨by simp, fun _ _ => by simp⟩
  · exact ⟨hf.z, hf.x⟩
theorem Lin.sum {g : Nat → Nat → Nat} (h : ∀ i, Lin (g i)) (n : Nat) : Lin (fun c => Go.Crc.xs n fun i => g i c) := by
  refine ⟨xs_zero fun i _ => (h i).z, fun a b => ?_⟩
  rw [← xs_xor]
  exact xs_congr fun i _ => (h i).x a b
theorem tm_linR (a : Nat) : Lin (tm a) := Lin.sum (fun i => (hn_lin i).ite (a.testBit (31 - i))) 32
theorem tm_linL (b : Nat) : Lin (fun a => tm a b) := by
  refine Lin.sum (g := fun i a => if a.testBit (31 - i) then hn i b else 0) (fun i => ?_) 32
  refine ⟨by simp, fun x y => ?_⟩
  rw [Nat.testBit_xor]
  cases x.testBit (31 - i) <;> cases y.testBit (31 - i) <;> simp
theorem tm_hn (a : Nat) : ∀ n b, tm a (hn n b) = hn n (tm a b) := by
  have h1 : ∀ b, tm a (half b) = half (tm a b) := fun b => by
    unfold tm
    rw [half_lin.xs]
    refine xs_congr fun i _ => ?_
    cases a.testBit (31 - i)
    · simp [half_lin.z]
    · simp [hn_half]
  intro n
  induction n with
  | zero => intro b; rfl
  | succ n ih => intro b; rw [hn, ih, h1, hn]
theorem tm_one {a : Nat} (h : a < 2 ^ 32) : tm a one = a := by
  refine lin_ext (f := fun a => tm a one) (g := fun a => a) (tm_linL one) Lin.id ?_ h
  decide +kernel
def X (k : Nat) : Nat := hn k one
theorem X_lt (k : Nat) : X k < 2 ^ 32 := hn_lt k (by decide)
theorem tm_X {a : Nat} (h : a < 2 ^ 32) (k : Nat) : tm a (X k) = hn k a := by rw [X, tm_hn, tm_one h]
theorem X_X (i j : Nat) : tm (X i) (X j) = X (i + j) := by rw [tm_X (X_lt i), Nat.add_comm, X, X, hn_add]
theorem pow_X : ∀ j, j < 32 → 2 ^ j = X (31 - j) := by decide +kernel
theorem tm_comm {a b : Nat} (ha : a < 2 ^ 32) (hb : b < 2 ^ 32) : tm a b = tm b a := by
  refine lin_ext (f := fun a => tm a b) (g := fun a => tm b a) (tm_linL b) (tm_linR b) (fun j hj => ?_) ha
  show tm (2 ^ j) b = tm b (2 ^ j)
  have h2 : tm b (2 ^ j) = hn (31 - j) b := by rw [pow_X j hj, tm_X hb]
  rw [h2]
  unfold tm
  have : (fun i => if (2 ^ j).testBit (31 - i) then hn i b else 0) = fun i => if (2 ^ j).testBit (31 - i) then hn i b else 0 := rfl
  rw [xs_congr (g := fun i => if i = 31 - j then hn i b else 0) (fun i hi => ?_), xs_one, if_pos (by omega)]
  rw [Nat.testBit_two_pow]
  by_cases h : i = 31 - j
  · rw [if_pos h]; simp; intro h'; omega
  · rw [if_neg h]; simp; intro h'; omega
theorem X_tm {a : Nat} (h : a < 2 ^ 32) (k : Nat) : tm (X k) a = hn k a := by rw [tm_comm (X_lt k) h, tm_X h]

/-! ### the sum of bytes -/
def raw (s : Nat) : List UInt8 → Nat | [] => s | c :: r => raw (hn 8 (s ^^^ c.toNat)) r
def more (sum : Nat) (l : List UInt8) : Nat := raw (sum ^^^ M) l ^^^ M
theorem raw_lt : ∀ (l : List UInt8) {s : Nat}, s < 2 ^ 32 → raw s l < 2 ^ 32
  | [], _, h => h
  | _ :: r, _, h => raw_lt r (hn_lt 8 (Nat.xor_lt_two_pow h (Nat.lt_of_lt_of_le (UInt8.toNat_lt _) (by decide))))
theorem more_lt {s : Nat} (h : s < 2 ^ 32) (l : List UInt8) : more s l < 2 ^ 32 := Nat.xor_lt_two_pow (raw_lt l (Nat.xor_lt_two_pow h (by decide))) (by decide)
theorem raw_append : ∀ (a b : List UInt8) (s : Nat), raw s (a ++ b) = raw (raw s a) b
  | [], _, _ => rfl
  | c :: r, b, s => raw_append r b _
theorem raw_snoc (a : List UInt8) (c : UInt8) (s : Nat) : raw s (a ++ [c]) = hn 8 (raw s a ^^^ c.toNat) := by rw [raw_append]; rfl
/-- What comes ahead, and the bytes themselves. -/
theorem raw_split : ∀ (l : List UInt8) (s : Nat), raw s l = hn (8 * l.length) s ^^^ raw 0 l
  | [], s => by simp [raw, hn]
  | c :: r, s => by
    rw [raw, raw_split r, raw, raw_split r (hn 8 (0 ^^^ c.toNat)), Nat.zero_xor, (hn_lin 8).x, (hn_lin _).x, List.length_cons, show 8 * (r.length + 1) = 8 * r.length + 8 by omega, hn_add, Nat.xor_assoc]
end Go.Crc
