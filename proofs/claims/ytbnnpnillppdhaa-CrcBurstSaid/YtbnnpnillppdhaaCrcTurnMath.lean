/- What turned bits do to the sum of chapter 02. Conditions: those of each lemma. -/
import Derived.Test.YtbnnpnillppdhaaLCrcLinear
import Derived.Test.YtbnnpnillppdhaaLWordRoom
namespace Go.Proofs
open Go Go.Vc Go.Crc
theorem half_zero {c : Nat} (hc : c < 2 ^ 32) (h : half c = 0) : c = 0 := by
  unfold half at h
  split at h
  · have : c / 2 = P := by
      have h1 := congrArg (· ^^^ P) h
      simp only [Nat.xor_assoc, Nat.xor_self, Nat.xor_zero, Nat.zero_xor] at h1
      exact h1
    unfold P at this
    omega
  · rw [Nat.xor_zero] at h; omega
theorem hn_zero : ∀ (n : Nat) {c : Nat}, c < 2 ^ 32 → Crc.hn n c = 0 → c = 0
  | 0, _, _, h => h
  | n + 1, _, hc, h => half_zero hc (hn_zero n (half_lt hc) h)
theorem hn_inj (n : Nat) {a b : Nat} (ha : a < 2 ^ 32) (hb : b < 2 ^ 32) (h : Crc.hn n a = Crc.hn n b) : a = b := by
  have h1 : Crc.hn n (a ^^^ b) = 0 := by rw [(Crc.hn_lin n).x, h, Nat.xor_self]
  have h2 := hn_zero n (Nat.xor_lt_two_pow ha hb) h1
  have h3 := congrArg (· ^^^ b) h2
  simpa [Nat.xor_assoc] using h3
theorem X_ne (k : Nat) : X k ≠ 0 := fun h => by have := hn_zero k (by decide) h; exact absurd this (by decide)
/-! ### the order -/
def noOne : Nat → Nat → Bool | 0, _ => true | n + 1, c => half c != one && noOne n (half c)
theorem noOne_spec : ∀ (n c : Nat), noOne n c = true → ∀ d, 0 < d → d ≤ n → Crc.hn d c ≠ one
  | 0, _, _, d, h1, h2 => by omega
  | n + 1, c, h, d, h1, h2 => by
    simp only [noOne, Bool.and_eq_true, bne_iff_ne] at h
    cases d with
    | zero => omega
    | succ d =>
      rw [Crc.hn]
      by_cases hd : d = 0
      · subst hd; exact h.1
      · exact noOne_spec n (half c) h.2 d (by omega) (by omega)
theorem order : noOne 4095 one = true := by decide +kernel
theorem X_apart {a b : Nat} (h : X a = X b) (hab : a < b) (hd : b < a + 4096) : False := by
  obtain ⟨d, rfl⟩ : ∃ d, b = a + d := ⟨b - a, by omega⟩
  rw [X, X, Crc.hn_add] at h
  have := hn_inj a (a := one) (by decide) (Crc.hn_lt d (by decide)) h
  exact noOne_spec 4095 one order d (by omega) (by omega) this.symm
/-! ### how many ones -/
def par (c : Nat) : Nat := xs 32 fun i => (c.testBit i).toNat
theorem par_lin : Lin par := by
  refine Lin.sum (g := fun i c => (c.testBit i).toNat) (fun i => ?_) 32
  refine ⟨by simp, fun a b => ?_⟩
  rw [Nat.testBit_xor]
  cases a.testBit i <;> cases b.testBit i <;> rfl
theorem par_half {c : Nat} (hc : c < 2 ^ 32) : par (half c) = par c := by
  refine lin_ext (f := fun c => par (half c)) (g := par) (par_lin.comp half_lin) par_lin ?_ hc
  decide +kernel
theorem par_X (k : Nat) : par (X k) = 1 := by
  have key : ∀ (k : Nat) {c : Nat}, c < 2 ^ 32 → par (Crc.hn k c) = par c := by
    intro k
    induction k with
    | zero => intro c _; rfl
    | succ k ih => intro c hc; rw [Crc.hn, ih (half_lt hc), par_half hc]
  rw [X, key k (by decide)]
  decide +kernel
theorem X_three (a b c : Nat) : X a ^^^ X b ^^^ X c ≠ 0 := fun h => by
  have := congrArg par h
  rw [par_lin.x, par_lin.x, par_X, par_X, par_X, par_lin.z] at this
  exact absurd this (by decide)
/-! ### a turned bit -/
def turn1 (l : List UInt8) (k : Int) : List UInt8 := if 0 ≤ k ∧ k / 8 < l.length then l.set (k / 8).toNat (l.getD (k / 8).toNat 0 ^^^ UInt8.ofNat (2 ^ (k % 8).toNat)) else l
def turns (l : List UInt8) (ks : List Int) : List UInt8 := ks.foldl turn1 l
theorem turn1_len (l : List UInt8) (k : Int) : (turn1 l k).length = l.length := by unfold turn1; split <;> simp
theorem turns_len : ∀ (ks : List Int) (l : List UInt8), (turns l ks).length = l.length
  | [], _ => rfl
  | k :: r, l => by
    show (turns (turn1 l k) r).length = _
    rw [turns_len r, turn1_len]
theorem raw_zeros : ∀ (n s : Nat), raw s (List.replicate n 0) = Crc.hn (8 * n) s
  | 0, _ => rfl
  | n + 1, s => by
    rw [List.replicate_succ, raw, raw_zeros n, show (0 : UInt8).toNat = 0 from rfl, Nat.xor_zero, ← Crc.hn_add]
    rfl
/-- The sum's change by one bit. -/
def er (n : Nat) (k : Int) : Nat := if 0 ≤ k ∧ k < 8 * n then X (8 * n + 31 - k.toNat) else 0
theorem raw_set {l : List UInt8} {i : Nat} (hi : i < l.length) (d : UInt8) (s : Nat) : raw s (l.set i (l[i] ^^^ d)) = raw s l ^^^ Crc.hn (8 * (l.length - i)) d.toNat := by
  have e1 : l = l.take i ++ (l[i] :: l.drop (i + 1)) := by rw [List.getElem_cons_drop, List.take_append_drop]
  have e2 : l.set i (l[i] ^^^ d) = l.take i ++ ((l[i] ^^^ d) :: l.drop (i + 1)) := by rw [List.set_eq_take_append_cons_drop, if_pos hi]
  rw [e2, raw_append]
  conv => rhs; lhs; rw [e1, raw_append]
  rw [raw, raw, raw_split (l.drop (i + 1)), raw_split (l.drop (i + 1)) (Crc.hn 8 (raw s (l.take i) ^^^ (l[i]).toNat)), UInt8.toNat_xor, ← Nat.xor_assoc, (Crc.hn_lin 8).x _ d.toNat, (Crc.hn_lin _).x, ← Crc.hn_add, ← Crc.hn_add, List.length_drop]
  rw [show 8 * (l.length - (i + 1)) + 8 = 8 * (l.length - i) by omega, Nat.xor_assoc, Nat.xor_comm (Crc.hn (8 * (l.length - i)) d.toNat), ← Nat.xor_assoc]
theorem raw_turn1 (l : List UInt8) (k : Int) (s : Nat) : raw s (turn1 l k) = raw s l ^^^ er l.length k := by
  unfold turn1 er
  by_cases h : 0 ≤ k ∧ k / 8 < l.length
  · rw [if_pos h, if_pos (by omega)]
    obtain ⟨q, rfl⟩ : ∃ q : Nat, k = q := ⟨k.toNat, by omega⟩
    have h1 : ((q : Int) / 8).toNat = q / 8 := by omega
    have h2 : ((q : Int) % 8).toNat = q % 8 := by omega
    have hi : q / 8 < l.length := by omega
    have hg : l.getD (q / 8) 0 = l[q / 8] := by simp [List.getD, hi]
    rw [h1, h2, hg, raw_set hi, Int.toNat_natCast]
    congr 1
    have h3 : (UInt8.ofNat (2 ^ (q % 8))).toNat = 2 ^ (q % 8) := by
      rw [UInt8.toNat_ofNat']
      apply Nat.mod_eq_of_lt
      exact Nat.pow_lt_pow_right (by decide) (by omega)
    rw [h3, pow_X _ (by omega), X, X, ← Crc.hn_add]
    congr 1
    omega
  · rw [if_neg h, if_neg (by omega), Nat.xor_zero]
def ers (n : Nat) (ks : List Int) : Nat := ks.foldl (fun a k => a ^^^ er n k) 0
theorem ers_snoc (n : Nat) (ks : List Int) (k : Int) : ers n (ks ++ [k]) = ers n ks ^^^ er n k := by simp [ers, List.foldl_append]
theorem raw_turns : ∀ (ks : List Int) (l : List UInt8) (s : Nat), raw s (turns l ks) = raw s l ^^^ ers l.length ks := by
  have key : ∀ (ks : List Int) (l : List UInt8) (s a : Nat), raw s (turns l ks) ^^^ a = raw s l ^^^ ks.foldl (fun a k => a ^^^ er l.length k) a := by
    intro ks
    induction ks with
    | nil => intro l s a; rfl
    | cons k r ih =>
      intro l s a
      show raw s (turns (turn1 l k) r) ^^^ a = _
      have h1 := ih (turn1 l k) s (a ^^^ er l.length k)
      rw [turn1_len] at h1
      rw [List.foldl_cons]
      have h2 : raw s (turns (turn1 l k) r) ^^^ (a ^^^ er l.length k) ^^^ er l.length k = raw s (turns (turn1 l k) r) ^^^ a := by
        rw [Nat.xor_assoc, Nat.xor_assoc, Nat.xor_self, Nat.xor_zero]
      rw [← h2, h1, raw_turn1, Nat.xor_assoc, Nat.xor_assoc]
      congr 1
      rw [Nat.xor_comm (List.foldl _ _ _), ← Nat.xor_assoc, Nat.xor_self, Nat.zero_xor]
  intro ks l s
  have := key ks l s 0
  rwa [Nat.xor_zero] at this
/-! ### bytes with their sum behind them -/
def behindB (l : List UInt8) : List UInt8 := l ++ leB 4 (more 0 l)
def rightB (x : List UInt8) : Bool := if x.length < 4 then false else behindB (x.take (x.length - 4)) == x
theorem raw4 (s : Nat) (q : List UInt8) (h : q.length = 4) : raw s q = Crc.hn 32 (s ^^^ leV q) := by
  match q, h with
  | [a, b, c, d], _ =>
    have hh : ∀ (m : Nat) (u : Nat), Crc.hn 8 (256 * u) = u ∧ True := fun _ u => by
      refine ⟨?_, trivial⟩
      have h0 : ∀ u, half (2 * u) = u := fun u => by unfold half; rw [if_neg (by omega), Nat.xor_zero]; omega
      show half (half (half (half (half (half (half (half (256 * u)))))))) = u
      rw [show 256 * u = 2 * (2 * (2 * (2 * (2 * (2 * (2 * (2 * u))))))) by omega, h0, h0, h0, h0, h0, h0, h0, h0]
    have hx : ∀ (c : UInt8) (u : Nat), c.toNat + 256 * u = c.toNat ^^^ (256 * u) := fun c u => by
      have hc := c.toNat_lt
      rw [Nat.add_comm, show 256 * u = 2 ^ 8 * u from rfl, Nat.two_pow_add_eq_or_of_lt hc]
      apply Nat.eq_of_testBit_eq
      intro i
      rw [Nat.testBit_or, Nat.testBit_xor, Nat.testBit_two_pow_mul]
      by_cases hi : 8 ≤ i
      · have : c.toNat.testBit i = false := Nat.testBit_lt_two_pow (Nat.lt_of_lt_of_le hc (Nat.pow_le_pow_right (by decide) hi))
        simp [this]
      · simp [hi]
    have step : ∀ (s : Nat) (c : UInt8) (u m : Nat), Crc.hn (m + 8) (s ^^^ (c.toNat + 256 * u)) = Crc.hn m (Crc.hn 8 (s ^^^ c.toNat) ^^^ u) := fun s c u m => by
      rw [hx, ← Nat.xor_assoc, Crc.hn_add, (Crc.hn_lin 8).x, (hh 0 u).1]
    simp only [raw, leV]
    rw [show (32 : Nat) = 24 + 8 from rfl, step, show (24 : Nat) = 16 + 8 from rfl, step, show (16 : Nat) = 8 + 8 from rfl, step, show (8 : Nat) = 0 + 8 from rfl, step]
    rw [Nat.xor_zero]; rfl
theorem right_iff {x : List UInt8} (h : 4 ≤ x.length) : rightB x = true ↔ raw M x = Crc.hn 32 M := by
  have hp := List.take_append_drop (x.length - 4) x
  have hq : (x.drop (x.length - 4)).length = 4 := by rw [List.length_drop]; omega
  generalize hpe : x.take (x.length - 4) = p at *
  generalize hqe : x.drop (x.length - 4) = q at *
  have hml := more_lt (s := 0) (by decide) p
  have hr := raw_lt p (s := M) (by decide)
  have hlq := leV_lt q
  rw [hq] at hlq
  have e1 : rightB x = true ↔ leB 4 (more 0 p) = q := by
    rw [rightB, if_neg (by omega), hpe, beq_iff_eq, behindB]
    conv => lhs; rhs; rw [← hp]
    exact List.append_right_inj p
  rw [e1]
  conv => rhs; lhs; rw [← hp, raw_append, raw4 _ q hq]
  have e2 : leB 4 (more 0 p) = q ↔ more 0 p = leV q := by
    constructor
    · intro h
      have := congrArg leV h
      rwa [leV_leB, Nat.mod_eq_of_lt hml] at this
    · intro h
      have := leB_leV q
      rw [hq] at this
      rw [h, this]
  rw [e2]
  have hm : more 0 p = raw M p ^^^ M := by simp [more]
  rw [hm]
  constructor
  · intro h
    congr 1
    rw [← h, ← Nat.xor_assoc, Nat.xor_self, Nat.zero_xor]
  · intro h
    have := hn_inj 32 (Nat.xor_lt_two_pow hr hlq) (by decide) h
    have h2 := congrArg (raw M p ^^^ ·) this
    simp only [← Nat.xor_assoc, Nat.xor_self, Nat.zero_xor] at h2
    exact h2.symm
theorem right_behind (l : List UInt8) : rightB (behindB l) = true := by
  have hl : (behindB l).length = l.length + 4 := by rw [behindB, List.length_append, leB_len]
  rw [rightB, if_neg (by omega), hl, show l.length + 4 - 4 = l.length by omega]
  have : (behindB l).take l.length = l := by rw [behindB, List.take_left']; rfl
  rw [this]; simp
theorem right_turned {x : List UInt8} (h4 : 4 ≤ x.length) (h : rightB x = true) (ks : List Int) (hk : ers x.length ks ≠ 0) : rightB (turns x ks) = false := by
  cases hr : rightB (turns x ks) with
  | false => rfl
  | true =>
    rw [right_iff (by rw [turns_len]; exact h4), raw_turns, (right_iff h4).1 h] at hr
    exfalso
    apply hk
    have := congrArg (Crc.hn 32 M ^^^ ·) hr
    simpa [← Nat.xor_assoc] using this
theorem er_X {n k : Nat} (h : k < 8 * n) : er n k = X (8 * n + 31 - k) := by rw [er, if_pos (by omega), Int.toNat_natCast]
theorem ers1 {n i : Nat} (hi : i < 8 * n) : ers n [(i : Int)] ≠ 0 := by
  simp only [ers, List.foldl_cons, List.foldl_nil, Nat.zero_xor]
  rw [er_X hi]; exact X_ne _
theorem ers2 {n i j : Nat} (hn0 : n ≤ 512) (hi : i < 8 * n) (hj : j < 8 * n) (hij : i ≠ j) : ers n [(i : Int), (j : Int)] ≠ 0 := by
  simp only [ers, List.foldl_cons, List.foldl_nil, Nat.zero_xor]
  rw [er_X hi, er_X hj]
  intro h
  have he : X (8 * n + 31 - i) = X (8 * n + 31 - j) := by
    have := congrArg (· ^^^ X (8 * n + 31 - j)) h
    simpa [Nat.xor_assoc] using this
  rcases Nat.lt_or_gt_of_ne hij with h1 | h1
  · exact X_apart he.symm (by omega) (by omega)
  · exact X_apart he (by omega) (by omega)
theorem ers3 {n i j k : Nat} (hi : i < 8 * n) (hj : j < 8 * n) (hk : k < 8 * n) : ers n [(i : Int), (j : Int), (k : Int)] ≠ 0 := by
  simp only [ers, List.foldl_cons, List.foldl_nil, Nat.zero_xor]
  rw [er_X hi, er_X hj, er_X hk]
  exact X_three _ _ _
end Go.Proofs
