/- The walk of dunnagelaw01.WordLengths: it answers true whatever two numbers it is given, and turns nothing that was there. -/
import Derived.Test.YtbnnpnillppdhaaWord
namespace Go.Proofs
open Go Go.Vc

def vval : List UInt8 → Nat | [] => 0 | c :: r => c.toNat % 128 + 128 * vval r
theorem vval_varB : ∀ v : Nat, vval (varB v) = v := by
  intro v
  induction v using Nat.strongRecOn with
  | ind v ih =>
    by_cases h : v < 128
    · rw [varB_lt h]; simp [vval]; omega
    · rw [varB_ge h, vval, ih _ (by omega)]; simp; omega
theorem varB_inj {a b : Nat} : varB a = varB b ↔ a = b := ⟨fun h => by rw [← vval_varB a, h, vval_varB], fun h => by rw [h]⟩
theorem varB_mono : ∀ (b a : Nat), a ≤ b → (varB a).length ≤ (varB b).length := by
  intro b
  induction b using Nat.strongRecOn with
  | ind b ih =>
    intro a h
    by_cases ha : a < 128
    · rw [varB_lt ha]
      exact List.length_pos_iff.2 (varB_ne b)
    · have hb : ¬ b < 128 := by omega
      have := ih (b / 128) (by omega) (a / 128) (by omega)
      rw [varB_ge ha, varB_ge hb]
      simpa using this

theorem dunnagelaw01_WordLengths.spec (a b : Nat) (ha : a < 2 ^ 64) (hb : b < 2 ^ 64) (w : World) :
    CallT [.one .bool] Try.prog F.dunnagelaw01_WordLengths [.int .u64 a, .int .u64 b] w fun r w' => r = true ∧ Ext w w' := by
  refine dunnagelaw01_WordLengths.vc a b w _ ?_
  refine CallT.mono (word_Var.spec a ha w) ?_
  rintro x w1 ⟨hx, he1, _⟩
  refine CallT.mono (word_Var.spec b hb w1) ?_
  rintro y w2 ⟨hy, he2, _⟩
  have hxl := hx.lenB
  have hyl := hy.lenB
  have he : Ext w w2 := he1.trans he2 fun _ _ h => h
  have h7 : ∀ u : Nat, shr .u64 (u : Int) 7 = ((u / 128 : Nat) : Int) := fun u => shr_nat (k := .u64) (b := 7) (by decide)
  refine ⟨fun m x w' => ∃ k u : Nat, x.1 = k ∧ x.2 = u ∧ m = u ∧ w' = w2 ∧ k + (if u = 0 then 0 else (varB u).length) = (varB a).length,
    ⟨a / 128, 1, a / 128, rfl, h7 a, rfl, rfl, ?_⟩, ?_⟩
  · by_cases h : a < 128
    · rw [if_pos (by omega), varB_lt h]; rfl
    · rw [if_neg (by omega), varB_ge h]; simp; omega
  rintro m ⟨n, v⟩ j w' ⟨k, u, hk, hv, rfl, rfl, hl⟩
  dsimp only at hk hv ⊢
  subst hk hv
  have h10 := varB_10 ha
  refine cnd_dec (fun hp => ?_) (fun hz => ?_)
  · rw [if_neg (by omega)] at hl
    refine ⟨m / 128, by omega, k + 1, m / 128, by rw [i64_id] <;> omega, h7 m, rfl, rfl, ?_⟩
    by_cases h : m < 128
    · rw [varB_lt h] at hl; rw [if_pos (by omega)]; exact hl
    · rw [varB_ge h] at hl; rw [if_neg (by omega)]; simp at hl; omega
  · rw [if_pos (by omega)] at hl
    refine CallT.mono (dunnagelaw01_awake.spec w') ?_
    rintro _ w3 ⟨rfl, he3⟩
    refine cnd_true (cnd_beq (fun _ => cnd_dec (fun _ => ?_) (fun h => absurd (by omega) h)) (fun h => absurd (by omega) h))
    have hB := dunnagehelp_Bytes.spec (w := w3) ((hx.rd.ext he2).ext he3) (hy.rd.ext he3)
    have key : (((a : Int) == (b : Int)) == (varB a == varB b)) = true := by
      by_cases h : a = b
      · subst h; simp
      · have h1 : varB a ≠ varB b := fun e => h (varB_inj.1 e)
        have h2 : (a : Int) ≠ b := by omega
        rw [beq_eq_false_iff_ne.2 h1, beq_eq_false_iff_ne.2 h2]; rfl
    refine cnd_dec (fun hgt => ?_) (fun hle => cnd_dec (fun _ => ?_) (fun h => absurd ?_ h))
    · refine CallT.mono hB ?_
      rintro _ w4 ⟨rfl, rfl⟩
      exact ⟨key, he.trans he3 fun _ _ h => h⟩
    · refine CallT.mono hB ?_
      rintro _ w4 ⟨rfl, rfl⟩
      exact ⟨key, he.trans he3 fun _ _ h => h⟩
    · have := varB_mono b a (by omega)
      omega
end Go.Proofs
