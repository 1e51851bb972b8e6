/- Bytes: the seat's closed facts; word.Var, word.Zero, dunnagehelp.Bytes. Conditions: those of each contract. -/
import Derived.Test.YtinolellciikoaaCond7
import Derived.Test.YtinolellciikoaaCond13
import Derived.Test.YtinolellciikoaaMem2
import Derived.Test.YtinolellciikoaaBits
import Derived.Test.YtinolellciikoaaByte
import Derived.Test.YtinolellciikoaaCondF
namespace Go.Proofs
open Go Go.Vc

abbrev OwnB (w : World) (B : Nat) (s : SV) (l : List UInt8) : Prop := Own w B T.uint8 1 s (B8 l)
theorem _root_.Go.Vc.Own.lenB {w : World} {B : Nat} {s : SV} {l : List UInt8} (h : OwnB w B s l) : s.len = l.length := by have := h.len; rw [B8_length, Nat.mul_one] at this; exact this.symm

theorem appB : AppT Try.prog [T.sl_uint8, T.sl_uint8] T.uint8 1 1 [.int .u8 0] :=
  ⟨⟨T.sl_uint8, rfl, by kernel_rfl⟩, ⟨T.sl_uint8, _, rfl, by kernel_rfl, .inr ⟨T.uint8, rfl⟩⟩, by kernel_rfl, by kernel_rfl, by decide, by kernel_rfl, rfl, by decide⟩

/-! ### word.Var -/
def varB (v : Nat) : List UInt8 := if _h : v < 128 then [UInt8.ofNat v] else UInt8.ofNat (v % 128 + 128) :: varB (v / 128)
termination_by v
decreasing_by omega
theorem varB_lt {v : Nat} (h : v < 128) : varB v = [UInt8.ofNat v] := by rw [varB, dif_pos h]
theorem varB_ge {v : Nat} (h : ¬ v < 128) : varB v = UInt8.ofNat (v % 128 + 128) :: varB (v / 128) := by rw [varB, dif_neg h]
theorem varB_len : ∀ (k v : Nat), v < 128 ^ k → (varB v).length ≤ max 1 k
  | 0, v, h => by simp at h; subst h; rw [varB_lt (by omega)]; simp
  | k + 1, v, h => by
    by_cases hv : v < 128
    · rw [varB_lt hv]; simp
    · rw [varB_ge hv]
      have := varB_len k (v / 128) (Nat.div_lt_of_lt_mul (by rw [Nat.pow_succ, Nat.mul_comm] at h; exact h))
      have hk : k ≠ 0 := by rintro rfl; simp at h; omega
      simp; omega
theorem varB_ne (v : Nat) : varB v ≠ [] := by
  by_cases hv : v < 128
  · rw [varB_lt hv]; simp
  · rw [varB_ge hv]; simp
theorem varB_10 {v : Nat} (h : v < 2 ^ 64) : (varB v).length ≤ 10 := by
  have := varB_len 10 v (by omega)
  simpa using this
theorem bor128' : ∀ n : Fin 256, n.val ||| 128 = n.val % 128 + 128 := by decide +kernel
theorem bor128 : ∀ n : Nat, n < 256 → bor .u8 (n : Int) 128 = ((UInt8.ofNat (n % 128 + 128)).toNat : Int) := by
  intro n hn
  have h1 : bor .u8 (n : Int) ((128 : Nat) : Int) = ((n ||| 128 : Nat) : Int) := bor_nat rfl (by simpa [IntKind.bits] using hn) (by decide)
  have h2 : n ||| 128 = n % 128 + 128 := by
    have := bor128' ⟨n, hn⟩
    simpa using this
  have h3 : (UInt8.ofNat (n % 128 + 128)).toNat = n % 128 + 128 := by simp; omega
  rw [h3, ← h2]; exact h1
theorem u8_of (n : Nat) : IntKind.u8.wrap (n : Int) = ((UInt8.ofNat n).toNat : Int) := by
  rw [wrap_mod rfl]; simp [IntKind.bits]

theorem word_Var.spec (v : Nat) (hv : v < 2 ^ 64) (w : World) :
    CallT [.one .slice] Try.prog F.word_Var [.int .u64 v] w fun s w' => OwnB w' w.heap.size s (varB v) ∧ Ext w w' ∧ s.a ≠ none := by
  refine word_Var.vc v w _ ?_
  refine ⟨fun n x w' => ∃ (u : Nat) (d : List UInt8), x.1 = u ∧ u < 2 ^ 64 ∧ OwnB w' w.heap.size x.2 d ∧ Ext w w' ∧ d ++ varB u = varB v ∧ n = u,
    ⟨v, v, [], rfl, hv, Own.nil _ _ _ _, Upd.refl _ _, rfl, rfl⟩, ?_⟩
  rintro n ⟨x, out⟩ j w' ⟨u, d, hx, hle, ho, he, hd, rfl⟩
  dsimp only at hx ho ⊢
  subst hx
  have hlen : d.length ≤ 10 := by
    have := varB_10 hv
    rw [← hd] at this
    simp at this; omega
  have hol := ho.lenB
  refine cnd_dec (fun hge => ?_) (fun hlt => ?_)
  · have hge' : ¬ n < 128 := by omega
    have hb := bor128 (n % 256) (by omega)
    have hw : IntKind.u8.wrap (n : Int) = ((n % 256 : Nat) : Int) := by rw [u8_mod]; omega
    rw [hw, hb]
    refine app_new (vs := B8 [UInt8.ofNat (n % 256 % 128 + 128)]) appB he ho rfl (B8_one _) (by omega) ?_
    intro s' w2 ho2 he2 hl2 _
    have hshr : shr .u64 (n : Int) 7 = ((n / 128 : Nat) : Int) := shr_nat (k := .u64) (b := 7) (by decide)
    refine ⟨n / 128, by omega, n / 128, d ++ [UInt8.ofNat (n % 256 % 128 + 128)], hshr, by omega, ?_, he2, ?_, rfl⟩
    · rw [OwnB, B8_append]; exact ho2
    · rw [← hd, varB_ge hge', List.append_assoc]
      congr 2
      rw [show n % 256 % 128 = n % 128 by omega]
      rfl
  · have hlt' : n < 128 := by omega
    have hw : IntKind.u8.wrap (n : Int) = ((UInt8.ofNat n).toNat : Int) := u8_of n
    rw [hw]
    refine app_new (vs := B8 [UInt8.ofNat n]) appB he ho rfl (B8_one _) (by omega) ?_
    intro s' w2 ho2 he2 hl2 ha
    refine ⟨?_, he2, ha (by omega)⟩
    rw [← hd, varB_lt hlt', OwnB, B8_append]
    exact ho2

/-! ### dunnagehelp.Bytes -/
theorem dunnagehelp_Bytes.spec {a b : SV} {x y : List UInt8} {w : World} (ha : RdB w a x) (hb : RdB w b y) :
    CallT [.one .bool] Try.prog F.dunnagehelp_Bytes [.slice a.a a.len a.cap, .slice b.a b.len b.cap] w fun r w' => r = (x == y) ∧ w = w' := by
  refine dunnagehelp_Bytes.vc a b w _ ?_
  have key : ∀ {a : SV} {x : List UInt8}, RdB w a x → x.length = a.len ∧ (∀ A, a.a = some A → ∀ i, i < a.len → w.cell? (A.add i) = some (.int .u8 ((x.getD i 0).toNat : Int))) ∧ (a.a = none → x = []) := by
    intro a x ha
    refine ⟨ha.lenB.symm, fun A hA i hi => ?_, fun hn => ?_⟩
    · have hi' : i < x.length := by rw [← ha.lenB]; exact hi
      have := ha.at_ A hA i (.int .u8 (x[i].toNat)) (by simp [B8, hi'])
      rw [this]; simp [List.getD, hi']
    · have := ha.nil hn; rw [ha.lenB] at this; exact List.eq_nil_of_length_eq_zero this
  obtain ⟨a1, a2, a3⟩ := key ha
  obtain ⟨b1, b2, b3⟩ := key hb
  exact ⟨x, a1, a2, a3, y, b1, b2, b3, by simp, rfl⟩
end Go.Proofs
