/- The walks of dunnagelaw01.WordHalves, WordRoom: each answers true, and turns nothing that was there. Conditions: none. -/
import Derived.Test.YtbnnpnillppdhaaWordPut
namespace Go.Proofs
open Go Go.Vc
theorem leV_append (a b : List UInt8) : leV (a ++ b) = leV a + 256 ^ a.length * leV b := by
  induction a with
  | nil => simp [leV]
  | cons x r ih => rw [List.cons_append, leV, ih, leV, List.length_cons, Nat.pow_succ, Nat.mul_add, Nat.add_assoc, ← Nat.mul_assoc, Nat.mul_comm 256 (256 ^ r.length)]
theorem dunnagelaw01_WordHalves.spec {v : Nat} {c : Int} {w : World} (hv : v < 2 ^ 64) (_hc : -9223372036854775808 ≤ c ∧ c ≤ 9223372036854775807) :
    CallT [.one .bool] Try.prog F.dunnagelaw01_WordHalves [.int .u64 v, .int .i64 c] w fun r w' => r = true ∧ Ext w w' := by
  refine dunnagelaw01_WordHalves.vc v c w _ ?_
  obtain ⟨k, hk, hk1, hk7⟩ : ∃ k : Nat, IntKind.i64.wrap (1 + IntKind.i64.wrap ((IntKind.u64.wrap c).tmod 7)) = k ∧ 1 ≤ k ∧ k ≤ 7 := by
    have h0 : 0 ≤ IntKind.u64.wrap c := by rw [u64_mod]; omega
    have h1 : (IntKind.u64.wrap c).tmod 7 = IntKind.u64.wrap c % 7 := Int.tmod_eq_emod_of_nonneg h0
    rw [h1, i64_id (x := IntKind.u64.wrap c % 7) (by omega) (by omega), i64_id (by omega) (by omega)]
    exact ⟨(1 + IntKind.u64.wrap c % 7).toNat, by omega, by omega, by omega⟩
  rw [hk]
  intro e1
  have c1 := word_Put.spec (w := w) (s := ⟨none, 0, 0⟩) (l := []) (v := v) (n := 8) (Rd.nil' _ _ _) (by simp) hv (by omega)
  refine CallT.mono c1 ?_
  rintro ⟨x, e⟩ w1 ⟨hx, hxe, u1⟩
  have hput : putB [] v 8 = (leB 8 v, 0) := by
    rw [putB, if_neg (by omega), if_neg (by have : (256 : Nat) ^ (Int.toNat 8) = 2 ^ 64 := rfl; omega)]; rfl
  rw [hput] at hx hxe
  dsimp only at hx hxe ⊢
  have hxl := hx.lenB
  rw [leB_len] at hxl
  have c2 := word_Get.spec hx.rd hx.cap_le (by rw [leB_len]; omega) (a := 0) (n := k) (by omega) (by omega)
  refine CallT.mono c2 ?_
  rintro _ w2 ⟨rfl, u2⟩
  have h8 : IntKind.i64.wrap (8 - (k : Int)) = ((8 - k : Nat) : Int) := by rw [i64_id] <;> omega
  have h8' : IntKind.i64.wrap (8 - e1) = ((8 - k : Nat) : Int) := h8
  rw [h8']
  have c3 := word_Get.spec (hx.ext u2).rd hx.cap_le (by rw [leB_len]; omega) (a := k) (n := (8 - k : Nat)) (by omega) (by omega)
  refine CallT.mono c3 ?_
  rintro _ w3 ⟨rfl, u3⟩
  have c4 := dunnagelaw01_awake.spec w3
  refine CallT.mono c4 ?_
  rintro _ w4 ⟨rfl, u4⟩
  have g1 : getB (leB 8 v) 0 k = (((leV ((leB 8 v).take k) : Nat) : Int), 0) := by
    rw [getB, if_neg (by omega), if_neg (by rw [leB_len]; omega)]; rfl
  have g2 : getB (leB 8 v) k (8 - k : Nat) = (((leV ((leB 8 v).drop k) : Nat) : Int), 0) := by
    rw [getB, if_neg (by omega), if_neg (by rw [leB_len]; omega), Int.toNat_natCast, Int.toNat_natCast, List.take_of_length_le (by rw [List.length_drop, leB_len]; omega)]
  rw [g1, g2]
  dsimp only
  have hsh : IntKind.u64.wrap (IntKind.i64.wrap (8 * e1)) = ((8 * k : Nat) : Int) := by
    show IntKind.u64.wrap (IntKind.i64.wrap (8 * (k : Int))) = _
    rw [i64_id (by omega) (by omega), u64_id] <;> omega
  rw [hsh]
  refine cnd_true (cnd_pos (by rw [hxe]; rfl) (cnd_pos rfl (cnd_pos rfl ⟨by omega, ?_, ((u1.tr u2).tr u3).tr u4⟩)))
  have hall : leV (leB 8 v) = v := by rw [leV_leB]; exact Nat.mod_eq_of_lt hv
  have hsplit : leV ((leB 8 v).take k) + 256 ^ k * leV ((leB 8 v).drop k) = v := by
    have := leV_append ((leB 8 v).take k) ((leB 8 v).drop k)
    rw [List.take_append_drop, hall, List.length_take, leB_len, Nat.min_eq_left (by omega)] at this
    exact this.symm
  have hlo := leV_lt ((leB 8 v).take k)
  rw [List.length_take, leB_len, Nat.min_eq_left (by omega)] at hlo
  generalize leV ((leB 8 v).take k) = lo at *
  generalize leV ((leB 8 v).drop k) = hi at *
  have hpos : 0 < 256 ^ k := Nat.pow_pos (by decide)
  have hhi : hi ≤ 256 ^ k * hi := Nat.le_mul_of_pos_left _ hpos
  have hm : hi * 2 ^ (8 * k) % 2 ^ IntKind.u64.bits = hi * 256 ^ k := by
    rw [← pow256]; apply Nat.mod_eq_of_lt; simp only [IntKind.bits]; rw [Nat.mul_comm]; omega
  have hlt64 : hi * 256 ^ k < 2 ^ 64 := by rw [Nat.mul_comm]; omega
  rw [shl_nat (k := .u64) rfl (by simp only [IntKind.bits]; omega), hm, bor_nat (k := .u64) rfl (by simp only [IntKind.bits]; omega) (by simp only [IntKind.bits]; exact hlt64), or_add' hlo, Nat.mul_comm hi, hsplit]
  simp
theorem leB_most : ∀ n : Nat, leB n (256 ^ n - 1) = List.replicate n 255
  | 0 => rfl
  | n + 1 => by
    have hpos : 0 < 256 ^ n := Nat.pow_pos (by decide)
    have h1 : (256 ^ (n + 1) - 1) / 256 = 256 ^ n - 1 := by rw [Nat.pow_succ]; omega
    have h2 : (256 ^ (n + 1) - 1) % 256 = 255 := by rw [Nat.pow_succ]; omega
    rw [leB_cons, h1, leB_most n, List.replicate_succ]
    congr 1
    rw [← UInt8.toNat_inj]; simp [h2]
theorem dunnagelaw01_WordRoom.spec {v : Nat} {n : Int} {w : World} (hv : v < 2 ^ 64) (hn : -9223372036854775808 ≤ n ∧ n ≤ 9223372036854775807) :
    CallT [.one .bool] Try.prog F.dunnagelaw01_WordRoom [.int .u64 v, .int .i64 n] w fun r w' => r = true ∧ Ext w w' := by
  refine dunnagelaw01_WordRoom.vc v n w _ ?_
  refine ⟨fun _ w' => Ext w w' ∧ 1 ≤ n ∧ n ≤ 8, ⟨fun b w' => Ext w w' ∧ (b = false → 1 ≤ n ∧ n ≤ 8), ?_, ?_⟩, ?_⟩
  · have c1 := dunnagelaw01_awake.spec w
    refine CallT.mono c1 ?_
    rintro _ w1 ⟨rfl, u1⟩
    exact cnd_false (cnd_dec (fun _ => ⟨u1, by simp⟩) fun h1 => ⟨u1, fun h2 => by have := of_decide_eq_false h2; omega⟩)
  · rintro b _ w1 ⟨u1, hb⟩
    refine cnd_intro (fun ht => ?_) (fun hf => ⟨u1, hb hf⟩)
    have c1 := dunnagelaw01_awake.spec w1
    refine CallT.mono c1 ?_
    rintro _ w2 ⟨rfl, u2⟩
    exact ⟨rfl, u1.tr u2⟩
  rintro _ _ w1 ⟨u1, hn1, hn8⟩
  obtain ⟨k, rfl⟩ : ∃ k : Nat, n = k := ⟨n.toNat, by omega⟩
  have hpos : 0 < 256 ^ k := Nat.pow_pos (by decide)
  have h64 : 256 ^ k ≤ 256 ^ 8 := Nat.pow_le_pow_right (by decide) (by omega)
  have he : IntKind.i64.wrap (IntKind.i64.wrap (8 * (k : Int)) - 1) = ((8 * k - 1 : Nat) : Int) := by rw [i64_id (x := 8 * (k : Int)) (by omega) (by omega), i64_id] <;> omega
  have he2 : IntKind.u64.wrap ((8 * k - 1 : Nat) : Int) = ((8 * k - 1 : Nat) : Int) := by rw [u64_id] <;> omega
  have hmost : IntKind.u64.wrap (shl .u64 (shl .u64 1 ((8 * k - 1 : Nat) : Int)) 1 - 1) = ((256 ^ k - 1 : Nat) : Int) := by
    have a1 : shl .u64 1 ((8 * k - 1 : Nat) : Int) = ((2 ^ (8 * k - 1) : Nat) : Int) := by
      have := shl_nat (k := .u64) (a := 1) (b := 8 * k - 1) rfl (by simp only [IntKind.bits]; omega)
      rw [Nat.one_mul, Nat.mod_eq_of_lt (Nat.pow_lt_pow_right (by decide) (by simp only [IntKind.bits]; omega))] at this
      exact this
    have a2 : 2 ^ (8 * k - 1) * 2 ^ 1 = 256 ^ k := by rw [← Nat.pow_add, pow256]; congr 1; omega
    have a3 : shl .u64 ((2 ^ (8 * k - 1) : Nat) : Int) 1 = ((256 ^ k % 2 ^ 64 : Nat) : Int) := by
      have := shl_nat (k := .u64) (a := 2 ^ (8 * k - 1)) (b := 1) rfl (by decide)
      rw [a2] at this
      exact this
    rw [a1, a3, u64_mod]
    omega
  rw [he]
  dsimp only
  rw [he2, hmost]
  refine ⟨by omega, ?_⟩
  have c1 := word_Put.spec (w := w1) (s := ⟨none, 0, 0⟩) (l := []) (v := v) (n := k) (Rd.nil' _ _ _) (by simp) hv hn
  refine CallT.mono c1 ?_
  rintro ⟨x, e⟩ w2 ⟨hx, hxe, u2⟩
  have c2 := word_Put.spec (w := w2) (s := ⟨none, 0, 0⟩) (l := []) (v := 256 ^ k - 1) (n := k) (Rd.nil' _ _ _) (by simp) (by omega) hn
  refine CallT.mono c2 ?_
  rintro ⟨y, f⟩ w3 ⟨hy, hyf, u3⟩
  have hp1 : putB [] (256 ^ k - 1) k = (List.replicate k 255, 0) := by
    rw [putB, if_neg (by omega), Int.toNat_natCast, if_neg (by omega), leB_most]; rfl
  have hp2 : (putB [] v k).2 = if v ≤ 256 ^ k - 1 then 0 else 12 := by
    rw [putB, if_neg (by omega), Int.toNat_natCast]
    split <;> split <;> first | rfl | omega
  rw [hp1] at hy hyf
  rw [hp2] at hxe
  dsimp only at hy hyf hxe ⊢
  subst hyf
  have hyl := hy.lenB
  rw [List.length_replicate] at hyl
  have hw3 : Ext w w3 := (u1.tr u2).tr u3
  refine ⟨fun m i w' => ∃ j : Nat, i = j ∧ m = k - j ∧ j ≤ k ∧ w3 = w', ⟨_, 0, rfl, rfl, by omega, rfl⟩, ?_⟩
  rintro m _ _ _ ⟨j, rfl, rfl, hj, rfl⟩
  refine cnd_dec (fun hlt => ?_) (fun hge => ?_)
  · have hjk : j < k := by omega
    refine ⟨by omega, by omega, SV.getB hy.rd (i := j) (by simpa using hjk) fun A hA => ⟨255, hy.rd.cellB (b := 255) (by simp [hjk]) hA, cnd_neg rfl ⟨k - (j + 1), by omega, j + 1, by rw [i64_id] <;> omega, rfl, by omega, rfl⟩⟩⟩
  · have hyk : ((y.len : Int) == (k : Int)) = true := by rw [hyl]; simp
    have hd : ((v : Int) ≤ ((256 ^ k - 1 : Nat) : Int)) ↔ v ≤ 256 ^ k - 1 := by omega
    by_cases h : v ≤ 256 ^ k - 1
    · rw [if_pos h] at hxe
      subst hxe
      exact cnd_pos (by simp [hd, h]) (cnd_true (cnd_true ⟨hyk, hw3⟩))
    · rw [if_neg h] at hxe
      subst hxe
      exact cnd_pos (by simp [hd, h]) (cnd_false (cnd_true (cnd_true ⟨hyk, hw3⟩)))
end Go.Proofs
