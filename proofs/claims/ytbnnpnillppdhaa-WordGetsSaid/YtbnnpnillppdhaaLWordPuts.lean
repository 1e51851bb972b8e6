/- The walks of dunnagelaw01.WordPuts, WordGets, WordHalves, WordRoom: each answers true, and turns nothing that was there. Conditions: what came in is of the sizes that the form allows. -/
import Derived.Test.YtbnnpnillppdhaaWordPut
namespace Go.Proofs
open Go Go.Vc
theorem putB_len (l : List UInt8) (v : Nat) (n : Int) : (putB l v n).1.length ≤ l.length + 8 := by
  unfold putB
  split
  · simp
  · rename_i h
    split
    · simp
    · simp only [List.length_append, leB_len]; omega
theorem dunnagelaw01_WordPuts.spec {s : SV} {l : List UInt8} {v : Nat} {n a k : Int} {w : World} (hs : RdB w s l) (hc : s.len ≤ s.cap) (hm : s.cap ≤ 140737488351232) (hv : v < 2 ^ 64) (hn : -9223372036854775808 ≤ n ∧ n ≤ 9223372036854775807) (ha : -9223372036854775808 ≤ a ∧ a ≤ 9223372036854775807) (hk : -9223372036854775808 ≤ k ∧ k ≤ 9223372036854775807) :
    CallT [.one .bool] Try.prog F.dunnagelaw01_WordPuts [.slice s.a s.len s.cap, .int .u64 v, .int .i64 n, .int .i64 a, .int .i64 k] w fun r w' => r = true ∧ Ext w w' := by
  refine dunnagelaw01_WordPuts.vc s v n a k w _ ?_
  have hl : l.length ≤ 140737488351232 := by have := hs.lenB; omega
  have c1 := dunnagehelp_Own_byte.spec hs hl 71
  refine CallT.mono c1 ?_
  rintro o w1 ⟨hol, hoc, e1, b, ho⟩
  have c2 := word_Put.spec ho.rd hl hv hn
  refine CallT.mono c2 ?_
  rintro ⟨x, e⟩ w2 ⟨hx, hxe, e2⟩
  have c3 := dunnageref01_Put.spec ((hs.ext e1).ext e2) hl hv hn
  refine CallT.mono c3 ?_
  rintro ⟨y, f⟩ w3 ⟨hy, hyf, e3⟩
  have c4 := word_Get.spec ((ho.ext e2).ext e3).rd (by omega) (by omega) ha hk
  refine CallT.mono c4 ?_
  rintro _ w4 ⟨rfl, e4⟩
  have c5 := dunnageref01_Get.spec ((((hs.ext e1).ext e2).ext e3).ext e4) (by omega) ha hk
  refine CallT.mono c5 ?_
  rintro _ _ ⟨rfl, rfl⟩
  refine ⟨fun _ w' => Ext w4 w', ?_, ?_⟩
  · refine CallT.mono (dunnagelaw01_awake.spec w4) ?_
    rintro _ w5 ⟨rfl, e5⟩
    dsimp only at hx hy hxe hyf ⊢
    have c6 := dunnagehelp_Bytes.spec (((hx.rd.ext e3).ext e4).ext e5) ((hy.rd.ext e4).ext e5)
    refine cnd_false (CallT.mono c6 ?_)
    rintro _ _ ⟨rfl, rfl⟩
    refine cnd_neg (by simp) (cnd_neg (by rw [hxe, hyf]; simp) (cnd_neg (by simp) (cnd_neg (by simp) ?_)))
    have c7 := dunnagehelp_Kept_byte.spec (c := 71) ((((ho.ext e2).ext e3).ext e4).ext e5) (((((hs.ext e1).ext e2).ext e3).ext e4).ext e5) (by omega)
    refine CallT.mono c7 ?_
    rintro _ w6 ⟨rfl, e6⟩
    exact cnd_neg (by simp) (e5.tr e6)
  · rintro _ _ w5 e5
    have hx5 := ((Own.ext hx e3).ext e4).ext e5
    dsimp only at hx5 ⊢
    have c8 := dunnagehelp_Spoil.spec hx5 (by have := putB_len l v n; omega)
    refine CallT.mono c8 ?_
    rintro _ w6 hu
    have hge : ∀ b', SV.blk x b' → w1.heap.size ≤ b' := fun b' hb' => hx.blk_ge hb'
    have h1 : Ext w w5 := (((e1.tr e2).tr e3).tr e4).tr e5
    have h6 : Ext w w6 := h1.trans hu fun z hz hb => by have := hge z hb; have := e1.size; omega
    have ho5 := (((ho.ext e2).ext e3).ext e4).ext e5
    have ho6 := ho5.upd hu fun hb => by have := hge b hb; have := ho.lt; omega
    have c9 := dunnagehelp_Kept_byte.spec (c := 71) ho6 (hs.ext h6) (by omega)
    refine CallT.mono c9 ?_
    rintro _ w7 ⟨rfl, e7⟩
    exact ⟨by simp, h6.tr e7⟩
theorem dunnagelaw01_WordGets.spec {s : SV} {l : List UInt8} {v : Nat} {n a : Int} {w : World} (hs : RdB w s l) (hc : s.len ≤ s.cap) (hm : s.cap ≤ 140737488351232) (hv : v < 2 ^ 64) (hn : -9223372036854775808 ≤ n ∧ n ≤ 9223372036854775807) (ha : -9223372036854775808 ≤ a ∧ a ≤ 9223372036854775807) :
    CallT [.one .bool] Try.prog F.dunnagelaw01_WordGets [.slice s.a s.len s.cap, .int .u64 v, .int .i64 n, .int .i64 a] w fun r w' => r = true ∧ Ext w w' := by
  refine dunnagelaw01_WordGets.vc s v n a w _ ?_
  have hsl := hs.lenB
  have hl : l.length ≤ 140737488351232 := by omega
  have c1 := word_Put.spec hs hl hv hn
  refine CallT.mono c1 ?_
  rintro ⟨x, e⟩ w1 ⟨hx, hxe, e1⟩
  have c2 := dunnagelaw01_awake.spec w1
  refine CallT.mono c2 ?_
  rintro _ w2 ⟨rfl, e2⟩
  dsimp only at hx hxe ⊢
  refine cnd_false ⟨fun _ w' => Ext w w', ?_, ?_⟩
  · refine cnd_beq (fun he0 => ?_) (fun _ => e1.tr e2)
    subst he0
    have hp : 1 ≤ n ∧ n ≤ 8 ∧ v < 256 ^ n.toNat ∧ putB l v n = (l ++ leB n.toNat v, 0) := by
      unfold putB at hxe ⊢
      split at hxe
      · simp at hxe
      · rename_i h
        split at hxe
        · simp at hxe
        · rename_i h2
          rw [if_neg h, if_neg h2]
          exact ⟨by omega, by omega, by omega, rfl⟩
    obtain ⟨hn1, hn8, hfit, hput⟩ := hp
    obtain ⟨k, rfl⟩ : ∃ k : Nat, n = k := ⟨n.toNat, by omega⟩
    rw [Int.toNat_natCast] at hput hfit
    rw [hput] at hx
    have hxl := hx.lenB
    rw [List.length_append, leB_len] at hxl
    have c3 := word_Get.spec ((hx.ext e2).rd) hx.cap_le (by rw [List.length_append, leB_len]; omega) (a := s.len) (n := k) (by omega) hn
    refine CallT.mono c3 ?_
    rintro _ w3 ⟨rfl, e3⟩
    have hg : getB (l ++ leB k v) s.len k = ((v : Int), 0) := by
      unfold getB
      rw [if_neg (by omega), if_neg (by rw [List.length_append, leB_len]; omega), Int.toNat_natCast, Int.toNat_natCast, hsl, List.drop_left, List.take_of_length_le (by rw [leB_len]; omega), leV_leB, Nat.mod_eq_of_lt hfit]
    rw [hg]
    have hlen : ((x.len : Nat) : Int) = IntKind.i64.wrap ((s.len : Int) + (k : Int)) := by rw [i64_id] <;> omega
    rw [← hlen]
    refine cnd_neg (by simp) (cnd_neg (by simp) (cnd_neg (by simp) ((e1.tr e2).tr e3)))
  · rintro _ _ w3 e3
    have c4 := word_Get.spec (hs.ext e3) hc (by omega) ha hn
    refine CallT.mono c4 ?_
    rintro _ w4 ⟨rfl, e4⟩
    refine cnd_bne (fun _ => ⟨rfl, e3.tr e4⟩) (fun h0 => ?_)
    have hg : ∃ (i k : Nat), a = i ∧ n = k ∧ 1 ≤ k ∧ k ≤ 8 ∧ i + k ≤ l.length ∧ getB l a n = (((leV ((l.drop i).take k) : Nat) : Int), 0) := by
      unfold getB at h0 ⊢
      split at h0
      · simp at h0
      · rename_i h
        split at h0
        · simp at h0
        · rename_i h2
          exact ⟨a.toNat, n.toNat, by omega, by omega, by omega, by omega, by omega, by rw [if_neg h, if_neg h2]⟩
    obtain ⟨i, k, rfl, rfl, hk1, hk8, hik, hg⟩ := hg
    rw [hg]
    have hlen : ((l.drop i).take k).length = k := by rw [List.length_take, List.length_drop]; omega
    have hlt := leV_lt ((l.drop i).take k)
    rw [hlen] at hlt
    have h64 : 256 ^ k ≤ 256 ^ 8 := Nat.pow_le_pow_right (by decide) hk8
    have c5 := word_Put.spec (w := w4) (s := ⟨none, 0, 0⟩) (l := []) (v := leV ((l.drop i).take k)) (Rd.nil' _ _ _) (by simp) (by omega) hn
    refine CallT.mono c5 ?_
    rintro ⟨y, g⟩ w5 ⟨hy, hye, e5⟩
    have hput : putB [] (leV ((l.drop i).take k)) k = ((l.drop i).take k, 0) := by
      have := leB_leV ((l.drop i).take k)
      rw [hlen] at this
      rw [putB, if_neg (by omega), Int.toNat_natCast, if_neg (by omega), this]
      rfl
    rw [hput] at hy hye
    dsimp only at hy hye ⊢
    refine cnd_pos (by rw [hye]; rfl) ?_
    have hw : IntKind.i64.wrap ((i : Int) + (k : Int)) = ((i + k : Nat) : Int) := by rw [i64_id] <;> omega
    rw [hw]
    simp only [Int.toNat_natCast]
    refine ⟨by omega, by omega, by omega, by omega, ?_⟩
    have hw5 : Ext w w5 := (e3.tr e4).tr e5
    have hsub := (hs.ext hw5).subB hc (i := i) (j := i + k) (by omega) hik
    rw [show i + k - i = k by omega] at hsub ⊢
    have c6 := dunnagehelp_Bytes.spec hy.rd hsub
    refine CallT.mono c6 ?_
    rintro _ _ ⟨rfl, rfl⟩
    exact ⟨by simp, hw5⟩
end Go.Proofs
