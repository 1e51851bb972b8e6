/- The walks of dunnagelaw02.CrcSums, CrcJoins, CrcParts, CrcLinear: each answers true, and turns nothing that was there. Conditions: what came in is of the sizes that the form allows; for CrcParts: that they are small. -/
import Derived.Test.YtbnnpnillppdhaaCrc2
namespace Go.Proofs
open Go Go.Vc Go.Crc
theorem dunnagelaw02_CrcSums.spec {s : SV} {l : List UInt8} {n : Nat} {w : World} (hs : RdB w s l) (hc : s.len ≤ s.cap) (hm : s.cap ≤ 140737488351232) (hn0 : n < 2 ^ 32) :
    CallT [.one .bool] Try.prog F.dunnagelaw02_CrcSums [.slice s.a s.len s.cap, .int .u32 n] w fun r w' => r = true ∧ Ext w w' := by
  refine dunnagelaw02_CrcSums.vc s n w _ ?_
  have hsl := hs.lenB
  have c1 := dunnagehelp_Own_byte.spec hs (by omega) 71
  refine CallT.mono c1 ?_
  rintro o w1 ⟨hol, hoc, e1, b, ho⟩
  have c2 := dunnagelaw02_awake.spec w1
  refine CallT.mono c2 ?_
  rintro _ w2 ⟨rfl, e2⟩
  have c3 := crc_Sum.spec (ho.ext e2).rd (by omega)
  refine cnd_true (CallT.mono c3 ?_)
  rintro _ w3 ⟨rfl, e3⟩
  have c4 := dunnageref02_Sum.spec (((hs.ext e1).ext e2).ext e3) (by omega)
  refine CallT.mono c4 ?_
  rintro _ _ ⟨rfl, rfl⟩
  have c5 := crc_More.spec ((ho.ext e2).ext e3).rd (by omega) hn0
  refine cnd_pos (by simp) (CallT.mono c5 ?_)
  rintro _ w4 ⟨rfl, e4⟩
  have c6 := dunnageref02_More.spec ((((hs.ext e1).ext e2).ext e3).ext e4) (by omega) hn0
  refine CallT.mono c6 ?_
  rintro _ _ ⟨rfl, rfl⟩
  have c7 := dunnagehelp_Kept_byte.spec (c := 71) (((ho.ext e2).ext e3).ext e4) ((((hs.ext e1).ext e2).ext e3).ext e4) (by omega)
  refine cnd_pos (by simp) (CallT.mono c7 ?_)
  rintro _ w5 ⟨rfl, e5⟩
  exact ⟨by simp, (((e1.tr e2).tr e3).tr e4).tr e5⟩
theorem dunnagelaw02_CrcJoins.spec {a b : Nat} {n : Int} {w : World} (ha : a < 2 ^ 32) (hb : b < 2 ^ 32) (hn0 : -9223372036854775808 ≤ n ∧ n ≤ 9223372036854775807) :
    CallT [.one .bool] Try.prog F.dunnagelaw02_CrcJoins [.int .u32 a, .int .u32 b, .int .i64 n] w fun r w' => r = true ∧ Ext w w' := by
  refine dunnagelaw02_CrcJoins.vc a b n w _ ?_
  have c1 := dunnagelaw02_awake.spec w
  refine CallT.mono c1 ?_
  rintro _ w1 ⟨rfl, e1⟩
  have c2 := crc_Join.spec ha hb hn0.2 w1
  refine cnd_true (CallT.mono c2 ?_)
  rintro _ _ ⟨rfl, rfl⟩
  have c3 := dunnageref02_Join.spec ha hb hn0.2 w1
  refine CallT.mono c3 ?_
  rintro _ _ ⟨rfl, rfl⟩
  exact ⟨by simp, e1⟩
theorem joinC_lt {a b : Nat} {n : Int} (ha : a < 2 ^ 32) (hb : b < 2 ^ 32) : joinC a b n < 2 ^ 32 := by
  unfold joinC
  split
  · exact ha
  · exact Nat.xor_lt_two_pow (Crc.hn_lt _ ha) hb
/-- The sum of two texts, one behind the other. -/
theorem join_more (a b : List UInt8) : joinC (more 0 a) (more 0 b) (b.length : Int) = more 0 (a ++ b) := by
  unfold joinC
  split
  · have : b = [] := List.eq_nil_of_length_eq_zero (by omega)
    subst this
    rw [List.append_nil]
  · rw [Int.toNat_natCast]
    simp only [more, Nat.zero_xor]
    rw [(Crc.hn_lin _).x, raw_append, raw_split b (raw M a), raw_split b M, Nat.xor_assoc, Nat.xor_assoc, Nat.xor_assoc]
    congr 1
    rw [← Nat.xor_assoc (Crc.hn _ M), Nat.xor_self, Nat.zero_xor]
theorem more_more (a b : List UInt8) (s : Nat) : more (more s a) b = more s (a ++ b) := by
  simp only [more]
  rw [Nat.xor_assoc, Nat.xor_self, Nat.xor_zero, raw_append]
theorem dunnagelaw02_CrcParts.spec {s t u : SV} {a b c : List UInt8} {w : World} (hs : RdB w s a) (ht : RdB w t b) (hu : RdB w u c) (hcs : s.len ≤ s.cap) (hct : t.len ≤ t.cap) (hcu : u.len ≤ u.cap) (hms : s.cap ≤ 1048576) (hmt : t.cap ≤ 1048576) (hmu : u.cap ≤ 1048576) :
    CallT [.one .bool] Try.prog F.dunnagelaw02_CrcParts [.slice s.a s.len s.cap, .slice t.a t.len t.cap, .slice u.a u.len u.cap] w fun r w' => r = true ∧ Ext w w' := by
  refine dunnagelaw02_CrcParts.vc s t u w _ ?_
  have hsl := hs.lenB
  have htl := ht.lenB
  have hul := hu.lenB
  refine app_rd (s := ⟨none, 0, 0⟩) (cs := []) appB (Upd.refl (fun _ => False) _) (Own.nil _ _ _ _) hs (B8_one _) (fun hlt => by simp only [Nat.zero_add] at hlt ⊢; rw [nextcap_zero hlt]; omega) ?_
  intro s1 w1 h1 e1 l1 _
  simp only [Nat.zero_add] at l1
  refine app_rd appB e1 h1 (ht.ext e1) (B8_one _) (fun hlt => Nat.le_trans (Nat.mul_le_mul_right _ (nextcap_le hlt)) (by omega)) ?_
  intro s2 w2 h2 e2 l2 _
  have h2' : RdB w2 s2 (a ++ b) := by rw [RdB, B8_append]; exact h2.rd
  refine app_rd (w0 := w2) (s := ⟨none, 0, 0⟩) (cs := []) appB (Upd.refl (fun _ => False) _) (Own.nil _ _ _ _) h2' (B8_one _) (fun hlt => by simp only [Nat.zero_add] at hlt ⊢; rw [nextcap_zero hlt]; omega) ?_
  intro s3 w3 h3 e3 l3 _
  simp only [Nat.zero_add] at l3
  refine app_rd appB e3 h3 ((hu.ext e2).ext e3) (B8_one _) (fun hlt => Nat.le_trans (Nat.mul_le_mul_right _ (nextcap_le hlt)) (by omega)) ?_
  intro s4 w4 h4 e4 l4 _
  have h4' : RdB w4 s4 ((a ++ b) ++ c) := by rw [RdB, B8_append (a ++ b)]; exact h4.rd
  have e : Ext w w4 := e2.tr e4
  clear e1 e2 e3 e4 h1 h2 h2' h3 h4
  have ma := more_lt (s := 0) (by decide) a
  have mb := more_lt (s := 0) (by decide) b
  have mc := more_lt (s := 0) (by decide) c
  have c1 := crc_Sum.spec h4' (by simp; omega)
  refine CallT.mono c1 ?_
  rintro _ w5 ⟨rfl, e5⟩
  have e := e.tr e5
  have c2 := crc_Sum.spec (hs.ext e) (by omega)
  refine CallT.mono c2 ?_
  rintro _ w6 ⟨rfl, e6⟩
  have e := e.tr e6
  have c3 := crc_Sum.spec (ht.ext e) (by omega)
  refine CallT.mono c3 ?_
  rintro _ w7 ⟨rfl, e7⟩
  have e := e.tr e7
  have c4 := crc_Join.spec ma mb (n := t.len) (by omega) w7
  refine CallT.mono c4 ?_
  rintro _ _ ⟨rfl, rfl⟩
  rw [htl, join_more]
  have c5 := crc_Sum.spec (hu.ext e) (by omega)
  refine CallT.mono c5 ?_
  rintro _ w8 ⟨rfl, e8⟩
  have e := e.tr e8
  have mab := more_lt (s := 0) (by decide) (a ++ b)
  have c6 := crc_Join.spec mab mc (n := u.len) (by omega) w8
  refine CallT.mono c6 ?_
  rintro _ _ ⟨rfl, rfl⟩
  rw [hul, join_more]
  have c7 := crc_Sum.spec (hs.ext e) (by omega)
  refine CallT.mono c7 ?_
  rintro _ w9 ⟨rfl, e9⟩
  have e := e.tr e9
  have c8 := crc_Sum.spec (ht.ext e) (by omega)
  rw [htl] at c8
  refine CallT.mono c8 ?_
  rintro _ w10 ⟨rfl, e10⟩
  have e := e.tr e10
  have c9 := crc_Sum.spec (hu.ext e) (by omega)
  rw [hul] at c9
  refine CallT.mono c9 ?_
  rintro _ w11 ⟨rfl, e11⟩
  have e := e.tr e11
  have c10 := crc_Join.spec mb mc (n := c.length) (by omega) w11
  refine CallT.mono c10 ?_
  rintro _ _ ⟨rfl, rfl⟩
  rw [join_more]
  have hw : IntKind.i64.wrap ((b.length : Int) + (c.length : Int)) = (((b ++ c).length : Nat) : Int) := by rw [List.length_append, i64_id] <;> omega
  rw [hw]
  have mbc := more_lt (s := 0) (by decide) (b ++ c)
  have c11 := crc_Join.spec ma mbc (n := ((b ++ c).length : Nat)) (by simp; omega) w11
  refine CallT.mono c11 ?_
  rintro _ _ ⟨rfl, rfl⟩
  rw [join_more]
  have c12 := dunnagelaw02_awake.spec w11
  refine CallT.mono c12 ?_
  rintro _ w12 ⟨rfl, e12⟩
  have e := e.tr e12
  have c13 := crc_Sum.spec (hs.ext e) (by omega)
  refine cnd_true (CallT.mono c13 ?_)
  rintro _ w13 ⟨rfl, e13⟩
  have e := e.tr e13
  have c14 := crc_More.spec (ht.ext e) (by omega) ma
  rw [htl] at c14
  refine CallT.mono c14 ?_
  rintro _ w14 ⟨rfl, e14⟩
  have e := e.tr e14
  rw [more_more]
  have c15 := crc_More.spec (hu.ext e) (by omega) mab
  rw [hul] at c15
  refine CallT.mono c15 ?_
  rintro _ w15 ⟨rfl, e15⟩
  rw [more_more]
  exact cnd_pos (by simp) (cnd_pos (by simp) ⟨by simp, e.tr e15⟩)
end Go.Proofs
