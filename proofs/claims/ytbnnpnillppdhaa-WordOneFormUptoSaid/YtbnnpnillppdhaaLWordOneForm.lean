/- The walk of dunnagelaw01.WordOneForm: it answers true, and turns nothing that was there. Conditions: what came in is small. -/
import Derived.Test.YtbnnpnillppdhaaCond0
import Derived.Test.YtbnnpnillppdhaaVarMath
namespace Go.Proofs
open Go Go.Vc
theorem dunnagelaw01_WordOneForm.spec {s t u : SV} {l h r : List UInt8} {a : Int} {v : Nat} {w : World} (hs : RdB w s l) (hc : s.len ≤ s.cap) (hm : s.cap ≤ 1048576) (ht : RdB w t h) (htc : t.len ≤ t.cap) (htm : t.cap ≤ 1048576) (hu : RdB w u r) (huc : u.len ≤ u.cap) (hum : u.cap ≤ 1048576)
    (ha : a ≤ 9223372036854775807) (hv : v < 2 ^ 64) :
    CallT [.one .bool] Try.prog F.dunnagelaw01_WordOneForm [.slice s.a s.len s.cap, .int .i64 a, .int .u64 v, .slice t.a t.len t.cap, .slice u.a u.len u.cap] w fun r w' => r = true ∧ Ext w w' := by
  refine dunnagelaw01_WordOneForm.vc s a v t u w _ ?_
  have hsl := hs.lenB
  have htl := ht.lenB
  have hul := hu.lenB
  refine CallT.mono (word_ReadVar.spec hs (by omega) a ha) ?_
  rintro ⟨x, n, e⟩ w1 ⟨hr, e1⟩
  intro en
  refine ⟨fun _ w' => Ext w w', ⟨fun _ => True, trivial, ?_⟩, ?_⟩
  · refine CallT.mono (dunnagelaw01_awake.spec _) ?_
    rintro _ w2 ⟨rfl, e2⟩
    have e02 : Ext w w2 := (e1.tr (ext_drew _)).tr e2
    refine cnd_neg rfl (cnd_beq (fun he => ?_) (fun _ => e02))
    dsimp only at he
    subst he
    obtain ⟨k, y, m, rfl, rfl, hn, hkm, hml, hy, hvb⟩ := readVar_form hr.symm
    have hen : en = (m : Int) := hn
    clear_value en
    subst hen
    refine cnd_dec (fun h => absurd h (by omega)) (fun _ => cnd_dec (fun h => absurd h (by omega)) (fun _ => ⟨by omega, by omega, by omega, by omega, ?_⟩))
    refine CallT.mono (word_Var.spec y hy w2) ?_
    rintro o w3 ⟨ho, e3, _⟩
    have hsub := ((hs.ext e02).ext e3).subB hc (i := k) (j := m) (by omega) (by omega)
    refine CallT.mono (dunnagehelp_Bytes.spec ho.rd hsub) ?_
    rintro _ _ ⟨rfl, rfl⟩
    rw [hvb]
    exact cnd_neg (by simp) (e02.tr e3)
  · rintro _ _ w2 e2
    have hvl := varB_10 hv
    refine app_rd (s := ⟨none, 0, 0⟩) (cs := []) appB (Upd.refl (fun _ => False) w2) (Own.nil _ _ _ _) (ht.ext e2) (B8_one _) (fun hlt => ?_) ?_
    · simp only [Nat.zero_add] at hlt ⊢
      rw [nextcap_zero hlt]; omega
    intro s1 w3 h1 e3 l1 _
    simp only [List.nil_append] at h1
    refine CallT.mono (word_Var.spec v hv w3) ?_
    rintro o w4 ⟨ho, e4, _⟩
    have hol := ho.lenB
    refine app_rd appB (e3.tr e4) (h1.ext e4) ho.rd (B8_one _) (fun hlt => Nat.le_trans (Nat.mul_le_mul_right _ (nextcap_le hlt)) (by simp only [Nat.zero_add] at l1; omega)) ?_
    intro s2 w5 h2 e5 l2 _
    refine app_rd appB e5 h2 ((hu.ext e2).ext e5) (B8_one _) (fun hlt => Nat.le_trans (Nat.mul_le_mul_right _ (nextcap_le hlt)) (by simp only [Nat.zero_add] at l1; omega)) ?_
    intro s3 w6 h3 e6 l3 _
    have hall : RdB w6 s3 (h ++ (varB v ++ r)) := by
      have := h3.rd
      rw [← B8_append, ← B8_append, List.append_assoc] at this
      exact this
    refine CallT.mono (word_ReadVar.spec hall (by simp only [List.length_append]; omega) (t.len : Int) (by omega)) ?_
    rintro _ w7 ⟨rfl, e7⟩
    rw [htl, readVar_varB hv]
    refine cnd_pos rfl (cnd_pos (by simp) ⟨?_, (e2.tr e6).tr e7⟩)
    simp only [Nat.zero_add] at l1
    dsimp only
    rw [i64_id (by omega) (by omega), beq_iff_eq]
    omega
end Go.Proofs
